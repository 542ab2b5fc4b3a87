/- Parts of the proof, laid together. -/
import Derived.Test.YtgbbhilflgekhaaGreatDoorVye
set_option linter.unusedVariables false
set_option linter.unusedSimpArgs false
set_option maxRecDepth 20000
set_option maxHeartbeats 16000000
section
namespace Go.Proofs.Y
open Go Go.Ab
open Go.Proofs.Tryz renaming prog->Pg
def kd1 (n:Nt)(r:Nr)(e:Ed):Bool:=decide (e.n=0/\e.level=0) && (decide ((if r.lexer then 0 else 1)<=(e.set.getD 0 default).1) && decide ((e.set.getD (e.set.length - 1) default).2<=(if r.lexer then 1114111 else (n.types.length:Int))))
theorem Jqa(n:Nt)(r:Nr)(no:Int)(e:Ed)(h:n.types.length<=2000000000)(hs:0<e.set.length)(hl:e.set.length<=2000000000):JN Pg 94 [.agg (JcO n r no e)] (.lit (.bool (kd1 n r e))):=by
 refine Jo Tryz.func94 rfl Tryz.ntmps94 (rs:=[.tmp 2]) rfl (by simp) ?_;simp (disch:=omega) only[Wz,seval,JcO,Jr,Jf,Jh,Lx];refine Jw (n:=56) rfl (by decide) mixed ?_;have hw:IntKind.i32.wrap (n.types.length:Int)=(n.types.length:Int):=IntWalk.i32_in _ ⟨by omega,by omega⟩;have i1:((e.set.length:Int) - 1).toNat=e.set.length - 1:=by omega
 have i2:IntKind.i64.wrap ((e.set.length:Int) - 1)=(e.set.length:Int) - 1:=Jdh (by omega) (by omega);unfold kd1;cases hx:r.lexer
 ·by_cases k1:e.n=0
  ·by_cases k2:e.level=0
   ·by_cases k3:1<=(e.set.getD 0 default).1
    ·by_cases k4:(e.set.getD (e.set.length - 1) default).2<=(n.types.length:Int);all_goals
      simp (disch:=omega) only[Wz,seval,Jf,hx,hw,i1,i2,Ja2,Bool.true_and,Bf];exact Jb (.lit _)
    ·simp (disch:=omega) only[Wz,seval,Jf,hx,hw,i1,i2,Ja2,Bool.true_and,Bool.false_and,Bf];exact Jb (.lit _)
   ·simp (disch:=omega) only[Wz,seval,Jf,hx,hw,i1,i2,Ja2,Bool.true_and,Bool.false_and,Bf];exact Jb (.lit _)
  ·simp (disch:=omega) only[Wz,seval,Jf,hx,hw,i1,i2,Ja2,Bool.true_and,Bool.false_and,Bf];exact Jb (.lit _)
 ·by_cases k1:e.n=0
  ·by_cases k2:e.level=0
   ·by_cases k3:0<=(e.set.getD 0 default).1
    ·by_cases k4:(e.set.getD (e.set.length - 1) default).2<=1114111;all_goals
      simp (disch:=omega) only[Wz,seval,Jf,hx,hw,i1,i2,Ja2,Bool.true_and,Bf];exact Jb (.lit _)
    ·simp (disch:=omega) only[Wz,seval,Jf,hx,hw,i1,i2,Ja2,Bool.true_and,Bool.false_and,Bf];exact Jb (.lit _)
   ·simp (disch:=omega) only[Wz,seval,Jf,hx,hw,i1,i2,Ja2,Bool.true_and,Bool.false_and,Bf];exact Jb (.lit _)
  ·simp (disch:=omega) only[Wz,seval,Jf,hx,hw,i1,i2,Ja2,Bool.true_and,Bool.false_and,Bf];exact Jb (.lit _)
theorem Jms:JaY Pg 80 [] (.agg [.fn (.func 93) [] [],.fn (.func 94) [] [],.fn (.func 95) [] [],.fn (.func 96) [] [],.fn (.func 98) [] [],.fn (.func 99) [] [],.fn (.func 100) [] [],.fn (.func 101) [] []]):=by
 refine J5 (JC Tryz.func80 rfl Tryz.ntmps80 (rs:=[.cell 0 172]) rfl (by simp) ?_);simp (disch:=omega) only[Wz,seval];exact Jar (.of_pure (.agg (Jc (.fn Jm Jm) (Jc (.fn Jm Jm) (Jc (.fn Jm Jm) (Jc (.fn Jm Jm) (Jc (.fn Jm Jm) (Jc (.fn Jm Jm) (Jc (.fn Jm Jm) (Jc (.fn Jm Jm) Jm))))))))))
theorem Jsq(n:Nt)(st ru:Int)(h:n.states.length<=2000000000):JN Pg 79 [.pp (Jh n) 0,.lit (.int .i64 st),.lit (.int .i64 ru)] (.lit (.bool (ofN n st ru))):=by
 refine Jo Tryz.func79 rfl Tryz.ntmps79 (rs:=[.tmp 6]) rfl (by simp) ?_;unfold ofN;by_cases k1:0<=st
 ·by_cases k2:st<(n.states.length:Int)
  ·by_cases k3:(n.states.getD st.toNat default).rule=ru;all_goals
    simp (disch:=omega) only[Wz,seval,Jh,Je,Bool.true_and];exact Jb (.lit _)
  ·simp (disch:=omega) only[Wz,seval,Jh,Bool.false_and];exact Jb (.lit _)
 ·simp (disch:=omega) only[Wz,seval,Jh,Bool.false_and];exact Jb (.lit _)
theorem Jhd{a b:ByteArray}(h:a.toList=b.toList):a=b:=by
 rw[ByteArray.toList_eq,ByteArray.toList_eq] at h;cases a;cases b;simp only[Array.toList_inj] at h;rw[h]
instance:DecidableEq ByteArray:=fun a b=>decidable_of_iff (a.toList=b.toList) ⟨Jhd,fun h=>by rw[h]⟩
theorem Jx(a b:ByteArray):(a.toList==b.toList)=decide (a=b):=by
 by_cases h:a=b
 ·subst h;simp
 ·rw[decide_eq_false h];cases hb:a.toList==b.toList with
  | false=>rfl
  | true=>exact absurd (Jhd (by simpa using hb)) h
def JxR (b:ByteArray):AV:=.lit (.string b)
theorem JBb:JpB Pg 9 JxR:=fun a b=>by
 show JbX Pg 9 (.lit (.string a)) (.lit (.string b))=_;unfold JbX;rw[ty9];show JcQ .str _ _=_;simp only[JcQ,Jx]
abbrev JxS{K:Type}[DecidableEq K](x:K)(l:List K):Decidable (x∈l):=inferInstance
instance memB (x:ByteArray) (l:List ByteArray):Decidable (x∈l):=JxS x l
theorem Jqb{l:List ByteArray}{i:Nat}(hi:i<l.length)(h:l.getD i default∉l.take i):Jl5 (l.take i) (l.getD i default)=l.take (i+1):=by
 unfold Jl5;rw[if_neg h,List.take_add_one,List.getD_eq_getElem?_getD,List.getElem?_eq_getElem hi];rfl
def Jlt (l:List ByteArray)(j:Nat):Bool:=decide (l.getD j default≠⟨#[]⟩) && (decide ((l.getD j default).size<=40) && !decide (l.getD j default∈l.take j))
def Jcq(l:List ByteArray):Bool:=(List.range l.length).all (Jlt l)
theorem Jc4(l:List ByteArray)(fl:Bool)(h:l.length<=2000000000)(hs:∀ s∈l,s.size<=9000000000000000000):JaY Pg 77 [.vec (l.map JaA) fl] (.lit (.bool (Jcq l))):=by
 refine J5 (JC Tryz.func77 rfl Tryz.ntmps77 (rs:=[.tmp 2]) rfl (by simp) ?_);simp (disch:=omega) only[Wz,seval];refine JbM l.length 1 (fun i (_:Unit)=>⟨[(9,.lit (.int .i64 (i:Int))),(8,.lit (.int .i64 (l.length:Int))),(7,.vec (l.map JaA) fl),(3,.om 0)],⟨[],[(0,⟨Jea JxR (l.take i),0,0⟩)],1⟩,28⟩) (fun i _=>∀ j,j<i->Jlt l j=true) (fun _ _=>rfl) () (St.wk_slots (by simp[lk])) (by simp) (fun i _ hlt hno=>?_) (fun _ hno=>?_)
 ·have key:Jlt l i=(decide (l.getD i default≠⟨#[]⟩) && (decide ((l.getD i default).size<=40) && !decide (l.getD i default∈l.take i))):=rfl;have hsz:=hs _ (Jv hlt);have hm:Jm3 Pg 9 4 false (.lit (.string (l.getD i default))) (Jea JxR (l.take i))=some (.lit (.bool (decide (l.getD i default∈l.take i)))):=JhO JBb (l.getD i default) (l.take i) zr4;have hp:JqW Pg 9 (.lit (.string (l.getD i default))) (.lit (.bool true)) (Jea JxR (l.take i))=some (Jea JxR (Jl5 (l.take i) (l.getD i default))):=JhP JBb (l.getD i default) (l.take i);have adds:=Jqb hlt;have no:Jlt l i=false->Jcq l=false:=Ja7 hlt;have yes:Jlt l i=true->∀ j,j<i+1->Jlt l j=true:=Jap hno;rw[key] at no yes;obtain⟨s,hs0⟩:∃ s,l.getD i default=s:=⟨_,rfl⟩;rw[hs0] at no yes hm hp adds hsz;by_cases k1:s=⟨#[]⟩
  ·rw[no (by rw[k1];simp)];have k1':decide (s=⟨#[]⟩)=true:=decide_eq_true k1;simp (disch:=omega) only[Wz,seval,JaA,Jx,hs0,k1'];exact Jar (.lit _)
  have k1':decide (s=⟨#[]⟩)=false:=decide_eq_false k1;have k1'':decide (s≠⟨#[]⟩)=true:=decide_eq_true k1;rw[k1'',Bool.true_and] at no yes;by_cases k2:s.size<=40
  ·rw[decide_eq_true k2,Bool.true_and] at no yes;by_cases k3:s∈l.take i
   ·rw[decide_eq_true k3] at no hm;rw[no rfl];simp (disch:=omega) only[Wz,seval,JaA,Jx,hs0,k1',hm];exact Jar (.lit _)
   ·rw[decide_eq_false k3] at hm yes;rw[adds k3] at hp;simp (disch:=omega) only[Wz,seval,JaA,Jx,hs0,k1',hm,hp];exact⟨(),yes rfl,St.wk.cp (St.wk_slots (by simp[lk]))⟩
  ·rw[decide_eq_false k2,Bool.false_and] at no;rw[no rfl];simp (disch:=omega) only[Wz,seval,JaA,Jx,hs0,k1'];exact Jar (.lit _)
 ·have e:Jcq l=true:=Jat hno;rw[e];simp (disch:=omega) only[Wz,seval];exact Jar (.lit _)
structure JBc (e:Ed):Prop where
 set:e.set.length<=1000000000
 acts:e.acts.length<=1000000000
 g:gsz e.g<=1000000000
 gd:Jof e.g
 rng:Jjh e.set
structure JbU (n:Nt):Prop where
 types:n.types.length<=1000000000
 channels:n.channels.length<=1000000000
 modes:n.modes.length<=1000000000
 rules:n.rules.length<=1000000000
 states:n.states.length<=1000000000
 typ:∀ s∈n.types,s.size<=9000000000000000000
 chan:∀ s∈n.channels,s.size<=9000000000000000000
 mode:∀ s∈n.modes,s.size<=9000000000000000000
 name:∀ r∈n.rules,r.name.size<=9000000000000000000
 edges:∀ s∈n.states,s.edges.length<=1000000000/\∀ e∈s.edges,JBc e
theorem JxT{l:List ByteArray}(h:1<=l.length):Je4 1 (l.map JaA) false (some 1) none none=some (.vec ((l.drop 1).map JaA) false):=by
 have hl:∀ x∈l.map JaA,x.length=1:=fun x hx=>by obtain⟨b,_,rfl⟩:=List.mem_map.1 hx;rfl
 have c:(0:Int)<=1/\(1:Int)<=((l.map JaA).length:Int)/\((l.map JaA).length:Int)<=((l.map JaA).length:Int)/\((l.map JaA).length:Int)<=((l.map JaA).length:Int)/\((none:Option Int).isSome->(none:Option Int).isSome)/\∀ x∈l.map JaA,x.length=1:=⟨by decide,by simp;omega,Int.le_refl _,Int.le_refl _,id,hl⟩;unfold Je4;simp only[Option.getD_none,Option.getD_some];rw[if_pos c];have e:((l.map JaA).drop (1:Int).toNat).take (((l.map JaA).length:Int).toNat - (1:Int).toNat)=(l.drop 1).map JaA:=by
  rw[List.take_of_length_le (by simp)];simp
 rw[e];rfl
def Jgq(l:List ByteArray):Bool:=decide (0<l.length/\l.length<=20) && (decide (l.getD 0 default=⟨#[]⟩) && Jcq (l.drop 1))
theorem Jon(l:List ByteArray)(h:l.length<=2000000000)(hs:∀ s∈l,s.size<=9000000000000000000):JaY Pg 78 [.vec (l.map JaA) false] (.lit (.bool (Jgq l))):=by
 refine J5 (JC Tryz.func78 rfl Tryz.ntmps78 (rs:=[.tmp 2]) rfl (by simp) ?_);unfold Jgq;by_cases h1:0<l.length
 ·by_cases h2:l.length<=20
  ·obtain⟨s,hs0⟩:∃ s,l.getD 0 default=s:=⟨_,rfl⟩;by_cases h3:s=⟨#[]⟩
   ·have h3':decide (s=⟨#[]⟩)=true:=decide_eq_true h3;have sl:=JxT (l:=l) (by omega);simp (disch:=omega) only[Wz,seval,hs0,Jx,h3',Bool.true_and,sl,JaA];refine JR Jlm (Jc4 (l.drop 1) false (by simp;omega) (fun s hs'=>hs s (List.mem_of_mem_drop hs'))) (Jc (.of_pure (.vec (Jk Jal _))) Jm) (.lit _) ?_;simp (disch:=omega) only[Wz,seval];exact Jar (.lit _)
   ·have h3':decide (s=⟨#[]⟩)=false:=decide_eq_false h3;simp (disch:=omega) only[Wz,seval,JaA,hs0,Jx,h3',Bool.true_and,Bool.false_and];exact Jar (.lit _)
  ·simp (disch:=omega) only[Wz,seval,Bool.false_and];exact Jar (.lit _)
 ·simp (disch:=omega) only[Wz,seval,Bool.false_and];exact Jar (.lit _)
def JdX(n:Nt)(i:Nat):Bool := !(decide (0<i) && ((n.rules.getD i default).lexer && !(n.rules.getD (i - 1) default).lexer))
def JcL(n:Nt):Bool:=(List.range n.rules.length).all (JdX n) && (decide (n.types.length<=200/\n.rules.length<=100/\n.states.length<=4000) && (Jcq n.types && (Jgq n.channels && (Jgq n.modes && Jcq (n.rules.map Nr.name)))))
theorem Jmt(n:Nt)(ok:JbU n):JaY Pg 58 [.pp (Jh n) 0] (.lit (.bool (JcL n))):=by
 have h:=ok.rules;have ht:=ok.types;have hc:=ok.channels;have hm:=ok.modes;have hst:=ok.states;refine J5 (JC Tryz.func58 rfl Tryz.ntmps58 (rs:=[.tmp 2]) rfl (by simp) ?_);simp (disch:=omega) only[Wz,seval,Jh];refine JrR n.rules.length 0 (fun i (xs:List (List AV))=>⟨[(11,.lit (.int .i64 (i:Int))),(10,.lit (.int .i64 (n.rules.length:Int))),(9,.vec (n.rules.map Jf) false),(0,.pp (Jh n) 0),(3,grA 0 xs)],⟨[],grT 0 1 xs,grN 0 xs⟩,87⟩)
  (fun i xs=>xs=((n.rules.map Nr.name).take i).map JaA/\∀ j,j<i->JdX n j=true) (Nat.le_refl _) [] (St.wk.cp (St.wk_slots (by simp[lk,Jh,grA]))) ⟨rfl,by simp⟩ ?_ ?_
 ·rintro i xs hi ⟨hxs,hno⟩;have hxl:xs.length=i:=by rw[hxs];simp;omega
  have key:JdX n i = !(decide (0<i) && ((n.rules.getD i default).lexer && !(n.rules.getD (i - 1) default).lexer)):=rfl;have hnext:xs++[JaA (n.rules.getD i default).name]=((n.rules.map Nr.name).take (i+1)).map JaA:=by
   rw[hxs,List.take_add_one,List.getElem?_map,List.getElem?_eq_getElem hi];simp[List.getD_eq_getElem?_getD,List.getElem?_eq_getElem hi]
  cases xs with
  | nil =>
   have h0:i=0:=by simp at hxl;omega
   have hfit:JbS 1 16:=J2 (by decide) (by decide);simp (disch:=omega) only[Wz,seval,Jh,Jf,grA,grT,grN,hfit,List.mem_singleton,forall_eq,List.not_mem_nil,false_imp_iff,implies_true];refine⟨[JaA (n.rules.getD i default).name],⟨by simpa using hnext,Jap hno (by rw[key,h0];rfl)⟩,?_⟩;exact St.cp_of 0 [1] (by show 0<=2;decide) rfl rfl (by decide) (by show ∀ x∈[1],0<=x/\x<2;decide) (Jc ⟨_,rfl,.pure (.lit _)⟩ (Jc ⟨_,rfl,.pure (.lit _)⟩ (Jc ⟨_,rfl,.pure (.vec (Jk Ja9 _))⟩ (Jc ⟨_,rfl,.pure (Ja4 n)⟩ (Jc ⟨_,rfl,.own (by show 0<1;decide) rfl⟩ Jm))))) Jm
    (Jc ⟨by show 0<1;decide,_,rfl,rfl,rfl,.pure (Jk Jal [(n.rules.getD i default).name])⟩ Jm)
  | cons x l =>
   simp only[List.length_cons] at hxl;have hfit:JbS (l.length+1+1) 16:=J2 (by omega) (by omega);have i1:((i:Int) - 1).toNat=i - 1:=by omega
   have i2:IntKind.i64.wrap ((i:Int) - 1)=(i:Int) - 1:=Jdh (by omega) (by omega);have hlen2:(l++[JaA (n.rules.getD i default).name]).length+1=l.length+1+1:=by simp
   have rp:∀ y∈x :: l++[JaA (n.rules.getD i default).name],∀ c∈y,Ab.Pure c:=by rw[hnext];exact Jk Jal _
   have key1:JdX n i = !((n.rules.getD i default).lexer && !(n.rules.getD (i - 1) default).lexer):=by rw[key,decide_eq_true (by omega),Bool.true_and]
   have back:JdX n i=true->∀ sl:List (Nat × AV),∀ bx:List AV,lk sl 11=some (.lit (.int .i64 ((i+1:Nat):Int)))->lk sl 10=some (.lit (.int .i64 (n.rules.length:Int)))->lk sl 9=some (.vec (n.rules.map Jf) false)->lk sl 0=some (.pp (Jh n) 0)->lk sl 3=some (.own 0 (l.length+1+1)) ->
     ∃ a',(a'=((n.rules.map Nr.name).take (i+1)).map JaA/\∀ j,j<i+1->JdX n j=true)/\St.cp 0 ⟨sl,⟨[(1,bx)],[(0,⟨x :: l++[JaA (n.rules.getD i default).name],0,1⟩)],2⟩,87⟩ ⟨[(11,.lit (.int .i64 ((i+1:Nat):Int))),(10,.lit (.int .i64 (n.rules.length:Int))),(9,.vec (n.rules.map Jf) false),(0,.pp (Jh n) 0),(3,grA 0 a')],⟨[],grT 0 1 a',grN 0 a'⟩,87⟩:=fun hk sl bx e1 e2 e3 e4 e5=>by
    refine⟨x :: l++[JaA (n.rules.getD i default).name],⟨hnext,Jap hno hk⟩,?_⟩;simp only[List.cons_append,grA,grT,grN,hlen2];exact Ja3 (Nat.zero_le _) (by show 1<=2;decide) rfl (Jc ⟨e1,.pure (.lit _)⟩ (Jc ⟨e2,.pure (.lit _)⟩ (Jc ⟨e3,.pure (.vec (Jk Ja9 _))⟩ (Jc ⟨e4,.pure (Ja4 n)⟩ (Jc ⟨e5,.own (by show 0<1;decide) rfl⟩ Jm))))) Jm (Jc ⟨by show 0<1;decide,rfl,.pure rp⟩ Jm)
   cases hx:(n.rules.getD i default).lexer
   ·simp (disch:=omega) only[Wz,seval,Jh,Jf,grA,grT,grN,hx,hfit,List.mem_singleton,forall_eq,List.not_mem_nil,false_imp_iff,implies_true];exact back (by rw[key1,hx];rfl) _ _ rfl rfl rfl rfl rfl
   ·cases hy:(n.rules.getD (i - 1) default).lexer
    ·simp (disch:=omega) only[Wz,seval,Jh,Jf,grA,grT,grN,hx,hy,i1,i2,hfit,List.mem_singleton,forall_eq,List.not_mem_nil,false_imp_iff,implies_true];have e:(List.range n.rules.length).all (JdX n)=false:=Ja7 hi (by rw[key1,hx,hy];rfl);unfold JcL;rw[e];exact Jar (.lit _)
    ·simp (disch:=omega) only[Wz,seval,Jh,Jf,grA,grT,grN,hx,hy,i1,i2,hfit,List.mem_singleton,forall_eq,List.not_mem_nil,false_imp_iff,implies_true];exact back (by rw[key1,hx,hy];rfl) _ _ rfl rfl rfl rfl rfl
 ·rintro xs ⟨hxs,hno⟩;have e:(List.range n.rules.length).all (JdX n)=true:=Jat hno;unfold JcL;rw[e,Bool.true_and];have hxs:xs=(n.rules.map Nr.name).map JaA:=by rw[hxs];rw[List.take_of_length_le (by simp)]
  have fin:∀ h (b:Bool),JdV h (.lit (.bool b)) (.lit (.bool b)):=fun h b=>Jar (.lit _);have gps:∀ l:List ByteArray,GP (.vec (l.map JaA) false):=fun l=>.of_pure (.vec (Jk Jal _));by_cases k1:n.types.length<=200
  ·by_cases k2:n.rules.length<=100
   ·by_cases k3:n.states.length<=4000
    ·simp (disch:=omega) only[Wz,seval,Jh,Bool.true_and];refine JR Jlm (Jc4 n.types false (by omega) ok.typ) (Jc (gps _) Jm) (.lit _) ?_;cases Jcq n.types
     ·simp (disch:=omega) only[Wz,seval,Bool.false_and];exact fin _ _
     simp (disch:=omega) only[Wz,seval,Jh,Bool.true_and];refine JR Jrk (Jon n.channels (by omega) ok.chan) (Jc (gps _) Jm) (.lit _) ?_;cases Jgq n.channels
     ·simp (disch:=omega) only[Wz,seval,Bool.false_and];exact fin _ _
     simp (disch:=omega) only[Wz,seval,Jh,Bool.true_and];refine JR Jrk (Jon n.modes (by omega) ok.mode) (Jc (gps _) Jm) (.lit _) ?_;cases Jgq n.modes
     ·simp (disch:=omega) only[Wz,seval,Bool.false_and];exact fin _ _
     have un:=Jc4 (n.rules.map Nr.name) false (by simp;omega) (fun s hs=>by obtain⟨r,hr,rfl⟩:=List.mem_map.1 hs;exact ok.name r hr);have un':=Jc4 (n.rules.map Nr.name) true (by simp;omega) (fun s hs=>by obtain⟨r,hr,rfl⟩:=List.mem_map.1 hs;exact ok.name r hr);rw[<- hxs] at un un';cases xs with
     | nil =>
      simp (disch:=omega) only[Wz,seval,Jh,Bool.true_and,grA,grT,grN];refine JR Jlm un' (Jc (.of_pure (.vec Jm)) Jm) (.lit _) ?_;simp (disch:=omega) only[Wz,seval];exact fin _ _
     | cons x l =>
      simp (disch:=omega) only[Wz,seval,Jh,Bool.true_and,grA,grT,grN];refine Jcn.freeze (t:=0) (k:=⟨x :: l,0,1⟩) (args1:=[.vec (x :: l) false]) rfl (fun g g' e c=>JB c JaW) ?_;refine JR Jlm un (Jc (.of_pure (.vec (by rw[hxs];exact Jk Jal _))) Jm) (.lit _) ?_;simp (disch:=omega) only[Wz,seval];exact fin _ _
    ·simp (disch:=omega) only[Wz,seval,Jh,Bool.false_and];exact fin _ _
   ·simp (disch:=omega) only[Wz,seval,Jh,Bool.false_and];exact fin _ _
  ·simp (disch:=omega) only[Wz,seval,Jh,Bool.false_and];exact fin _ _
def Jh1 (z:Int):AV:=.lit (.int .i64 z)
theorem JyN:JpB Pg 3 Jh1:=fun a b=>by
 show JbX Pg 3 (.lit (.int .i64 a)) (.lit (.int .i64 b))=_;unfold JbX;rw[ty3];show JcQ (.int _) _ _=_;simp only[JcQ,if_true];by_cases h:a=b
 ·subst h;simp
 ·simp[h]
def JeW (r:Nr):Bool:=r.lexer && !r.frag
def Jh2 (n:Nt)(i:Nat):List Int:=((n.rules.take i).filter JeW).map Nr.type
theorem Jgr(n:Nt){i:Nat}(h:i<n.rules.length):Jh2 n (i+1)=if JeW (n.rules.getD i default) then Jh2 n i++[(n.rules.getD i default).type] else Jh2 n i:=by
 unfold Jh2;rw[List.take_add_one,List.getElem?_eq_getElem h,List.getD_eq_getElem?_getD,List.getElem?_eq_getElem h];simp only[Option.toList_some,List.filter_append,Option.getD_some,List.map_append];cases ht:JeW n.rules[i] <;> simp[ht]
theorem Jdx{n:Nt}{s r:Int}(h:ofN n s r=true):0<=s/\s<(n.states.length:Int):=by
 unfold ofN at h;simp only[Bool.and_eq_true,decide_eq_true_eq] at h;exact⟨h.1,h.2.1⟩
theorem JeX(S:List Int):∀ y∈Jea Jh1 S,∀ c∈y,Ab.Pure c:=fun y hy c hc=>by
 obtain⟨k,_,rfl⟩:=List.mem_map.1 hy;simp only[List.mem_cons,List.not_mem_nil,or_false] at hc;rcases hc with rfl | rfl
 ·exact .lit _
 ·exact .lit _
def JdY(n:Nt)(i:Nat):Bool :=
 ofN n (n.rules.getD i default).start i && (ofN n (n.rules.getD i default).stop i && (decide ((n.rules.getD i default).start≠(n.rules.getD i default).stop) &&
  (decide ((n.states.getD (n.rules.getD i default).stop.toNat default).edges.length=0) &&
  (!(!(n.rules.getD i default).lexer && ((n.rules.getD i default).frag || ((n.rules.getD i default).lz || decide ((n.rules.getD i default).mode≠0)))) &&
  (!((n.rules.getD i default).lexer && (n.rules.getD i default).left) && (decide (0<=(n.rules.getD i default).mode/\(n.rules.getD i default).mode<(n.modes.length:Int)) &&
  (if JeW (n.rules.getD i default) then decide (1<=(n.rules.getD i default).type/\(n.rules.getD i default).type<=(n.types.length:Int)) && !decide ((n.rules.getD i default).type∈Jh2 n i) else decide ((n.rules.getD i default).type=0))))))))
def Jdf(n:Nt):Bool:=(List.range n.rules.length).all (JdY n)
theorem Jmu(n:Nt)(ok:JbU n):JaY Pg 59 [.pp (Jh n) 0] (.lit (.bool (Jdf n))):=by
 have h:=ok.rules;have ht:=ok.types;have hm:=ok.modes;have hst:=ok.states;refine J5 (JC Tryz.func59 rfl Tryz.ntmps59 (rs:=[.tmp 2]) rfl (by simp) ?_);simp (disch:=omega) only[Wz,seval,Jh];refine JbM n.rules.length 1 (fun i (_:Unit)=>⟨[(13,.lit (.int .i64 (i:Int))),(12,.lit (.int .i64 (n.rules.length:Int))),(11,.vec (n.rules.map Jf) false),(0,.pp (Jh n) 0),(3,.om 0)],⟨[],[(0,⟨Jea Jh1 (Jh2 n i),0,0⟩)],1⟩,123⟩) (fun i _=>∀ j,j<i->JdY n j=true) (fun _ _=>rfl) () (St.wk_slots (by simp[lk,Jh])) (by simp) (fun i _ hlt hno=>?_) (fun _ hno=>?_)
 ·have s1:=Jsq n (n.rules.getD i default).start i (by omega);have s2:=Jsq n (n.rules.getD i default).stop i (by omega);have key:JdY n i=_:=rfl;have no:JdY n i=false->Jdf n=false:=Ja7 hlt;have yes:JdY n i=true->∀ j,j<i+1->JdY n j=true:=Jap hno;have fin:∀ h (b:Bool),JdV h (.lit (.bool b)) (.lit (.bool b)):=fun h b=>Jar (.lit _);have pa:∀ z:Int,∀ a∈[AV.pp (Jh n) 0,.lit (.int .i64 z),.lit (.int .i64 (i:Int))],Ab.Pure a:=fun z=>Jc (Ja4 n) (Jc (.lit _) (Jc (.lit _) Jm));obtain⟨r,hr⟩:∃ r,n.rules.getD i default=r:=⟨_,rfl⟩;rw[hr] at s1 s2;unfold JdY at no yes key;rw[hr] at no yes key;cases hl:r.lexer <;> cases hf:r.frag
  ·have ht:JeW r=false:=by unfold JeW;rw[hl,hf];rfl
   rw[ht,hl,hf] at no yes;simp only[Bool.not_true,Bool.not_false,Bool.true_and,Bool.false_and,Bool.and_true,Bool.and_false,Bool.true_or,Bool.false_or,Bool.false_eq_true,if_true,if_false] at no yes;simp (disch:=omega) only[Wz,seval,Jf,Jh,Je,hr,hl,hf,Bx];refine Jg Jez s1 (pa _) (.lit _) ?_;cases h1:ofN n r.start i
   ·rw[no (by rw[h1,Bool.false_and])];simp (disch:=omega) only[Wz,seval,Jf,Jh,Je,hr,hl,hf,Bx];exact fin _ _
   rw[h1,Bool.true_and] at no yes;simp (disch:=omega) only[Wz,seval,Jf,Jh,Je,hr,hl,hf,Bx];refine Jg Jez s2 (pa _) (.lit _) ?_;cases h2:ofN n r.stop i
   ·rw[no (by rw[h2,Bool.false_and])];simp (disch:=omega) only[Wz,seval,Jf,Jh,Je,hr,hl,hf,Bx];exact fin _ _
   rw[h2,Bool.true_and] at no yes;obtain⟨b1,b2⟩:=Jdx h2;by_cases h3:r.start≠r.stop;rotate_left
   ·rw[no (by rw[decide_eq_false h3,Bool.false_and])];simp (disch:=omega) only[Wz,seval,Jf,Jh,Je,hr,hl,hf,Bx];exact fin _ _
   rw[decide_eq_true h3,Bool.true_and] at no yes;simp (disch:=omega) only[Wz,seval,Jf,Jh,Je,hr,hl,hf,Bx];refine Jw (n:=123) rfl (by decide) mixed ?_;by_cases h4:(n.states.getD r.stop.toNat default).edges.length=0;rotate_left
   ·rw[no (by rw[decide_eq_false h4,Bool.false_and])];simp (disch:=omega) only[Wz,seval,Jf,Jh,Je,hr,hl,hf,Bx];exact fin _ _
   rw[decide_eq_true h4,Bool.true_and] at no yes;cases h5:r.lz;rotate_left
   ·rw[no (by rw[h5];rfl)];simp (disch:=omega) only[Wz,seval,Jf,Jh,Je,hr,hl,hf,Bx,h5];exact fin _ _
   rw[h5,Bool.false_or] at no yes;by_cases h6:r.mode≠0
   ·rw[no (by rw[decide_eq_true h6];rfl)];simp (disch:=omega) only[Wz,seval,Jf,Jh,Je,hr,hl,hf,Bx,h5];exact fin _ _
   rw[decide_eq_false h6,Bool.not_false,Bool.true_and] at no yes;simp (disch:=omega) only[Wz,seval,Jf,Jh,Je,hr,hl,hf,Bx,h5];refine Jw (n:=123) rfl (by decide) mixed ?_;by_cases h7:0<=r.mode/\r.mode<(n.modes.length:Int);rotate_left
   ·rw[no (by rw[decide_eq_false h7,Bool.false_and])];by_cases h7':r.mode<0;all_goals
     simp (disch:=omega) only[Wz,seval,Jf,Jh,Je,hr,hl,hf,Bx,h5];exact fin _ _
   rw[decide_eq_true h7,Bool.true_and] at no yes;by_cases h8:r.type=0;rotate_left
   ·rw[no (by rw[decide_eq_false h8])];simp (disch:=omega) only[Wz,seval,Jf,Jh,Je,hr,hl,hf,Bx,h5];exact fin _ _
   rw[decide_eq_true h8] at yes;have ty:Jh2 n (i+1)=Jh2 n i:=by rw[Jgr n hlt,hr,ht];rfl
   rw[ty];simp (disch:=omega) only[Wz,seval,Jf,Jh,Je,hr,hl,hf,Bx,h5];refine Jw (n:=123) rfl (by decide) mixed ?_;simp (disch:=omega) only[Wz,seval,Jf,Jh,Je,hr,hl,hf,Bx,h5];exact⟨(),yes rfl,Ja3 (Nat.le_refl _) (by show 1<=2;decide) rfl (Jc ⟨rfl,.pure (.lit _)⟩ (Jc ⟨rfl,.pure (.lit _)⟩ (Jc ⟨rfl,.pure (.vec (Jk Ja9 _))⟩ (Jc ⟨rfl,.pure (Ja4 n)⟩ (Jc ⟨rfl,.om (by show 0<1;decide) rfl⟩ Jm))))) Jm (Jc ⟨by show 0<1;decide,rfl,.pure (JeX _)⟩ Jm)⟩
  ·have nof:Jdf n=false:=no (by rw[hl,hf];simp);rw[nof];simp (disch:=omega) only[Wz,seval,Jf,Jh,Je,hr,hl,hf,Bx];refine Jg Jez s1 (pa _) (.lit _) ?_;cases h1:ofN n r.start i
   ·simp (disch:=omega) only[Wz,seval,Jf,Jh,Je,hr,hl,hf,Bx];exact fin _ _
   simp (disch:=omega) only[Wz,seval,Jf,Jh,Je,hr,hl,hf,Bx];refine Jg Jez s2 (pa _) (.lit _) ?_;cases h2:ofN n r.stop i
   ·simp (disch:=omega) only[Wz,seval,Jf,Jh,Je,hr,hl,hf,Bx];exact fin _ _
   obtain⟨b1,b2⟩:=Jdx h2;by_cases h3:r.start≠r.stop;rotate_left
   ·simp (disch:=omega) only[Wz,seval,Jf,Jh,Je,hr,hl,hf,Bx];exact fin _ _
   simp (disch:=omega) only[Wz,seval,Jf,Jh,Je,hr,hl,hf,Bx];refine Jw (n:=123) rfl (by decide) mixed ?_;by_cases h4:(n.states.getD r.stop.toNat default).edges.length=0;all_goals
    simp (disch:=omega) only[Wz,seval,Jf,Jh,Je,hr,hl,hf,Bx];exact fin _ _
  ·have ht:JeW r=true:=by unfold JeW;rw[hl,hf];rfl
   rw[ht,hl,hf] at no yes;simp only[Bool.not_true,Bool.not_false,Bool.true_and,Bool.false_and,Bool.and_true,Bool.and_false,Bool.true_or,Bool.false_or,Bool.false_eq_true,if_true,if_false] at no yes;simp (disch:=omega) only[Wz,seval,Jf,Jh,Je,hr,hl,hf,Bx];refine Jg Jez s1 (pa _) (.lit _) ?_;cases h1:ofN n r.start i
   ·rw[no (by rw[h1,Bool.false_and])];simp (disch:=omega) only[Wz,seval,Jf,Jh,Je,hr,hl,hf,Bx];exact fin _ _
   rw[h1,Bool.true_and] at no yes;simp (disch:=omega) only[Wz,seval,Jf,Jh,Je,hr,hl,hf,Bx];refine Jg Jez s2 (pa _) (.lit _) ?_;cases h2:ofN n r.stop i
   ·rw[no (by rw[h2,Bool.false_and])];simp (disch:=omega) only[Wz,seval,Jf,Jh,Je,hr,hl,hf,Bx];exact fin _ _
   rw[h2,Bool.true_and] at no yes;obtain⟨b1,b2⟩:=Jdx h2;by_cases h3:r.start≠r.stop;rotate_left
   ·rw[no (by rw[decide_eq_false h3,Bool.false_and])];simp (disch:=omega) only[Wz,seval,Jf,Jh,Je,hr,hl,hf,Bx];exact fin _ _
   rw[decide_eq_true h3,Bool.true_and] at no yes;simp (disch:=omega) only[Wz,seval,Jf,Jh,Je,hr,hl,hf,Bx];refine Jw (n:=123) rfl (by decide) mixed ?_;by_cases h4:(n.states.getD r.stop.toNat default).edges.length=0;rotate_left
   ·rw[no (by rw[decide_eq_false h4,Bool.false_and])];simp (disch:=omega) only[Wz,seval,Jf,Jh,Je,hr,hl,hf,Bx];exact fin _ _
   rw[decide_eq_true h4,Bool.true_and] at no yes;cases h5:r.left;rotate_left
   ·rw[no (by rw[h5];rfl)];simp (disch:=omega) only[Wz,seval,Jf,Jh,Je,hr,hl,hf,Bx,h5];exact fin _ _
   rw[h5,Bool.not_false,Bool.true_and] at no yes;simp (disch:=omega) only[Wz,seval,Jf,Jh,Je,hr,hl,hf,Bx,h5];refine Jw (n:=123) rfl (by decide) mixed ?_;by_cases h7:0<=r.mode/\r.mode<(n.modes.length:Int);rotate_left
   ·rw[no (by rw[decide_eq_false h7,Bool.false_and])];by_cases h7':r.mode<0;all_goals
     simp (disch:=omega) only[Wz,seval,Jf,Jh,Je,hr,hl,hf,Bx,h5];exact fin _ _
   rw[decide_eq_true h7,Bool.true_and] at no yes;simp (disch:=omega) only[Wz,seval,Jf,Jh,Je,hr,hl,hf,Bx,h5];refine Jw (n:=123) rfl (by decide) mixed ?_;by_cases h8:1<=r.type/\r.type<=(n.types.length:Int);rotate_left
   ·rw[no (by rw[decide_eq_false h8,Bool.false_and])];by_cases h8':r.type<1;all_goals
     simp (disch:=omega) only[Wz,seval,Jf,Jh,Je,hr,hl,hf,Bx,h5];exact fin _ _
   rw[decide_eq_true h8,Bool.true_and] at no yes;have hm:=JhO (et:=4) JyN r.type (Jh2 n i) zr4;have hp:=JhP JyN r.type (Jh2 n i);simp only[Jh1] at hm hp;by_cases h9:r.type∈Jh2 n i
   ·rw[decide_eq_true h9] at no hm;rw[no rfl];simp (disch:=omega) only[Wz,seval,Jf,Jh,Je,hr,hl,hf,Bx,h5,hm,Jh1];exact fin _ _
   rw[decide_eq_false h9] at yes hm;have ty:Jl5 (Jh2 n i) r.type=Jh2 n (i+1):=by rw[Jgr n hlt,hr,ht];exact if_neg h9
   rw[ty] at hp;simp (disch:=omega) only[Wz,seval,Jf,Jh,Je,hr,hl,hf,Bx,h5,hm,hp,Jh1];exact⟨(),yes rfl,Ja3 (Nat.le_refl _) (by show 1<=2;decide) rfl (Jc ⟨rfl,.pure (.lit _)⟩ (Jc ⟨rfl,.pure (.lit _)⟩ (Jc ⟨rfl,.pure (.vec (Jk Ja9 _))⟩ (Jc ⟨rfl,.pure (Ja4 n)⟩ (Jc ⟨rfl,.om (by show 0<1;decide) rfl⟩ Jm))))) Jm (Jc ⟨by show 0<1;decide,rfl,.pure (JeX _)⟩ Jm)⟩
  ·have ht:JeW r=false:=by unfold JeW;rw[hl,hf];rfl
   rw[ht,hl,hf] at no yes;simp only[Bool.not_true,Bool.not_false,Bool.true_and,Bool.false_and,Bool.and_true,Bool.and_false,Bool.true_or,Bool.false_or,Bool.false_eq_true,if_true,if_false] at no yes;simp (disch:=omega) only[Wz,seval,Jf,Jh,Je,hr,hl,hf,Bx];refine Jg Jez s1 (pa _) (.lit _) ?_;cases h1:ofN n r.start i
   ·rw[no (by rw[h1,Bool.false_and])];simp (disch:=omega) only[Wz,seval,Jf,Jh,Je,hr,hl,hf,Bx];exact fin _ _
   rw[h1,Bool.true_and] at no yes;simp (disch:=omega) only[Wz,seval,Jf,Jh,Je,hr,hl,hf,Bx];refine Jg Jez s2 (pa _) (.lit _) ?_;cases h2:ofN n r.stop i
   ·rw[no (by rw[h2,Bool.false_and])];simp (disch:=omega) only[Wz,seval,Jf,Jh,Je,hr,hl,hf,Bx];exact fin _ _
   rw[h2,Bool.true_and] at no yes;obtain⟨b1,b2⟩:=Jdx h2;by_cases h3:r.start≠r.stop;rotate_left
   ·rw[no (by rw[decide_eq_false h3,Bool.false_and])];simp (disch:=omega) only[Wz,seval,Jf,Jh,Je,hr,hl,hf,Bx];exact fin _ _
   rw[decide_eq_true h3,Bool.true_and] at no yes;simp (disch:=omega) only[Wz,seval,Jf,Jh,Je,hr,hl,hf,Bx];refine Jw (n:=123) rfl (by decide) mixed ?_;by_cases h4:(n.states.getD r.stop.toNat default).edges.length=0;rotate_left
   ·rw[no (by rw[decide_eq_false h4,Bool.false_and])];simp (disch:=omega) only[Wz,seval,Jf,Jh,Je,hr,hl,hf,Bx];exact fin _ _
   rw[decide_eq_true h4,Bool.true_and] at no yes;cases h5:r.left;rotate_left
   ·rw[no (by rw[h5];rfl)];simp (disch:=omega) only[Wz,seval,Jf,Jh,Je,hr,hl,hf,Bx,h5];exact fin _ _
   rw[h5,Bool.not_false,Bool.true_and] at no yes;simp (disch:=omega) only[Wz,seval,Jf,Jh,Je,hr,hl,hf,Bx,h5];refine Jw (n:=123) rfl (by decide) mixed ?_;by_cases h7:0<=r.mode/\r.mode<(n.modes.length:Int);rotate_left
   ·rw[no (by rw[decide_eq_false h7,Bool.false_and])];by_cases h7':r.mode<0;all_goals
     simp (disch:=omega) only[Wz,seval,Jf,Jh,Je,hr,hl,hf,Bx,h5];exact fin _ _
   rw[decide_eq_true h7,Bool.true_and] at no yes;by_cases h8:r.type=0;rotate_left
   ·rw[no (by rw[decide_eq_false h8])];simp (disch:=omega) only[Wz,seval,Jf,Jh,Je,hr,hl,hf,Bx,h5];exact fin _ _
   rw[decide_eq_true h8] at yes;have ty:Jh2 n (i+1)=Jh2 n i:=by rw[Jgr n hlt,hr,ht];rfl
   rw[ty];simp (disch:=omega) only[Wz,seval,Jf,Jh,Je,hr,hl,hf,Bx,h5];refine Jw (n:=123) rfl (by decide) mixed ?_;simp (disch:=omega) only[Wz,seval,Jf,Jh,Je,hr,hl,hf,Bx,h5];exact⟨(),yes rfl,Ja3 (Nat.le_refl _) (by show 1<=2;decide) rfl (Jc ⟨rfl,.pure (.lit _)⟩ (Jc ⟨rfl,.pure (.lit _)⟩ (Jc ⟨rfl,.pure (.vec (Jk Ja9 _))⟩ (Jc ⟨rfl,.pure (Ja4 n)⟩ (Jc ⟨rfl,.om (by show 0<1;decide) rfl⟩ Jm))))) Jm (Jc ⟨by show 0<1;decide,rfl,.pure (JeX _)⟩ Jm)⟩
 ·have e:Jdf n=true:=Jat hno;rw[e];simp (disch:=omega) only[Wz,seval];exact Jar (.lit _)
end Go.Proofs.Y
end
