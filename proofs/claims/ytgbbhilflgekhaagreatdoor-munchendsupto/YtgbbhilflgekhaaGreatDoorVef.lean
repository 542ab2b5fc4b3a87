/- Parts of the proof, laid together. -/
import Derived.Test.YtgbbhilflgekhaaGreatDoorVee
set_option linter.unusedVariables false
set_option linter.unusedSimpArgs false
set_option maxRecDepth 20000
set_option maxHeartbeats 16000000
section
namespace Go.Proofs.Y
open Go Go.Ab
open Go.Proofs.Tryz renaming prog->Pg
def kd1 (n:Nt)(r:Nr)(e:Ed):Bool:=decide (e.n=0/\e.level=0) && (decide ((if r.lexer then 0 else 1)<=(e.set.getD 0 default).1) && decide ((e.set.getD (e.set.length - 1) default).2<=(if r.lexer then 1114111 else (n.types.length:Int))))
theorem JqK(n:Nt)(r:Nr)(no:Int)(e:Ed)(h:n.types.length<=2000000000)(hs:0<e.set.length)(hl:e.set.length<=2000000000):JR Pg 94 [.agg (Jc8 n r no e)] (.lit (.bool (kd1 n r e))):=by
 refine Jn Tryz.func94 rfl Tryz.ntmps94 (rs:=[.tmp 2]) rfl (by simp) ?_;simp (disch:=omega) only[Wz,seval,Jc8,Jo,Jc,Jh,Lx];refine Jx (n:=56) rfl (by decide) mixed ?_;have hw:IntKind.i32.wrap (n.types.length:Int)=(n.types.length:Int):=IntWalk.i32_in _ ⟨by omega,by omega⟩;have i1:((e.set.length:Int) - 1).toNat=e.set.length - 1:=by omega
 have i2:IntKind.i64.wrap ((e.set.length:Int) - 1)=(e.set.length:Int) - 1:=Jdy (by omega) (by omega);unfold kd1;cases hx:r.lexer
 ·by_cases k1:e.n=0
  ·by_cases k2:e.level=0
   ·by_cases k3:1<=(e.set.getD 0 default).1
    ·by_cases k4:(e.set.getD (e.set.length - 1) default).2<=(n.types.length:Int);all_goals
      simp (disch:=omega) only[Wz,seval,Jc,hx,hw,i1,i2,Jbi,Bool.true_and,Bf];exact Ja (.lit _)
    ·simp (disch:=omega) only[Wz,seval,Jc,hx,hw,i1,i2,Jbi,Bool.true_and,Bool.false_and,Bf];exact Ja (.lit _)
   ·simp (disch:=omega) only[Wz,seval,Jc,hx,hw,i1,i2,Jbi,Bool.true_and,Bool.false_and,Bf];exact Ja (.lit _)
  ·simp (disch:=omega) only[Wz,seval,Jc,hx,hw,i1,i2,Jbi,Bool.true_and,Bool.false_and,Bf];exact Ja (.lit _)
 ·by_cases k1:e.n=0
  ·by_cases k2:e.level=0
   ·by_cases k3:0<=(e.set.getD 0 default).1
    ·by_cases k4:(e.set.getD (e.set.length - 1) default).2<=1114111;all_goals
      simp (disch:=omega) only[Wz,seval,Jc,hx,hw,i1,i2,Jbi,Bool.true_and,Bf];exact Ja (.lit _)
    ·simp (disch:=omega) only[Wz,seval,Jc,hx,hw,i1,i2,Jbi,Bool.true_and,Bool.false_and,Bf];exact Ja (.lit _)
   ·simp (disch:=omega) only[Wz,seval,Jc,hx,hw,i1,i2,Jbi,Bool.true_and,Bool.false_and,Bf];exact Ja (.lit _)
  ·simp (disch:=omega) only[Wz,seval,Jc,hx,hw,i1,i2,Jbi,Bool.true_and,Bool.false_and,Bf];exact Ja (.lit _)
theorem JmS:Ja9 Pg 80 [] (.agg [.fn (.func 93) [] [],.fn (.func 94) [] [],.fn (.func 95) [] [],.fn (.func 96) [] [],.fn (.func 98) [] [],.fn (.func 99) [] [],.fn (.func 100) [] [],.fn (.func 101) [] []]):=by
 refine Jaa (JL Tryz.func80 rfl Tryz.ntmps80 (rs:=[.cell 0 172]) rfl (by simp) ?_);simp (disch:=omega) only[Wz,seval];exact Jaw (.of_pure (.agg (Jb (.fn Jl Jl) (Jb (.fn Jl Jl) (Jb (.fn Jl Jl) (Jb (.fn Jl Jl) (Jb (.fn Jl Jl) (Jb (.fn Jl Jl) (Jb (.fn Jl Jl) (Jb (.fn Jl Jl) Jl))))))))))
theorem Jta(n:Nt)(st ru:Int)(h:n.states.length<=2000000000):JR Pg 79 [.pp (Jh n) 0,.lit (.int .i64 st),.lit (.int .i64 ru)] (.lit (.bool (ofN n st ru))):=by
 refine Jn Tryz.func79 rfl Tryz.ntmps79 (rs:=[.tmp 6]) rfl (by simp) ?_;unfold ofN;by_cases k1:0<=st
 ·by_cases k2:st<(n.states.length:Int)
  ·by_cases k3:(n.states.getD st.toNat default).rule=ru;all_goals
    simp (disch:=omega) only[Wz,seval,Jh,Jd,Bool.true_and];exact Ja (.lit _)
  ·simp (disch:=omega) only[Wz,seval,Jh,Bool.false_and];exact Ja (.lit _)
 ·simp (disch:=omega) only[Wz,seval,Jh,Bool.false_and];exact Ja (.lit _)
theorem Jhy{a b:ByteArray}(h:a.toList=b.toList):a=b:=by
 rw[ByteArray.toList_eq,ByteArray.toList_eq] at h;cases a;cases b;simp only[Array.toList_inj] at h;rw[h]
instance:DecidableEq ByteArray:=fun a b=>decidable_of_iff (a.toList=b.toList) ⟨Jhy,fun h=>by rw[h]⟩
theorem JB(a b:ByteArray):(a.toList==b.toList)=decide (a=b):=by
 by_cases h:a=b
 ·subst h;simp
 ·rw[decide_eq_false h];cases hb:a.toList==b.toList with
  | false=>rfl
  | true=>exact absurd (Jhy (by simpa using hb)) h
def JyD (b:ByteArray):AV:=.lit (.string b)
theorem JBU:Jqc Pg 9 JyD:=fun a b=>by
 show Jcf Pg 9 (.lit (.string a)) (.lit (.string b))=_;unfold Jcf;rw[ty9];show Jda .str _ _=_;simp only[Jda,JB]
abbrev JyE{K:Type}[DecidableEq K](x:K)(l:List K):Decidable (x∈l):=inferInstance
instance memB (x:ByteArray) (l:List ByteArray):Decidable (x∈l):=JyE x l
theorem JqL{l:List ByteArray}{i:Nat}(hi:i<l.length)(h:l.getD i default∉l.take i):Jmt (l.take i) (l.getD i default)=l.take (i+1):=by
 unfold Jmt;rw[if_neg h,List.take_add_one,List.getD_eq_getElem?_getD,List.getElem?_eq_getElem hi];rfl
def JlT (l:List ByteArray)(j:Nat):Bool:=decide (l.getD j default≠⟨#[]⟩) && (decide ((l.getD j default).size<=40) && !decide (l.getD j default∈l.take j))
def JcK(l:List ByteArray):Bool:=(List.range l.length).all (JlT l)
theorem Jdn(l:List ByteArray)(fl:Bool)(h:l.length<=2000000000)(hs:∀ s∈l,s.size<=9000000000000000000):Ja9 Pg 77 [.vec (l.map JaG) fl] (.lit (.bool (JcK l))):=by
 refine Jaa (JL Tryz.func77 rfl Tryz.ntmps77 (rs:=[.tmp 2]) rfl (by simp) ?_);simp (disch:=omega) only[Wz,seval];refine Jb7 l.length 1 (fun i (_:Unit)=>⟨[(9,.lit (.int .i64 (i:Int))),(8,.lit (.int .i64 (l.length:Int))),(7,.vec (l.map JaG) fl),(3,.om 0)],⟨[],[(0,⟨Jeo JyD (l.take i),0,0⟩)],1⟩,28⟩) (fun i _=>∀ j,j<i->JlT l j=true) (fun _ _=>rfl) () (St.wk_slots (by simp[lk])) (by simp) (fun i _ hlt hno=>?_) (fun _ hno=>?_)
 ·have key:JlT l i=(decide (l.getD i default≠⟨#[]⟩) && (decide ((l.getD i default).size<=40) && !decide (l.getD i default∈l.take i))):=rfl;have hsz:=hs _ (Ju hlt);have hm:Jns Pg 9 4 false (.lit (.string (l.getD i default))) (Jeo JyD (l.take i))=some (.lit (.bool (decide (l.getD i default∈l.take i)))):=Jid JBU (l.getD i default) (l.take i) zr4;have hp:JrC Pg 9 (.lit (.string (l.getD i default))) (.lit (.bool true)) (Jeo JyD (l.take i))=some (Jeo JyD (Jmt (l.take i) (l.getD i default))):=Jie JBU (l.getD i default) (l.take i);have adds:=JqL hlt;have no:JlT l i=false->JcK l=false:=Jbn hlt;have yes:JlT l i=true->∀ j,j<i+1->JlT l j=true:=Jav hno;rw[key] at no yes;obtain⟨s,hs0⟩:∃ s,l.getD i default=s:=⟨_,rfl⟩;rw[hs0] at no yes hm hp adds hsz;by_cases k1:s=⟨#[]⟩
  ·rw[no (by rw[k1];simp)];have k1':decide (s=⟨#[]⟩)=true:=decide_eq_true k1;simp (disch:=omega) only[Wz,seval,JaG,JB,hs0,k1'];exact Jaw (.lit _)
  have k1':decide (s=⟨#[]⟩)=false:=decide_eq_false k1;have k1'':decide (s≠⟨#[]⟩)=true:=decide_eq_true k1;rw[k1'',Bool.true_and] at no yes;by_cases k2:s.size<=40
  ·rw[decide_eq_true k2,Bool.true_and] at no yes;by_cases k3:s∈l.take i
   ·rw[decide_eq_true k3] at no hm;rw[no rfl];simp (disch:=omega) only[Wz,seval,JaG,JB,hs0,k1',hm];exact Jaw (.lit _)
   ·rw[decide_eq_false k3] at hm yes;rw[adds k3] at hp;simp (disch:=omega) only[Wz,seval,JaG,JB,hs0,k1',hm,hp];exact⟨(),yes rfl,St.wk.cp (St.wk_slots (by simp[lk]))⟩
  ·rw[decide_eq_false k2,Bool.false_and] at no;rw[no rfl];simp (disch:=omega) only[Wz,seval,JaG,JB,hs0,k1'];exact Jaw (.lit _)
 ·have e:JcK l=true:=Jaz hno;rw[e];simp (disch:=omega) only[Wz,seval];exact Jaw (.lit _)
structure JBV (e:Ed):Prop where
 set:e.set.length<=1000000000
 acts:e.acts.length<=1000000000
 g:gsz e.g<=1000000000
 gd:Jnu e.g
 rng:JjS e.set
structure JcL (n:Nt):Prop where
 types:n.types.length<=1000000000
 channels:n.channels.length<=1000000000
 modes:n.modes.length<=1000000000
 rules:n.rules.length<=1000000000
 states:n.states.length<=1000000000
 typ:∀ s∈n.types,s.size<=9000000000000000000
 chan:∀ s∈n.channels,s.size<=9000000000000000000
 mode:∀ s∈n.modes,s.size<=9000000000000000000
 name:∀ r∈n.rules,r.name.size<=9000000000000000000
 edges:∀ s∈n.states,s.edges.length<=1000000000/\∀ e∈s.edges,JBV e
theorem JyF{l:List ByteArray}(h:1<=l.length):Jfk 1 (l.map JaG) false (some 1) none none=some (.vec ((l.drop 1).map JaG) false):=by
 have hl:∀ x∈l.map JaG,x.length=1:=fun x hx=>by obtain⟨b,_,rfl⟩:=List.mem_map.1 hx;rfl
 have c:(0:Int)<=1/\(1:Int)<=((l.map JaG).length:Int)/\((l.map JaG).length:Int)<=((l.map JaG).length:Int)/\((l.map JaG).length:Int)<=((l.map JaG).length:Int)/\((none:Option Int).isSome->(none:Option Int).isSome)/\∀ x∈l.map JaG,x.length=1:=⟨by decide,by simp;omega,Int.le_refl _,Int.le_refl _,id,hl⟩;unfold Jfk;simp only[Option.getD_none,Option.getD_some];rw[if_pos c];have e:((l.map JaG).drop (1:Int).toNat).take (((l.map JaG).length:Int).toNat - (1:Int).toNat)=(l.drop 1).map JaG:=by
  rw[List.take_of_length_le (by simp)];simp
 rw[e];rfl
def JgI(l:List ByteArray):Bool:=decide (0<l.length/\l.length<=20) && (decide (l.getD 0 default=⟨#[]⟩) && JcK (l.drop 1))
theorem JoZ(l:List ByteArray)(h:l.length<=2000000000)(hs:∀ s∈l,s.size<=9000000000000000000):Ja9 Pg 78 [.vec (l.map JaG) false] (.lit (.bool (JgI l))):=by
 refine Jaa (JL Tryz.func78 rfl Tryz.ntmps78 (rs:=[.tmp 2]) rfl (by simp) ?_);unfold JgI;by_cases h1:0<l.length
 ·by_cases h2:l.length<=20
  ·obtain⟨s,hs0⟩:∃ s,l.getD 0 default=s:=⟨_,rfl⟩;by_cases h3:s=⟨#[]⟩
   ·have h3':decide (s=⟨#[]⟩)=true:=decide_eq_true h3;have sl:=JyF (l:=l) (by omega);simp (disch:=omega) only[Wz,seval,hs0,JB,h3',Bool.true_and,sl,JaG];refine JV JlL (Jdn (l.drop 1) false (by simp;omega) (fun s hs'=>hs s (List.mem_of_mem_drop hs'))) (Jb (.of_pure (.vec (Ji Jao _))) Jl) (.lit _) ?_;simp (disch:=omega) only[Wz,seval];exact Jaw (.lit _)
   ·have h3':decide (s=⟨#[]⟩)=false:=decide_eq_false h3;simp (disch:=omega) only[Wz,seval,JaG,hs0,JB,h3',Bool.true_and,Bool.false_and];exact Jaw (.lit _)
  ·simp (disch:=omega) only[Wz,seval,Bool.false_and];exact Jaw (.lit _)
 ·simp (disch:=omega) only[Wz,seval,Bool.false_and];exact Jaw (.lit _)
def Jed(n:Nt)(i:Nat):Bool := !(decide (0<i) && ((n.rules.getD i default).lexer && !(n.rules.getD (i - 1) default).lexer))
def Jc4(n:Nt):Bool:=(List.range n.rules.length).all (Jed n) && (decide (n.types.length<=200/\n.rules.length<=100/\n.states.length<=4000) && (JcK n.types && (JgI n.channels && (JgI n.modes && JcK (n.rules.map Nr.name)))))
theorem JmT(n:Nt)(ok:JcL n):Ja9 Pg 58 [.pp (Jh n) 0] (.lit (.bool (Jc4 n))):=by
 have h:=ok.rules;have ht:=ok.types;have hc:=ok.channels;have hm:=ok.modes;have hst:=ok.states;refine Jaa (JL Tryz.func58 rfl Tryz.ntmps58 (rs:=[.tmp 2]) rfl (by simp) ?_);simp (disch:=omega) only[Wz,seval,Jh];refine Jsx n.rules.length 0 (fun i (xs:List (List AV))=>⟨[(11,.lit (.int .i64 (i:Int))),(10,.lit (.int .i64 (n.rules.length:Int))),(9,.vec (n.rules.map Jc) false),(0,.pp (Jh n) 0),(3,grA 0 xs)],⟨[],grT 0 1 xs,grN 0 xs⟩,87⟩)
  (fun i xs=>xs=((n.rules.map Nr.name).take i).map JaG/\∀ j,j<i->Jed n j=true) (Nat.le_refl _) [] (St.wk.cp (St.wk_slots (by simp[lk,Jh,grA]))) ⟨rfl,by simp⟩ ?_ ?_
 ·rintro i xs hi ⟨hxs,hno⟩;have hxl:xs.length=i:=by rw[hxs];simp;omega
  have key:Jed n i = !(decide (0<i) && ((n.rules.getD i default).lexer && !(n.rules.getD (i - 1) default).lexer)):=rfl;have hnext:xs++[JaG (n.rules.getD i default).name]=((n.rules.map Nr.name).take (i+1)).map JaG:=by
   rw[hxs,List.take_add_one,List.getElem?_map,List.getElem?_eq_getElem hi];simp[List.getD_eq_getElem?_getD,List.getElem?_eq_getElem hi]
  cases xs with
  | nil =>
   have h0:i=0:=by simp at hxl;omega
   have hfit:Ja7 1 16:=JN (by decide) (by decide);simp (disch:=omega) only[Wz,seval,Jh,Jc,grA,grT,grN,hfit,List.mem_singleton,forall_eq,List.not_mem_nil,false_imp_iff,implies_true];refine⟨[JaG (n.rules.getD i default).name],⟨by simpa using hnext,Jav hno (by rw[key,h0];rfl)⟩,?_⟩;exact St.cp_of 0 [1] (by show 0<=2;decide) rfl rfl (by decide) (by show ∀ x∈[1],0<=x/\x<2;decide) (Jb ⟨_,rfl,.pure (.lit _)⟩ (Jb ⟨_,rfl,.pure (.lit _)⟩ (Jb ⟨_,rfl,.pure (.vec (Ji Jbp _))⟩ (Jb ⟨_,rfl,.pure (Jbk n)⟩ (Jb ⟨_,rfl,.own (by show 0<1;decide) rfl⟩ Jl))))) Jl
    (Jb ⟨by show 0<1;decide,_,rfl,rfl,rfl,.pure (Ji Jao [(n.rules.getD i default).name])⟩ Jl)
  | cons x l =>
   simp only[List.length_cons] at hxl;have hfit:Ja7 (l.length+1+1) 16:=JN (by omega) (by omega);have i1:((i:Int) - 1).toNat=i - 1:=by omega
   have i2:IntKind.i64.wrap ((i:Int) - 1)=(i:Int) - 1:=Jdy (by omega) (by omega);have hlen2:(l++[JaG (n.rules.getD i default).name]).length+1=l.length+1+1:=by simp
   have rp:∀ y∈x :: l++[JaG (n.rules.getD i default).name],∀ c∈y,Ab.Pure c:=by rw[hnext];exact Ji Jao _
   have key1:Jed n i = !((n.rules.getD i default).lexer && !(n.rules.getD (i - 1) default).lexer):=by rw[key,decide_eq_true (by omega),Bool.true_and]
   have back:Jed n i=true->∀ sl:List (Nat × AV),∀ bx:List AV,lk sl 11=some (.lit (.int .i64 ((i+1:Nat):Int)))->lk sl 10=some (.lit (.int .i64 (n.rules.length:Int)))->lk sl 9=some (.vec (n.rules.map Jc) false)->lk sl 0=some (.pp (Jh n) 0)->lk sl 3=some (.own 0 (l.length+1+1)) ->
     ∃ a',(a'=((n.rules.map Nr.name).take (i+1)).map JaG/\∀ j,j<i+1->Jed n j=true)/\St.cp 0 ⟨sl,⟨[(1,bx)],[(0,⟨x :: l++[JaG (n.rules.getD i default).name],0,1⟩)],2⟩,87⟩ ⟨[(11,.lit (.int .i64 ((i+1:Nat):Int))),(10,.lit (.int .i64 (n.rules.length:Int))),(9,.vec (n.rules.map Jc) false),(0,.pp (Jh n) 0),(3,grA 0 a')],⟨[],grT 0 1 a',grN 0 a'⟩,87⟩:=fun hk sl bx e1 e2 e3 e4 e5=>by
    refine⟨x :: l++[JaG (n.rules.getD i default).name],⟨hnext,Jav hno hk⟩,?_⟩;simp only[List.cons_append,grA,grT,grN,hlen2];exact Jbj (Nat.zero_le _) (by show 1<=2;decide) rfl (Jb ⟨e1,.pure (.lit _)⟩ (Jb ⟨e2,.pure (.lit _)⟩ (Jb ⟨e3,.pure (.vec (Ji Jbp _))⟩ (Jb ⟨e4,.pure (Jbk n)⟩ (Jb ⟨e5,.own (by show 0<1;decide) rfl⟩ Jl))))) Jl (Jb ⟨by show 0<1;decide,rfl,.pure rp⟩ Jl)
   cases hx:(n.rules.getD i default).lexer
   ·simp (disch:=omega) only[Wz,seval,Jh,Jc,grA,grT,grN,hx,hfit,List.mem_singleton,forall_eq,List.not_mem_nil,false_imp_iff,implies_true];exact back (by rw[key1,hx];rfl) _ _ rfl rfl rfl rfl rfl
   ·cases hy:(n.rules.getD (i - 1) default).lexer
    ·simp (disch:=omega) only[Wz,seval,Jh,Jc,grA,grT,grN,hx,hy,i1,i2,hfit,List.mem_singleton,forall_eq,List.not_mem_nil,false_imp_iff,implies_true];have e:(List.range n.rules.length).all (Jed n)=false:=Jbn hi (by rw[key1,hx,hy];rfl);unfold Jc4;rw[e];exact Jaw (.lit _)
    ·simp (disch:=omega) only[Wz,seval,Jh,Jc,grA,grT,grN,hx,hy,i1,i2,hfit,List.mem_singleton,forall_eq,List.not_mem_nil,false_imp_iff,implies_true];exact back (by rw[key1,hx,hy];rfl) _ _ rfl rfl rfl rfl rfl
 ·rintro xs ⟨hxs,hno⟩;have e:(List.range n.rules.length).all (Jed n)=true:=Jaz hno;unfold Jc4;rw[e,Bool.true_and];have hxs:xs=(n.rules.map Nr.name).map JaG:=by rw[hxs];rw[List.take_of_length_le (by simp)]
  have fin:∀ h (b:Bool),Jec h (.lit (.bool b)) (.lit (.bool b)):=fun h b=>Jaw (.lit _);have gps:∀ l:List ByteArray,GP (.vec (l.map JaG) false):=fun l=>.of_pure (.vec (Ji Jao _));by_cases k1:n.types.length<=200
  ·by_cases k2:n.rules.length<=100
   ·by_cases k3:n.states.length<=4000
    ·simp (disch:=omega) only[Wz,seval,Jh,Bool.true_and];refine JV JlL (Jdn n.types false (by omega) ok.typ) (Jb (gps _) Jl) (.lit _) ?_;cases JcK n.types
     ·simp (disch:=omega) only[Wz,seval,Bool.false_and];exact fin _ _
     simp (disch:=omega) only[Wz,seval,Jh,Bool.true_and];refine JV Jr1 (JoZ n.channels (by omega) ok.chan) (Jb (gps _) Jl) (.lit _) ?_;cases JgI n.channels
     ·simp (disch:=omega) only[Wz,seval,Bool.false_and];exact fin _ _
     simp (disch:=omega) only[Wz,seval,Jh,Bool.true_and];refine JV Jr1 (JoZ n.modes (by omega) ok.mode) (Jb (gps _) Jl) (.lit _) ?_;cases JgI n.modes
     ·simp (disch:=omega) only[Wz,seval,Bool.false_and];exact fin _ _
     have un:=Jdn (n.rules.map Nr.name) false (by simp;omega) (fun s hs=>by obtain⟨r,hr,rfl⟩:=List.mem_map.1 hs;exact ok.name r hr);have un':=Jdn (n.rules.map Nr.name) true (by simp;omega) (fun s hs=>by obtain⟨r,hr,rfl⟩:=List.mem_map.1 hs;exact ok.name r hr);rw[<- hxs] at un un';cases xs with
     | nil =>
      simp (disch:=omega) only[Wz,seval,Jh,Bool.true_and,grA,grT,grN];refine JV JlL un' (Jb (.of_pure (.vec Jl)) Jl) (.lit _) ?_;simp (disch:=omega) only[Wz,seval];exact fin _ _
     | cons x l =>
      simp (disch:=omega) only[Wz,seval,Jh,Bool.true_and,grA,grT,grN];refine Jcz.freeze (t:=0) (k:=⟨x :: l,0,1⟩) (args1:=[.vec (x :: l) false]) rfl (fun g g' e c=>Jv c JaV) ?_;refine JV JlL un (Jb (.of_pure (.vec (by rw[hxs];exact Ji Jao _))) Jl) (.lit _) ?_;simp (disch:=omega) only[Wz,seval];exact fin _ _
    ·simp (disch:=omega) only[Wz,seval,Jh,Bool.false_and];exact fin _ _
   ·simp (disch:=omega) only[Wz,seval,Jh,Bool.false_and];exact fin _ _
  ·simp (disch:=omega) only[Wz,seval,Jh,Bool.false_and];exact fin _ _
def Jiq (z:Int):AV:=.lit (.int .i64 z)
theorem Jzx:Jqc Pg 3 Jiq:=fun a b=>by
 show Jcf Pg 3 (.lit (.int .i64 a)) (.lit (.int .i64 b))=_;unfold Jcf;rw[ty3];show Jda (.int _) _ _=_;simp only[Jda,if_true];by_cases h:a=b
 ·subst h;simp
 ·simp[h]
def Jfa (r:Nr):Bool:=r.lexer && !r.frag
def Jir (n:Nt)(i:Nat):List Int:=((n.rules.take i).filter Jfa).map Nr.type
theorem JgK(n:Nt){i:Nat}(h:i<n.rules.length):Jir n (i+1)=if Jfa (n.rules.getD i default) then Jir n i++[(n.rules.getD i default).type] else Jir n i:=by
 unfold Jir;rw[List.take_add_one,List.getElem?_eq_getElem h,List.getD_eq_getElem?_getD,List.getElem?_eq_getElem h];simp only[Option.toList_some,List.filter_append,Option.getD_some,List.map_append];cases ht:Jfa n.rules[i] <;> simp[ht]
theorem JdS{n:Nt}{s r:Int}(h:ofN n s r=true):0<=s/\s<(n.states.length:Int):=by
 unfold ofN at h;simp only[Bool.and_eq_true,decide_eq_true_eq] at h;exact⟨h.1,h.2.1⟩
theorem Jfb(S:List Int):∀ y∈Jeo Jiq S,∀ c∈y,Ab.Pure c:=fun y hy c hc=>by
 obtain⟨k,_,rfl⟩:=List.mem_map.1 hy;simp only[List.mem_cons,List.not_mem_nil,or_false] at hc;rcases hc with rfl | rfl
 ·exact .lit _
 ·exact .lit _
def Jee(n:Nt)(i:Nat):Bool :=
 ofN n (n.rules.getD i default).start i && (ofN n (n.rules.getD i default).stop i && (decide ((n.rules.getD i default).start≠(n.rules.getD i default).stop) &&
  (decide ((n.states.getD (n.rules.getD i default).stop.toNat default).edges.length=0) &&
  (!(!(n.rules.getD i default).lexer && ((n.rules.getD i default).frag || ((n.rules.getD i default).lz || decide ((n.rules.getD i default).mode≠0)))) &&
  (!((n.rules.getD i default).lexer && (n.rules.getD i default).left) && (decide (0<=(n.rules.getD i default).mode/\(n.rules.getD i default).mode<(n.modes.length:Int)) &&
  (if Jfa (n.rules.getD i default) then decide (1<=(n.rules.getD i default).type/\(n.rules.getD i default).type<=(n.types.length:Int)) && !decide ((n.rules.getD i default).type∈Jir n i) else decide ((n.rules.getD i default).type=0))))))))
def Jdz(n:Nt):Bool:=(List.range n.rules.length).all (Jee n)
theorem JmU(n:Nt)(ok:JcL n):Ja9 Pg 59 [.pp (Jh n) 0] (.lit (.bool (Jdz n))):=by
 have h:=ok.rules;have ht:=ok.types;have hm:=ok.modes;have hst:=ok.states;refine Jaa (JL Tryz.func59 rfl Tryz.ntmps59 (rs:=[.tmp 2]) rfl (by simp) ?_);simp (disch:=omega) only[Wz,seval,Jh];refine Jb7 n.rules.length 1 (fun i (_:Unit)=>⟨[(13,.lit (.int .i64 (i:Int))),(12,.lit (.int .i64 (n.rules.length:Int))),(11,.vec (n.rules.map Jc) false),(0,.pp (Jh n) 0),(3,.om 0)],⟨[],[(0,⟨Jeo Jiq (Jir n i),0,0⟩)],1⟩,123⟩) (fun i _=>∀ j,j<i->Jee n j=true) (fun _ _=>rfl) () (St.wk_slots (by simp[lk,Jh])) (by simp) (fun i _ hlt hno=>?_) (fun _ hno=>?_)
 ·have s1:=Jta n (n.rules.getD i default).start i (by omega);have s2:=Jta n (n.rules.getD i default).stop i (by omega);have key:Jee n i=_:=rfl;have no:Jee n i=false->Jdz n=false:=Jbn hlt;have yes:Jee n i=true->∀ j,j<i+1->Jee n j=true:=Jav hno;have fin:∀ h (b:Bool),Jec h (.lit (.bool b)) (.lit (.bool b)):=fun h b=>Jaw (.lit _);have pa:∀ z:Int,∀ a∈[AV.pp (Jh n) 0,.lit (.int .i64 z),.lit (.int .i64 (i:Int))],Ab.Pure a:=fun z=>Jb (Jbk n) (Jb (.lit _) (Jb (.lit _) Jl));obtain⟨r,hr⟩:∃ r,n.rules.getD i default=r:=⟨_,rfl⟩;rw[hr] at s1 s2;unfold Jee at no yes key;rw[hr] at no yes key;cases hl:r.lexer <;> cases hf:r.frag
  ·have ht:Jfa r=false:=by unfold Jfa;rw[hl,hf];rfl
   rw[ht,hl,hf] at no yes;simp only[Bool.not_true,Bool.not_false,Bool.true_and,Bool.false_and,Bool.and_true,Bool.and_false,Bool.true_or,Bool.false_or,Bool.false_eq_true,if_true,if_false] at no yes;simp (disch:=omega) only[Wz,seval,Jc,Jh,Jd,hr,hl,hf,Bx];refine Je JeN s1 (pa _) (.lit _) ?_;cases h1:ofN n r.start i
   ·rw[no (by rw[h1,Bool.false_and])];simp (disch:=omega) only[Wz,seval,Jc,Jh,Jd,hr,hl,hf,Bx];exact fin _ _
   rw[h1,Bool.true_and] at no yes;simp (disch:=omega) only[Wz,seval,Jc,Jh,Jd,hr,hl,hf,Bx];refine Je JeN s2 (pa _) (.lit _) ?_;cases h2:ofN n r.stop i
   ·rw[no (by rw[h2,Bool.false_and])];simp (disch:=omega) only[Wz,seval,Jc,Jh,Jd,hr,hl,hf,Bx];exact fin _ _
   rw[h2,Bool.true_and] at no yes;obtain⟨b1,b2⟩:=JdS h2;by_cases h3:r.start≠r.stop;rotate_left
   ·rw[no (by rw[decide_eq_false h3,Bool.false_and])];simp (disch:=omega) only[Wz,seval,Jc,Jh,Jd,hr,hl,hf,Bx];exact fin _ _
   rw[decide_eq_true h3,Bool.true_and] at no yes;simp (disch:=omega) only[Wz,seval,Jc,Jh,Jd,hr,hl,hf,Bx];refine Jx (n:=123) rfl (by decide) mixed ?_;by_cases h4:(n.states.getD r.stop.toNat default).edges.length=0;rotate_left
   ·rw[no (by rw[decide_eq_false h4,Bool.false_and])];simp (disch:=omega) only[Wz,seval,Jc,Jh,Jd,hr,hl,hf,Bx];exact fin _ _
   rw[decide_eq_true h4,Bool.true_and] at no yes;cases h5:r.lz;rotate_left
   ·rw[no (by rw[h5];rfl)];simp (disch:=omega) only[Wz,seval,Jc,Jh,Jd,hr,hl,hf,Bx,h5];exact fin _ _
   rw[h5,Bool.false_or] at no yes;by_cases h6:r.mode≠0
   ·rw[no (by rw[decide_eq_true h6];rfl)];simp (disch:=omega) only[Wz,seval,Jc,Jh,Jd,hr,hl,hf,Bx,h5];exact fin _ _
   rw[decide_eq_false h6,Bool.not_false,Bool.true_and] at no yes;simp (disch:=omega) only[Wz,seval,Jc,Jh,Jd,hr,hl,hf,Bx,h5];refine Jx (n:=123) rfl (by decide) mixed ?_;by_cases h7:0<=r.mode/\r.mode<(n.modes.length:Int);rotate_left
   ·rw[no (by rw[decide_eq_false h7,Bool.false_and])];by_cases h7':r.mode<0;all_goals
     simp (disch:=omega) only[Wz,seval,Jc,Jh,Jd,hr,hl,hf,Bx,h5];exact fin _ _
   rw[decide_eq_true h7,Bool.true_and] at no yes;by_cases h8:r.type=0;rotate_left
   ·rw[no (by rw[decide_eq_false h8])];simp (disch:=omega) only[Wz,seval,Jc,Jh,Jd,hr,hl,hf,Bx,h5];exact fin _ _
   rw[decide_eq_true h8] at yes;have ty:Jir n (i+1)=Jir n i:=by rw[JgK n hlt,hr,ht];rfl
   rw[ty];simp (disch:=omega) only[Wz,seval,Jc,Jh,Jd,hr,hl,hf,Bx,h5];refine Jx (n:=123) rfl (by decide) mixed ?_;simp (disch:=omega) only[Wz,seval,Jc,Jh,Jd,hr,hl,hf,Bx,h5];exact⟨(),yes rfl,Jbj (Nat.le_refl _) (by show 1<=2;decide) rfl (Jb ⟨rfl,.pure (.lit _)⟩ (Jb ⟨rfl,.pure (.lit _)⟩ (Jb ⟨rfl,.pure (.vec (Ji Jbp _))⟩ (Jb ⟨rfl,.pure (Jbk n)⟩ (Jb ⟨rfl,.om (by show 0<1;decide) rfl⟩ Jl))))) Jl (Jb ⟨by show 0<1;decide,rfl,.pure (Jfb _)⟩ Jl)⟩
  ·have nof:Jdz n=false:=no (by rw[hl,hf];simp);rw[nof];simp (disch:=omega) only[Wz,seval,Jc,Jh,Jd,hr,hl,hf,Bx];refine Je JeN s1 (pa _) (.lit _) ?_;cases h1:ofN n r.start i
   ·simp (disch:=omega) only[Wz,seval,Jc,Jh,Jd,hr,hl,hf,Bx];exact fin _ _
   simp (disch:=omega) only[Wz,seval,Jc,Jh,Jd,hr,hl,hf,Bx];refine Je JeN s2 (pa _) (.lit _) ?_;cases h2:ofN n r.stop i
   ·simp (disch:=omega) only[Wz,seval,Jc,Jh,Jd,hr,hl,hf,Bx];exact fin _ _
   obtain⟨b1,b2⟩:=JdS h2;by_cases h3:r.start≠r.stop;rotate_left
   ·simp (disch:=omega) only[Wz,seval,Jc,Jh,Jd,hr,hl,hf,Bx];exact fin _ _
   simp (disch:=omega) only[Wz,seval,Jc,Jh,Jd,hr,hl,hf,Bx];refine Jx (n:=123) rfl (by decide) mixed ?_;by_cases h4:(n.states.getD r.stop.toNat default).edges.length=0;all_goals
    simp (disch:=omega) only[Wz,seval,Jc,Jh,Jd,hr,hl,hf,Bx];exact fin _ _
  ·have ht:Jfa r=true:=by unfold Jfa;rw[hl,hf];rfl
   rw[ht,hl,hf] at no yes;simp only[Bool.not_true,Bool.not_false,Bool.true_and,Bool.false_and,Bool.and_true,Bool.and_false,Bool.true_or,Bool.false_or,Bool.false_eq_true,if_true,if_false] at no yes;simp (disch:=omega) only[Wz,seval,Jc,Jh,Jd,hr,hl,hf,Bx];refine Je JeN s1 (pa _) (.lit _) ?_;cases h1:ofN n r.start i
   ·rw[no (by rw[h1,Bool.false_and])];simp (disch:=omega) only[Wz,seval,Jc,Jh,Jd,hr,hl,hf,Bx];exact fin _ _
   rw[h1,Bool.true_and] at no yes;simp (disch:=omega) only[Wz,seval,Jc,Jh,Jd,hr,hl,hf,Bx];refine Je JeN s2 (pa _) (.lit _) ?_;cases h2:ofN n r.stop i
   ·rw[no (by rw[h2,Bool.false_and])];simp (disch:=omega) only[Wz,seval,Jc,Jh,Jd,hr,hl,hf,Bx];exact fin _ _
   rw[h2,Bool.true_and] at no yes;obtain⟨b1,b2⟩:=JdS h2;by_cases h3:r.start≠r.stop;rotate_left
   ·rw[no (by rw[decide_eq_false h3,Bool.false_and])];simp (disch:=omega) only[Wz,seval,Jc,Jh,Jd,hr,hl,hf,Bx];exact fin _ _
   rw[decide_eq_true h3,Bool.true_and] at no yes;simp (disch:=omega) only[Wz,seval,Jc,Jh,Jd,hr,hl,hf,Bx];refine Jx (n:=123) rfl (by decide) mixed ?_;by_cases h4:(n.states.getD r.stop.toNat default).edges.length=0;rotate_left
   ·rw[no (by rw[decide_eq_false h4,Bool.false_and])];simp (disch:=omega) only[Wz,seval,Jc,Jh,Jd,hr,hl,hf,Bx];exact fin _ _
   rw[decide_eq_true h4,Bool.true_and] at no yes;cases h5:r.left;rotate_left
   ·rw[no (by rw[h5];rfl)];simp (disch:=omega) only[Wz,seval,Jc,Jh,Jd,hr,hl,hf,Bx,h5];exact fin _ _
   rw[h5,Bool.not_false,Bool.true_and] at no yes;simp (disch:=omega) only[Wz,seval,Jc,Jh,Jd,hr,hl,hf,Bx,h5];refine Jx (n:=123) rfl (by decide) mixed ?_;by_cases h7:0<=r.mode/\r.mode<(n.modes.length:Int);rotate_left
   ·rw[no (by rw[decide_eq_false h7,Bool.false_and])];by_cases h7':r.mode<0;all_goals
     simp (disch:=omega) only[Wz,seval,Jc,Jh,Jd,hr,hl,hf,Bx,h5];exact fin _ _
   rw[decide_eq_true h7,Bool.true_and] at no yes;simp (disch:=omega) only[Wz,seval,Jc,Jh,Jd,hr,hl,hf,Bx,h5];refine Jx (n:=123) rfl (by decide) mixed ?_;by_cases h8:1<=r.type/\r.type<=(n.types.length:Int);rotate_left
   ·rw[no (by rw[decide_eq_false h8,Bool.false_and])];by_cases h8':r.type<1;all_goals
     simp (disch:=omega) only[Wz,seval,Jc,Jh,Jd,hr,hl,hf,Bx,h5];exact fin _ _
   rw[decide_eq_true h8,Bool.true_and] at no yes;have hm:=Jid (et:=4) Jzx r.type (Jir n i) zr4;have hp:=Jie Jzx r.type (Jir n i);simp only[Jiq] at hm hp;by_cases h9:r.type∈Jir n i
   ·rw[decide_eq_true h9] at no hm;rw[no rfl];simp (disch:=omega) only[Wz,seval,Jc,Jh,Jd,hr,hl,hf,Bx,h5,hm,Jiq];exact fin _ _
   rw[decide_eq_false h9] at yes hm;have ty:Jmt (Jir n i) r.type=Jir n (i+1):=by rw[JgK n hlt,hr,ht];exact if_neg h9
   rw[ty] at hp;simp (disch:=omega) only[Wz,seval,Jc,Jh,Jd,hr,hl,hf,Bx,h5,hm,hp,Jiq];exact⟨(),yes rfl,Jbj (Nat.le_refl _) (by show 1<=2;decide) rfl (Jb ⟨rfl,.pure (.lit _)⟩ (Jb ⟨rfl,.pure (.lit _)⟩ (Jb ⟨rfl,.pure (.vec (Ji Jbp _))⟩ (Jb ⟨rfl,.pure (Jbk n)⟩ (Jb ⟨rfl,.om (by show 0<1;decide) rfl⟩ Jl))))) Jl (Jb ⟨by show 0<1;decide,rfl,.pure (Jfb _)⟩ Jl)⟩
  ·have ht:Jfa r=false:=by unfold Jfa;rw[hl,hf];rfl
   rw[ht,hl,hf] at no yes;simp only[Bool.not_true,Bool.not_false,Bool.true_and,Bool.false_and,Bool.and_true,Bool.and_false,Bool.true_or,Bool.false_or,Bool.false_eq_true,if_true,if_false] at no yes;simp (disch:=omega) only[Wz,seval,Jc,Jh,Jd,hr,hl,hf,Bx];refine Je JeN s1 (pa _) (.lit _) ?_;cases h1:ofN n r.start i
   ·rw[no (by rw[h1,Bool.false_and])];simp (disch:=omega) only[Wz,seval,Jc,Jh,Jd,hr,hl,hf,Bx];exact fin _ _
   rw[h1,Bool.true_and] at no yes;simp (disch:=omega) only[Wz,seval,Jc,Jh,Jd,hr,hl,hf,Bx];refine Je JeN s2 (pa _) (.lit _) ?_;cases h2:ofN n r.stop i
   ·rw[no (by rw[h2,Bool.false_and])];simp (disch:=omega) only[Wz,seval,Jc,Jh,Jd,hr,hl,hf,Bx];exact fin _ _
   rw[h2,Bool.true_and] at no yes;obtain⟨b1,b2⟩:=JdS h2;by_cases h3:r.start≠r.stop;rotate_left
   ·rw[no (by rw[decide_eq_false h3,Bool.false_and])];simp (disch:=omega) only[Wz,seval,Jc,Jh,Jd,hr,hl,hf,Bx];exact fin _ _
   rw[decide_eq_true h3,Bool.true_and] at no yes;simp (disch:=omega) only[Wz,seval,Jc,Jh,Jd,hr,hl,hf,Bx];refine Jx (n:=123) rfl (by decide) mixed ?_;by_cases h4:(n.states.getD r.stop.toNat default).edges.length=0;rotate_left
   ·rw[no (by rw[decide_eq_false h4,Bool.false_and])];simp (disch:=omega) only[Wz,seval,Jc,Jh,Jd,hr,hl,hf,Bx];exact fin _ _
   rw[decide_eq_true h4,Bool.true_and] at no yes;cases h5:r.left;rotate_left
   ·rw[no (by rw[h5];rfl)];simp (disch:=omega) only[Wz,seval,Jc,Jh,Jd,hr,hl,hf,Bx,h5];exact fin _ _
   rw[h5,Bool.not_false,Bool.true_and] at no yes;simp (disch:=omega) only[Wz,seval,Jc,Jh,Jd,hr,hl,hf,Bx,h5];refine Jx (n:=123) rfl (by decide) mixed ?_;by_cases h7:0<=r.mode/\r.mode<(n.modes.length:Int);rotate_left
   ·rw[no (by rw[decide_eq_false h7,Bool.false_and])];by_cases h7':r.mode<0;all_goals
     simp (disch:=omega) only[Wz,seval,Jc,Jh,Jd,hr,hl,hf,Bx,h5];exact fin _ _
   rw[decide_eq_true h7,Bool.true_and] at no yes;by_cases h8:r.type=0;rotate_left
   ·rw[no (by rw[decide_eq_false h8])];simp (disch:=omega) only[Wz,seval,Jc,Jh,Jd,hr,hl,hf,Bx,h5];exact fin _ _
   rw[decide_eq_true h8] at yes;have ty:Jir n (i+1)=Jir n i:=by rw[JgK n hlt,hr,ht];rfl
   rw[ty];simp (disch:=omega) only[Wz,seval,Jc,Jh,Jd,hr,hl,hf,Bx,h5];refine Jx (n:=123) rfl (by decide) mixed ?_;simp (disch:=omega) only[Wz,seval,Jc,Jh,Jd,hr,hl,hf,Bx,h5];exact⟨(),yes rfl,Jbj (Nat.le_refl _) (by show 1<=2;decide) rfl (Jb ⟨rfl,.pure (.lit _)⟩ (Jb ⟨rfl,.pure (.lit _)⟩ (Jb ⟨rfl,.pure (.vec (Ji Jbp _))⟩ (Jb ⟨rfl,.pure (Jbk n)⟩ (Jb ⟨rfl,.om (by show 0<1;decide) rfl⟩ Jl))))) Jl (Jb ⟨by show 0<1;decide,rfl,.pure (Jfb _)⟩ Jl)⟩
 ·have e:Jdz n=true:=Jaz hno;rw[e];simp (disch:=omega) only[Wz,seval];exact Jaw (.lit _)
end Go.Proofs.Y
end
