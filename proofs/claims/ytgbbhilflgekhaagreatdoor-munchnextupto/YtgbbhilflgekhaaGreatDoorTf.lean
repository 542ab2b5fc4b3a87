/- Parts of the proof, laid together. -/
import Derived.Test.YtgbbhilflgekhaaGreatDoorTe
set_option linter.unusedVariables false
set_option linter.unusedSimpArgs false
set_option maxRecDepth 20000
set_option maxHeartbeats 16000000
section
namespace Go.Proofs.Y
open Go Go.Ab
open Go.Proofs.Tryz renaming prog->Pg
def kd1 (n:Nt)(r:Nr)(e:Ed):Bool:=decide (e.n=0/\e.level=0) && (decide ((if r.lexer then 0 else 1)<=(e.set.getD 0 default).1) && decide ((e.set.getD (e.set.length - 1) default).2<=(if r.lexer then 1114111 else (n.types.length:Int))))
theorem JqE(n:Nt)(r:Nr)(no:Int)(e:Ed)(h:n.types.length<=2000000000)(hs:0<e.set.length)(hl:e.set.length<=2000000000):JO Pg 94 [.agg (Jc4 n r no e)] (.lit (.bool (kd1 n r e))):=by
 refine Jm Tryz.func94 rfl Tryz.ntmps94 (rs:=[.tmp 2]) rfl (by simp) ?_;simp -implicitDefEqProofs (disch:=omega) only[Wz,seval,Jc4,Jn,Jc,Jh,Lx];refine Jv (n:=56) rfl (by decide) mixed ?_;have hw:IntKind.i32.wrap (n.types.length:Int)=(n.types.length:Int):=IntWalk.i32_in _ ⟨by omega,by omega⟩;have i1:((e.set.length:Int) - 1).toNat=e.set.length - 1:=by omega
 have i2:IntKind.i64.wrap ((e.set.length:Int) - 1)=(e.set.length:Int) - 1:=Jdi (by omega) (by omega);unfold kd1;cases hx:r.lexer
 ·by_cases k1:e.n=0
  ·by_cases k2:e.level=0
   ·by_cases k3:1<=(e.set.getD 0 default).1
    ·by_cases k4:(e.set.getD (e.set.length - 1) default).2<=(n.types.length:Int);all_goals
      simp -implicitDefEqProofs (disch:=omega) only[Wz,seval,Jc,hx,hw,i1,i2,Jbb,Bool.true_and,Bool.false_eq_true,if_true,if_false];exact Ja (.lit _)
    ·simp -implicitDefEqProofs (disch:=omega) only[Wz,seval,Jc,hx,hw,i1,i2,Jbb,Bool.true_and,Bool.false_and,Bool.false_eq_true,if_true,if_false];exact Ja (.lit _)
   ·simp -implicitDefEqProofs (disch:=omega) only[Wz,seval,Jc,hx,hw,i1,i2,Jbb,Bool.true_and,Bool.false_and,Bool.false_eq_true,if_true,if_false];exact Ja (.lit _)
  ·simp -implicitDefEqProofs (disch:=omega) only[Wz,seval,Jc,hx,hw,i1,i2,Jbb,Bool.true_and,Bool.false_and,Bool.false_eq_true,if_true,if_false];exact Ja (.lit _)
 ·by_cases k1:e.n=0
  ·by_cases k2:e.level=0
   ·by_cases k3:0<=(e.set.getD 0 default).1
    ·by_cases k4:(e.set.getD (e.set.length - 1) default).2<=1114111;all_goals
      simp -implicitDefEqProofs (disch:=omega) only[Wz,seval,Jc,hx,hw,i1,i2,Jbb,Bool.true_and,Bool.false_eq_true,if_true,if_false];exact Ja (.lit _)
    ·simp -implicitDefEqProofs (disch:=omega) only[Wz,seval,Jc,hx,hw,i1,i2,Jbb,Bool.true_and,Bool.false_and,Bool.false_eq_true,if_true,if_false];exact Ja (.lit _)
   ·simp -implicitDefEqProofs (disch:=omega) only[Wz,seval,Jc,hx,hw,i1,i2,Jbb,Bool.true_and,Bool.false_and,Bool.false_eq_true,if_true,if_false];exact Ja (.lit _)
  ·simp -implicitDefEqProofs (disch:=omega) only[Wz,seval,Jc,hx,hw,i1,i2,Jbb,Bool.true_and,Bool.false_and,Bool.false_eq_true,if_true,if_false];exact Ja (.lit _)
theorem JmL:Ja3 Pg 80 [] (.agg [.fn (.func 93) [] [],.fn (.func 94) [] [],.fn (.func 95) [] [],.fn (.func 96) [] [],.fn (.func 98) [] [],.fn (.func 99) [] [],.fn (.func 100) [] [],.fn (.func 101) [] []]):=by
 refine J5 (JE Tryz.func80 rfl Tryz.ntmps80 (rs:=[.cell 0 172]) rfl (by simp) ?_);simp -implicitDefEqProofs (disch:=omega) only[Wz,seval];exact Jat (.of_pure (.agg (Jb (.fn Jl Jl) (Jb (.fn Jl Jl) (Jb (.fn Jl Jl) (Jb (.fn Jl Jl) (Jb (.fn Jl Jl) (Jb (.fn Jl Jl) (Jb (.fn Jl Jl) (Jb (.fn Jl Jl) Jl))))))))))
theorem Js3(n:Nt)(st ru:Int)(h:n.states.length<=2000000000):JO Pg 79 [.pp (Jh n) 0,.lit (.int .i64 st),.lit (.int .i64 ru)] (.lit (.bool (ofN n st ru))):=by
 refine Jm Tryz.func79 rfl Tryz.ntmps79 (rs:=[.tmp 6]) rfl (by simp) ?_;unfold ofN;by_cases k1:0<=st
 ·by_cases k2:st<(n.states.length:Int)
  ·by_cases k3:(n.states.getD st.toNat default).rule=ru;all_goals
    simp -implicitDefEqProofs (disch:=omega) only[Wz,seval,Jh,Jd,Bool.true_and];exact Ja (.lit _)
  ·simp -implicitDefEqProofs (disch:=omega) only[Wz,seval,Jh,Bool.false_and];exact Ja (.lit _)
 ·simp -implicitDefEqProofs (disch:=omega) only[Wz,seval,Jh,Bool.false_and];exact Ja (.lit _)
theorem Jhq{a b:ByteArray}(h:a.toList=b.toList):a=b:=by
 rw[ByteArray.toList_eq,ByteArray.toList_eq] at h;cases a;cases b;simp only[Array.toList_inj] at h;rw[h]
instance:DecidableEq ByteArray:=fun a b=>decidable_of_iff (a.toList=b.toList) ⟨Jhq,fun h=>by rw[h]⟩
theorem JA(a b:ByteArray):(a.toList==b.toList)=decide (a=b):=by
 by_cases h:a=b
 ·subst h;simp
 ·rw[decide_eq_false h];cases hb:a.toList==b.toList with
  | false=>rfl
  | true=>exact absurd (Jhq (by simpa using hb)) h
def Jyx (b:ByteArray):AV:=.lit (.string b)
theorem JBP:Jp5 Pg 9 Jyx:=fun a b=>by
 show Jcd Pg 9 (.lit (.string a)) (.lit (.string b))=_;unfold Jcd;rw[ty9];show Jc6 .str _ _=_;simp only[Jc6,JA]
abbrev Jyy{K:Type}[DecidableEq K](x:K)(l:List K):Decidable (x∈l):=inferInstance
instance memB (x:ByteArray) (l:List ByteArray):Decidable (x∈l):=Jyy x l
theorem JqF{l:List ByteArray}{i:Nat}(hi:i<l.length)(h:l.getD i default∉l.take i):Jmm (l.take i) (l.getD i default)=l.take (i+1):=by
 unfold Jmm;rw[if_neg h,List.take_add_one,List.getD_eq_getElem?_getD,List.getElem?_eq_getElem hi];rfl
def JlK (l:List ByteArray)(j:Nat):Bool:=decide (l.getD j default≠⟨#[]⟩) && (decide ((l.getD j default).size<=40) && !decide (l.getD j default∈l.take j))
def JcG(l:List ByteArray):Bool:=(List.range l.length).all (JlK l)
theorem Jdj(l:List ByteArray)(fl:Bool)(h:l.length<=2000000000)(hs:∀ s∈l,s.size<=9000000000000000000):Ja3 Pg 77 [.vec (l.map JaD) fl] (.lit (.bool (JcG l))):=by
 refine J5 (JE Tryz.func77 rfl Tryz.ntmps77 (rs:=[.tmp 2]) rfl (by simp) ?_);simp -implicitDefEqProofs (disch:=omega) only[Wz,seval];refine Jb5 l.length 1 (fun i (_:Unit)=>⟨[(9,.lit (.int .i64 (i:Int))),(8,.lit (.int .i64 (l.length:Int))),(7,.vec (l.map JaD) fl),(3,.om 0)],⟨[],[(0,⟨Jek Jyx (l.take i),0,0⟩)],1⟩,28⟩) (fun i _=>∀ j,j<i->JlK l j=true) (fun _ _=>rfl) () (St.wk_slots (by simp[lk])) (by simp) (fun i _ hlt hno=>?_) (fun _ hno=>?_)
 ·have key:JlK l i=(decide (l.getD i default≠⟨#[]⟩) && (decide ((l.getD i default).size<=40) && !decide (l.getD i default∈l.take i))):=rfl;have hsz:=hs _ (Jt hlt);have hm:Jno Pg 9 4 false (.lit (.string (l.getD i default))) (Jek Jyx (l.take i))=some (.lit (.bool (decide (l.getD i default∈l.take i)))):=Jh2 JBP (l.getD i default) (l.take i) zr4;have hp:Jry Pg 9 (.lit (.string (l.getD i default))) (.lit (.bool true)) (Jek Jyx (l.take i))=some (Jek Jyx (Jmm (l.take i) (l.getD i default))):=Jh3 JBP (l.getD i default) (l.take i);have adds:=JqF hlt;have no:JlK l i=false->JcG l=false:=Jbh hlt;have yes:JlK l i=true->∀ j,j<i+1->JlK l j=true:=Jar hno;rw[key] at no yes;obtain⟨s,hs0⟩:∃ s,l.getD i default=s:=⟨_,rfl⟩;rw[hs0] at no yes hm hp adds hsz;by_cases k1:s=⟨#[]⟩
  ·rw[no (by rw[k1];simp)];have k1':decide (s=⟨#[]⟩)=true:=decide_eq_true k1;simp -implicitDefEqProofs (disch:=omega) only[Wz,seval,JaD,JA,hs0,k1'];exact Jat (.lit _)
  have k1':decide (s=⟨#[]⟩)=false:=decide_eq_false k1;have k1'':decide (s≠⟨#[]⟩)=true:=decide_eq_true k1;rw[k1'',Bool.true_and] at no yes;by_cases k2:s.size<=40
  ·rw[decide_eq_true k2,Bool.true_and] at no yes;by_cases k3:s∈l.take i
   ·rw[decide_eq_true k3] at no hm;rw[no rfl];simp -implicitDefEqProofs (disch:=omega) only[Wz,seval,JaD,JA,hs0,k1',hm];exact Jat (.lit _)
   ·rw[decide_eq_false k3] at hm yes;rw[adds k3] at hp;simp -implicitDefEqProofs (disch:=omega) only[Wz,seval,JaD,JA,hs0,k1',hm,hp];exact⟨(),yes rfl,St.wk.cp (St.wk_slots (by simp[lk]))⟩
  ·rw[decide_eq_false k2,Bool.false_and] at no;rw[no rfl];simp -implicitDefEqProofs (disch:=omega) only[Wz,seval,JaD,JA,hs0,k1'];exact Jat (.lit _)
 ·have e:JcG l=true:=Jaw hno;rw[e];simp -implicitDefEqProofs (disch:=omega) only[Wz,seval];exact Jat (.lit _)
structure JBQ (e:Ed):Prop where
 set:e.set.length<=1000000000
 acts:e.acts.length<=1000000000
 g:gsz e.g<=1000000000
 gd:Jnq e.g
 rng:JjH e.set
structure JcH (n:Nt):Prop where
 types:n.types.length<=1000000000
 channels:n.channels.length<=1000000000
 modes:n.modes.length<=1000000000
 rules:n.rules.length<=1000000000
 states:n.states.length<=1000000000
 typ:∀ s∈n.types,s.size<=9000000000000000000
 chan:∀ s∈n.channels,s.size<=9000000000000000000
 mode:∀ s∈n.modes,s.size<=9000000000000000000
 name:∀ r∈n.rules,r.name.size<=9000000000000000000
 edges:∀ s∈n.states,s.edges.length<=1000000000/\∀ e∈s.edges,JBQ e
theorem Jyz{l:List ByteArray}(h:1<=l.length):Jfg 1 (l.map JaD) false (some 1) none none=some (.vec ((l.drop 1).map JaD) false):=by
 have hl:∀ x∈l.map JaD,x.length=1:=fun x hx=>by obtain⟨b,_,rfl⟩:=List.mem_map.1 hx;rfl
 have c:(0:Int)<=1/\(1:Int)<=((l.map JaD).length:Int)/\((l.map JaD).length:Int)<=((l.map JaD).length:Int)/\((l.map JaD).length:Int)<=((l.map JaD).length:Int)/\((none:Option Int).isSome->(none:Option Int).isSome)/\∀ x∈l.map JaD,x.length=1:=⟨by decide,by simp;omega,Int.le_refl _,Int.le_refl _,id,hl⟩;unfold Jfg;simp only[Option.getD_none,Option.getD_some];rw[if_pos c];have e:((l.map JaD).drop (1:Int).toNat).take (((l.map JaD).length:Int).toNat - (1:Int).toNat)=(l.drop 1).map JaD:=by
  rw[List.take_of_length_le (by simp)];simp
 rw[e];rfl
def JgF(l:List ByteArray):Bool:=decide (0<l.length/\l.length<=20) && (decide (l.getD 0 default=⟨#[]⟩) && JcG (l.drop 1))
theorem JoR(l:List ByteArray)(h:l.length<=2000000000)(hs:∀ s∈l,s.size<=9000000000000000000):Ja3 Pg 78 [.vec (l.map JaD) false] (.lit (.bool (JgF l))):=by
 refine J5 (JE Tryz.func78 rfl Tryz.ntmps78 (rs:=[.tmp 2]) rfl (by simp) ?_);unfold JgF;by_cases h1:0<l.length
 ·by_cases h2:l.length<=20
  ·obtain⟨s,hs0⟩:∃ s,l.getD 0 default=s:=⟨_,rfl⟩;by_cases h3:s=⟨#[]⟩
   ·have h3':decide (s=⟨#[]⟩)=true:=decide_eq_true h3;have sl:=Jyz (l:=l) (by omega);simp -implicitDefEqProofs (disch:=omega) only[Wz,seval,hs0,JA,h3',Bool.true_and,sl,JaD];refine JT JlB (Jdj (l.drop 1) false (by simp;omega) (fun s hs'=>hs s (List.mem_of_mem_drop hs'))) (Jb (.of_pure (.vec (Ji Jak _))) Jl) (.lit _) ?_;simp -implicitDefEqProofs (disch:=omega) only[Wz,seval];exact Jat (.lit _)
   ·have h3':decide (s=⟨#[]⟩)=false:=decide_eq_false h3;simp -implicitDefEqProofs (disch:=omega) only[Wz,seval,JaD,hs0,JA,h3',Bool.true_and,Bool.false_and];exact Jat (.lit _)
  ·simp -implicitDefEqProofs (disch:=omega) only[Wz,seval,Bool.false_and];exact Jat (.lit _)
 ·simp -implicitDefEqProofs (disch:=omega) only[Wz,seval,Bool.false_and];exact Jat (.lit _)
def Jd7(n:Nt)(i:Nat):Bool := !(decide (0<i) && ((n.rules.getD i default).lexer && !(n.rules.getD (i - 1) default).lexer))
def Jc1(n:Nt):Bool:=(List.range n.rules.length).all (Jd7 n) && (decide (n.types.length<=200/\n.rules.length<=100/\n.states.length<=4000) && (JcG n.types && (JgF n.channels && (JgF n.modes && JcG (n.rules.map Nr.name)))))
theorem JmM(n:Nt)(ok:JcH n):Ja3 Pg 58 [.pp (Jh n) 0] (.lit (.bool (Jc1 n))):=by
 have h:=ok.rules;have ht:=ok.types;have hc:=ok.channels;have hm:=ok.modes;have hst:=ok.states;refine J5 (JE Tryz.func58 rfl Tryz.ntmps58 (rs:=[.tmp 2]) rfl (by simp) ?_);simp -implicitDefEqProofs (disch:=omega) only[Wz,seval,Jh];refine Jsr n.rules.length 0 (fun i (xs:List (List AV))=>⟨[(11,.lit (.int .i64 (i:Int))),(10,.lit (.int .i64 (n.rules.length:Int))),(9,.vec (n.rules.map Jc) false),(0,.pp (Jh n) 0),(3,grA 0 xs)],⟨[],grT 0 1 xs,grN 0 xs⟩,87⟩)
  (fun i xs=>xs=((n.rules.map Nr.name).take i).map JaD/\∀ j,j<i->Jd7 n j=true) (Nat.le_refl _) [] (St.wk.cp (St.wk_slots (by simp[lk,Jh,grA]))) ⟨rfl,by simp⟩ ?_ ?_
 ·rintro i xs hi ⟨hxs,hno⟩;have hxl:xs.length=i:=by rw[hxs];simp;omega
  have key:Jd7 n i = !(decide (0<i) && ((n.rules.getD i default).lexer && !(n.rules.getD (i - 1) default).lexer)):=rfl;have hnext:xs++[JaD (n.rules.getD i default).name]=((n.rules.map Nr.name).take (i+1)).map JaD:=by
   rw[hxs,List.take_add_one,List.getElem?_map,List.getElem?_eq_getElem hi];simp[List.getD_eq_getElem?_getD,List.getElem?_eq_getElem hi]
  cases xs with
  | nil =>
   have h0:i=0:=by simp at hxl;omega
   have hfit:Ja4 1 16:=JM (by decide) (by decide);simp -implicitDefEqProofs (disch:=omega) only[Wz,seval,Jh,Jc,grA,grT,grN,hfit,List.mem_singleton,forall_eq,List.not_mem_nil,false_imp_iff,implies_true];refine⟨[JaD (n.rules.getD i default).name],⟨by simpa using hnext,Jar hno (by rw[key,h0];rfl)⟩,?_⟩;exact St.cp_of 0 [1] (by show 0<=2;decide) rfl rfl (by decide) (by show ∀ x∈[1],0<=x/\x<2;decide) (Jb ⟨_,rfl,.pure (.lit _)⟩ (Jb ⟨_,rfl,.pure (.lit _)⟩ (Jb ⟨_,rfl,.pure (.vec (Ji Jbj _))⟩ (Jb ⟨_,rfl,.pure (Jbd n)⟩ (Jb ⟨_,rfl,.own (by show 0<1;decide) rfl⟩ Jl))))) Jl
    (Jb ⟨by show 0<1;decide,_,rfl,rfl,rfl,.pure (Ji Jak [(n.rules.getD i default).name])⟩ Jl)
  | cons x l =>
   simp only[List.length_cons] at hxl;have hfit:Ja4 (l.length+1+1) 16:=JM (by omega) (by omega);have i1:((i:Int) - 1).toNat=i - 1:=by omega
   have i2:IntKind.i64.wrap ((i:Int) - 1)=(i:Int) - 1:=Jdi (by omega) (by omega);have hlen2:(l++[JaD (n.rules.getD i default).name]).length+1=l.length+1+1:=by simp
   have rp:∀ y∈x :: l++[JaD (n.rules.getD i default).name],∀ c∈y,Ab.Pure c:=by rw[hnext];exact Ji Jak _
   have key1:Jd7 n i = !((n.rules.getD i default).lexer && !(n.rules.getD (i - 1) default).lexer):=by rw[key,decide_eq_true (by omega),Bool.true_and]
   have back:Jd7 n i=true->∀ sl:List (Nat × AV),∀ bx:List AV,lk sl 11=some (.lit (.int .i64 ((i+1:Nat):Int)))->lk sl 10=some (.lit (.int .i64 (n.rules.length:Int)))->lk sl 9=some (.vec (n.rules.map Jc) false)->lk sl 0=some (.pp (Jh n) 0)->lk sl 3=some (.own 0 (l.length+1+1)) ->
     ∃ a',(a'=((n.rules.map Nr.name).take (i+1)).map JaD/\∀ j,j<i+1->Jd7 n j=true)/\St.cp 0 ⟨sl,⟨[(1,bx)],[(0,⟨x :: l++[JaD (n.rules.getD i default).name],0,1⟩)],2⟩,87⟩ ⟨[(11,.lit (.int .i64 ((i+1:Nat):Int))),(10,.lit (.int .i64 (n.rules.length:Int))),(9,.vec (n.rules.map Jc) false),(0,.pp (Jh n) 0),(3,grA 0 a')],⟨[],grT 0 1 a',grN 0 a'⟩,87⟩:=fun hk sl bx e1 e2 e3 e4 e5=>by
    refine⟨x :: l++[JaD (n.rules.getD i default).name],⟨hnext,Jar hno hk⟩,?_⟩;simp only[List.cons_append,grA,grT,grN,hlen2];exact Jbc (Nat.zero_le _) (by show 1<=2;decide) rfl (Jb ⟨e1,.pure (.lit _)⟩ (Jb ⟨e2,.pure (.lit _)⟩ (Jb ⟨e3,.pure (.vec (Ji Jbj _))⟩ (Jb ⟨e4,.pure (Jbd n)⟩ (Jb ⟨e5,.own (by show 0<1;decide) rfl⟩ Jl))))) Jl (Jb ⟨by show 0<1;decide,rfl,.pure rp⟩ Jl)
   cases hx:(n.rules.getD i default).lexer
   ·simp -implicitDefEqProofs (disch:=omega) only[Wz,seval,Jh,Jc,grA,grT,grN,hx,hfit,List.mem_singleton,forall_eq,List.not_mem_nil,false_imp_iff,implies_true];exact back (by rw[key1,hx];rfl) _ _ rfl rfl rfl rfl rfl
   ·cases hy:(n.rules.getD (i - 1) default).lexer
    ·simp -implicitDefEqProofs (disch:=omega) only[Wz,seval,Jh,Jc,grA,grT,grN,hx,hy,i1,i2,hfit,List.mem_singleton,forall_eq,List.not_mem_nil,false_imp_iff,implies_true];have e:(List.range n.rules.length).all (Jd7 n)=false:=Jbh hi (by rw[key1,hx,hy];rfl);unfold Jc1;rw[e];exact Jat (.lit _)
    ·simp -implicitDefEqProofs (disch:=omega) only[Wz,seval,Jh,Jc,grA,grT,grN,hx,hy,i1,i2,hfit,List.mem_singleton,forall_eq,List.not_mem_nil,false_imp_iff,implies_true];exact back (by rw[key1,hx,hy];rfl) _ _ rfl rfl rfl rfl rfl
 ·rintro xs ⟨hxs,hno⟩;have e:(List.range n.rules.length).all (Jd7 n)=true:=Jaw hno;unfold Jc1;rw[e,Bool.true_and];have hxs:xs=(n.rules.map Nr.name).map JaD:=by rw[hxs];rw[List.take_of_length_le (by simp)]
  have fin:∀ h (b:Bool),Jd6 h (.lit (.bool b)) (.lit (.bool b)):=fun h b=>Jat (.lit _);have gps:∀ l:List ByteArray,GP (.vec (l.map JaD) false):=fun l=>.of_pure (.vec (Ji Jak _));by_cases k1:n.types.length<=200
  ·by_cases k2:n.rules.length<=100
   ·by_cases k3:n.states.length<=4000
    ·simp -implicitDefEqProofs (disch:=omega) only[Wz,seval,Jh,Bool.true_and];refine JT JlB (Jdj n.types false (by omega) ok.typ) (Jb (gps _) Jl) (.lit _) ?_;cases JcG n.types
     ·simp -implicitDefEqProofs (disch:=omega) only[Wz,seval,Bool.false_and];exact fin _ _
     simp -implicitDefEqProofs (disch:=omega) only[Wz,seval,Jh,Bool.true_and];refine JT JrU (JoR n.channels (by omega) ok.chan) (Jb (gps _) Jl) (.lit _) ?_;cases JgF n.channels
     ·simp -implicitDefEqProofs (disch:=omega) only[Wz,seval,Bool.false_and];exact fin _ _
     simp -implicitDefEqProofs (disch:=omega) only[Wz,seval,Jh,Bool.true_and];refine JT JrU (JoR n.modes (by omega) ok.mode) (Jb (gps _) Jl) (.lit _) ?_;cases JgF n.modes
     ·simp -implicitDefEqProofs (disch:=omega) only[Wz,seval,Bool.false_and];exact fin _ _
     have un:=Jdj (n.rules.map Nr.name) false (by simp;omega) (fun s hs=>by obtain⟨r,hr,rfl⟩:=List.mem_map.1 hs;exact ok.name r hr);have un':=Jdj (n.rules.map Nr.name) true (by simp;omega) (fun s hs=>by obtain⟨r,hr,rfl⟩:=List.mem_map.1 hs;exact ok.name r hr);rw[<- hxs] at un un';cases xs with
     | nil =>
      simp -implicitDefEqProofs (disch:=omega) only[Wz,seval,Jh,Bool.true_and,grA,grT,grN];refine JT JlB un' (Jb (.of_pure (.vec Jl)) Jl) (.lit _) ?_;simp -implicitDefEqProofs (disch:=omega) only[Wz,seval];exact fin _ _
     | cons x l =>
      simp -implicitDefEqProofs (disch:=omega) only[Wz,seval,Jh,Bool.true_and,grA,grT,grN];refine Jcx.freeze (t:=0) (k:=⟨x :: l,0,1⟩) (args1:=[.vec (x :: l) false]) rfl (fun g g' e c=>Ju c JaR) ?_;refine JT JlB un (Jb (.of_pure (.vec (by rw[hxs];exact Ji Jak _))) Jl) (.lit _) ?_;simp -implicitDefEqProofs (disch:=omega) only[Wz,seval];exact fin _ _
    ·simp -implicitDefEqProofs (disch:=omega) only[Wz,seval,Jh,Bool.false_and];exact fin _ _
   ·simp -implicitDefEqProofs (disch:=omega) only[Wz,seval,Jh,Bool.false_and];exact fin _ _
  ·simp -implicitDefEqProofs (disch:=omega) only[Wz,seval,Jh,Bool.false_and];exact fin _ _
def Jif (z:Int):AV:=.lit (.int .i64 z)
theorem Jzs:Jp5 Pg 3 Jif:=fun a b=>by
 show Jcd Pg 3 (.lit (.int .i64 a)) (.lit (.int .i64 b))=_;unfold Jcd;rw[ty3];show Jc6 (.int _) _ _=_;simp only[Jc6,if_true];by_cases h:a=b
 ·subst h;simp
 ·simp[h]
def Je6 (r:Nr):Bool:=r.lexer && !r.frag
def Jig (n:Nt)(i:Nat):List Int:=((n.rules.take i).filter Je6).map Nr.type
theorem JgG(n:Nt){i:Nat}(h:i<n.rules.length):Jig n (i+1)=if Je6 (n.rules.getD i default) then Jig n i++[(n.rules.getD i default).type] else Jig n i:=by
 unfold Jig;rw[List.take_add_one,List.getElem?_eq_getElem h,List.getD_eq_getElem?_getD,List.getElem?_eq_getElem h];simp only[Option.toList_some,List.filter_append,Option.getD_some,List.map_append];cases ht:Je6 n.rules[i] <;> simp[ht]
theorem JdL{n:Nt}{s r:Int}(h:ofN n s r=true):0<=s/\s<(n.states.length:Int):=by
 unfold ofN at h;simp only[Bool.and_eq_true,decide_eq_true_eq] at h;exact⟨h.1,h.2.1⟩
theorem Je7(S:List Int):∀ y∈Jek Jif S,∀ c∈y,Ab.Pure c:=fun y hy c hc=>by
 obtain⟨k,_,rfl⟩:=List.mem_map.1 hy;simp only[List.mem_cons,List.not_mem_nil,or_false] at hc;rcases hc with rfl | rfl
 ·exact .lit _
 ·exact .lit _
def Jd8(n:Nt)(i:Nat):Bool :=
 ofN n (n.rules.getD i default).start i && (ofN n (n.rules.getD i default).stop i && (decide ((n.rules.getD i default).start≠(n.rules.getD i default).stop) &&
  (decide ((n.states.getD (n.rules.getD i default).stop.toNat default).edges.length=0) &&
  (!(!(n.rules.getD i default).lexer && ((n.rules.getD i default).frag || ((n.rules.getD i default).lz || decide ((n.rules.getD i default).mode≠0)))) &&
  (!((n.rules.getD i default).lexer && (n.rules.getD i default).left) && (decide (0<=(n.rules.getD i default).mode/\(n.rules.getD i default).mode<(n.modes.length:Int)) &&
  (if Je6 (n.rules.getD i default) then decide (1<=(n.rules.getD i default).type/\(n.rules.getD i default).type<=(n.types.length:Int)) && !decide ((n.rules.getD i default).type∈Jig n i) else decide ((n.rules.getD i default).type=0))))))))
def Jdt(n:Nt):Bool:=(List.range n.rules.length).all (Jd8 n)
theorem JmN(n:Nt)(ok:JcH n):Ja3 Pg 59 [.pp (Jh n) 0] (.lit (.bool (Jdt n))):=by
 have h:=ok.rules;have ht:=ok.types;have hm:=ok.modes;have hst:=ok.states;refine J5 (JE Tryz.func59 rfl Tryz.ntmps59 (rs:=[.tmp 2]) rfl (by simp) ?_);simp -implicitDefEqProofs (disch:=omega) only[Wz,seval,Jh];refine Jb5 n.rules.length 1 (fun i (_:Unit)=>⟨[(13,.lit (.int .i64 (i:Int))),(12,.lit (.int .i64 (n.rules.length:Int))),(11,.vec (n.rules.map Jc) false),(0,.pp (Jh n) 0),(3,.om 0)],⟨[],[(0,⟨Jek Jif (Jig n i),0,0⟩)],1⟩,123⟩) (fun i _=>∀ j,j<i->Jd8 n j=true) (fun _ _=>rfl) () (St.wk_slots (by simp[lk,Jh])) (by simp) (fun i _ hlt hno=>?_) (fun _ hno=>?_)
 ·have s1:=Js3 n (n.rules.getD i default).start i (by omega);have s2:=Js3 n (n.rules.getD i default).stop i (by omega);have key:Jd8 n i=_:=rfl;have no:Jd8 n i=false->Jdt n=false:=Jbh hlt;have yes:Jd8 n i=true->∀ j,j<i+1->Jd8 n j=true:=Jar hno;have fin:∀ h (b:Bool),Jd6 h (.lit (.bool b)) (.lit (.bool b)):=fun h b=>Jat (.lit _);have pa:∀ z:Int,∀ a∈[AV.pp (Jh n) 0,.lit (.int .i64 z),.lit (.int .i64 (i:Int))],Ab.Pure a:=fun z=>Jb (Jbd n) (Jb (.lit _) (Jb (.lit _) Jl));obtain⟨r,hr⟩:∃ r,n.rules.getD i default=r:=⟨_,rfl⟩;rw[hr] at s1 s2;unfold Jd8 at no yes key;rw[hr] at no yes key;cases hl:r.lexer <;> cases hf:r.frag
  ·have ht:Je6 r=false:=by unfold Je6;rw[hl,hf];rfl
   rw[ht,hl,hf] at no yes;simp only[Bool.not_true,Bool.not_false,Bool.true_and,Bool.false_and,Bool.and_true,Bool.and_false,Bool.true_or,Bool.false_or,Bool.false_eq_true,if_true,if_false] at no yes;simp -implicitDefEqProofs (disch:=omega) only[Wz,seval,Jc,Jh,Jd,hr,hl,hf,Bool.not_true,Bool.not_false,Bool.true_and,Bool.false_and,Bool.and_true,Bool.and_false];refine Jf JeK s1 (pa _) (.lit _) ?_;cases h1:ofN n r.start i
   ·rw[no (by rw[h1,Bool.false_and])];simp -implicitDefEqProofs (disch:=omega) only[Wz,seval,Jc,Jh,Jd,hr,hl,hf,Bool.not_true,Bool.not_false,Bool.true_and,Bool.false_and,Bool.and_true,Bool.and_false];exact fin _ _
   rw[h1,Bool.true_and] at no yes;simp -implicitDefEqProofs (disch:=omega) only[Wz,seval,Jc,Jh,Jd,hr,hl,hf,Bool.not_true,Bool.not_false,Bool.true_and,Bool.false_and,Bool.and_true,Bool.and_false];refine Jf JeK s2 (pa _) (.lit _) ?_;cases h2:ofN n r.stop i
   ·rw[no (by rw[h2,Bool.false_and])];simp -implicitDefEqProofs (disch:=omega) only[Wz,seval,Jc,Jh,Jd,hr,hl,hf,Bool.not_true,Bool.not_false,Bool.true_and,Bool.false_and,Bool.and_true,Bool.and_false];exact fin _ _
   rw[h2,Bool.true_and] at no yes;obtain⟨b1,b2⟩:=JdL h2;by_cases h3:r.start≠r.stop;rotate_left
   ·rw[no (by rw[decide_eq_false h3,Bool.false_and])];simp -implicitDefEqProofs (disch:=omega) only[Wz,seval,Jc,Jh,Jd,hr,hl,hf,Bool.not_true,Bool.not_false,Bool.true_and,Bool.false_and,Bool.and_true,Bool.and_false];exact fin _ _
   rw[decide_eq_true h3,Bool.true_and] at no yes;simp -implicitDefEqProofs (disch:=omega) only[Wz,seval,Jc,Jh,Jd,hr,hl,hf,Bool.not_true,Bool.not_false,Bool.true_and,Bool.false_and,Bool.and_true,Bool.and_false];refine Jv (n:=123) rfl (by decide) mixed ?_;by_cases h4:(n.states.getD r.stop.toNat default).edges.length=0;rotate_left
   ·rw[no (by rw[decide_eq_false h4,Bool.false_and])];simp -implicitDefEqProofs (disch:=omega) only[Wz,seval,Jc,Jh,Jd,hr,hl,hf,Bool.not_true,Bool.not_false,Bool.true_and,Bool.false_and,Bool.and_true,Bool.and_false];exact fin _ _
   rw[decide_eq_true h4,Bool.true_and] at no yes;cases h5:r.lz;rotate_left
   ·rw[no (by rw[h5];rfl)];simp -implicitDefEqProofs (disch:=omega) only[Wz,seval,Jc,Jh,Jd,hr,hl,hf,Bool.not_true,Bool.not_false,Bool.true_and,Bool.false_and,Bool.and_true,Bool.and_false,h5];exact fin _ _
   rw[h5,Bool.false_or] at no yes;by_cases h6:r.mode≠0
   ·rw[no (by rw[decide_eq_true h6];rfl)];simp -implicitDefEqProofs (disch:=omega) only[Wz,seval,Jc,Jh,Jd,hr,hl,hf,Bool.not_true,Bool.not_false,Bool.true_and,Bool.false_and,Bool.and_true,Bool.and_false,h5];exact fin _ _
   rw[decide_eq_false h6,Bool.not_false,Bool.true_and] at no yes;simp -implicitDefEqProofs (disch:=omega) only[Wz,seval,Jc,Jh,Jd,hr,hl,hf,Bool.not_true,Bool.not_false,Bool.true_and,Bool.false_and,Bool.and_true,Bool.and_false,h5];refine Jv (n:=123) rfl (by decide) mixed ?_;by_cases h7:0<=r.mode/\r.mode<(n.modes.length:Int);rotate_left
   ·rw[no (by rw[decide_eq_false h7,Bool.false_and])];by_cases h7':r.mode<0;all_goals
     simp -implicitDefEqProofs (disch:=omega) only[Wz,seval,Jc,Jh,Jd,hr,hl,hf,Bool.not_true,Bool.not_false,Bool.true_and,Bool.false_and,Bool.and_true,Bool.and_false,h5];exact fin _ _
   rw[decide_eq_true h7,Bool.true_and] at no yes;by_cases h8:r.type=0;rotate_left
   ·rw[no (by rw[decide_eq_false h8])];simp -implicitDefEqProofs (disch:=omega) only[Wz,seval,Jc,Jh,Jd,hr,hl,hf,Bool.not_true,Bool.not_false,Bool.true_and,Bool.false_and,Bool.and_true,Bool.and_false,h5];exact fin _ _
   rw[decide_eq_true h8] at yes;have ty:Jig n (i+1)=Jig n i:=by rw[JgG n hlt,hr,ht];rfl
   rw[ty];simp -implicitDefEqProofs (disch:=omega) only[Wz,seval,Jc,Jh,Jd,hr,hl,hf,Bool.not_true,Bool.not_false,Bool.true_and,Bool.false_and,Bool.and_true,Bool.and_false,h5];refine Jv (n:=123) rfl (by decide) mixed ?_;simp -implicitDefEqProofs (disch:=omega) only[Wz,seval,Jc,Jh,Jd,hr,hl,hf,Bool.not_true,Bool.not_false,Bool.true_and,Bool.false_and,Bool.and_true,Bool.and_false,h5];exact⟨(),yes rfl,Jbc (Nat.le_refl _) (by show 1<=2;decide) rfl (Jb ⟨rfl,.pure (.lit _)⟩ (Jb ⟨rfl,.pure (.lit _)⟩ (Jb ⟨rfl,.pure (.vec (Ji Jbj _))⟩ (Jb ⟨rfl,.pure (Jbd n)⟩ (Jb ⟨rfl,.om (by show 0<1;decide) rfl⟩ Jl))))) Jl (Jb ⟨by show 0<1;decide,rfl,.pure (Je7 _)⟩ Jl)⟩
  ·have nof:Jdt n=false:=no (by rw[hl,hf];simp);rw[nof];simp -implicitDefEqProofs (disch:=omega) only[Wz,seval,Jc,Jh,Jd,hr,hl,hf,Bool.not_true,Bool.not_false,Bool.true_and,Bool.false_and,Bool.and_true,Bool.and_false];refine Jf JeK s1 (pa _) (.lit _) ?_;cases h1:ofN n r.start i
   ·simp -implicitDefEqProofs (disch:=omega) only[Wz,seval,Jc,Jh,Jd,hr,hl,hf,Bool.not_true,Bool.not_false,Bool.true_and,Bool.false_and,Bool.and_true,Bool.and_false];exact fin _ _
   simp -implicitDefEqProofs (disch:=omega) only[Wz,seval,Jc,Jh,Jd,hr,hl,hf,Bool.not_true,Bool.not_false,Bool.true_and,Bool.false_and,Bool.and_true,Bool.and_false];refine Jf JeK s2 (pa _) (.lit _) ?_;cases h2:ofN n r.stop i
   ·simp -implicitDefEqProofs (disch:=omega) only[Wz,seval,Jc,Jh,Jd,hr,hl,hf,Bool.not_true,Bool.not_false,Bool.true_and,Bool.false_and,Bool.and_true,Bool.and_false];exact fin _ _
   obtain⟨b1,b2⟩:=JdL h2;by_cases h3:r.start≠r.stop;rotate_left
   ·simp -implicitDefEqProofs (disch:=omega) only[Wz,seval,Jc,Jh,Jd,hr,hl,hf,Bool.not_true,Bool.not_false,Bool.true_and,Bool.false_and,Bool.and_true,Bool.and_false];exact fin _ _
   simp -implicitDefEqProofs (disch:=omega) only[Wz,seval,Jc,Jh,Jd,hr,hl,hf,Bool.not_true,Bool.not_false,Bool.true_and,Bool.false_and,Bool.and_true,Bool.and_false];refine Jv (n:=123) rfl (by decide) mixed ?_;by_cases h4:(n.states.getD r.stop.toNat default).edges.length=0;all_goals
    simp -implicitDefEqProofs (disch:=omega) only[Wz,seval,Jc,Jh,Jd,hr,hl,hf,Bool.not_true,Bool.not_false,Bool.true_and,Bool.false_and,Bool.and_true,Bool.and_false];exact fin _ _
  ·have ht:Je6 r=true:=by unfold Je6;rw[hl,hf];rfl
   rw[ht,hl,hf] at no yes;simp only[Bool.not_true,Bool.not_false,Bool.true_and,Bool.false_and,Bool.and_true,Bool.and_false,Bool.true_or,Bool.false_or,Bool.false_eq_true,if_true,if_false] at no yes;simp -implicitDefEqProofs (disch:=omega) only[Wz,seval,Jc,Jh,Jd,hr,hl,hf,Bool.not_true,Bool.not_false,Bool.true_and,Bool.false_and,Bool.and_true,Bool.and_false];refine Jf JeK s1 (pa _) (.lit _) ?_;cases h1:ofN n r.start i
   ·rw[no (by rw[h1,Bool.false_and])];simp -implicitDefEqProofs (disch:=omega) only[Wz,seval,Jc,Jh,Jd,hr,hl,hf,Bool.not_true,Bool.not_false,Bool.true_and,Bool.false_and,Bool.and_true,Bool.and_false];exact fin _ _
   rw[h1,Bool.true_and] at no yes;simp -implicitDefEqProofs (disch:=omega) only[Wz,seval,Jc,Jh,Jd,hr,hl,hf,Bool.not_true,Bool.not_false,Bool.true_and,Bool.false_and,Bool.and_true,Bool.and_false];refine Jf JeK s2 (pa _) (.lit _) ?_;cases h2:ofN n r.stop i
   ·rw[no (by rw[h2,Bool.false_and])];simp -implicitDefEqProofs (disch:=omega) only[Wz,seval,Jc,Jh,Jd,hr,hl,hf,Bool.not_true,Bool.not_false,Bool.true_and,Bool.false_and,Bool.and_true,Bool.and_false];exact fin _ _
   rw[h2,Bool.true_and] at no yes;obtain⟨b1,b2⟩:=JdL h2;by_cases h3:r.start≠r.stop;rotate_left
   ·rw[no (by rw[decide_eq_false h3,Bool.false_and])];simp -implicitDefEqProofs (disch:=omega) only[Wz,seval,Jc,Jh,Jd,hr,hl,hf,Bool.not_true,Bool.not_false,Bool.true_and,Bool.false_and,Bool.and_true,Bool.and_false];exact fin _ _
   rw[decide_eq_true h3,Bool.true_and] at no yes;simp -implicitDefEqProofs (disch:=omega) only[Wz,seval,Jc,Jh,Jd,hr,hl,hf,Bool.not_true,Bool.not_false,Bool.true_and,Bool.false_and,Bool.and_true,Bool.and_false];refine Jv (n:=123) rfl (by decide) mixed ?_;by_cases h4:(n.states.getD r.stop.toNat default).edges.length=0;rotate_left
   ·rw[no (by rw[decide_eq_false h4,Bool.false_and])];simp -implicitDefEqProofs (disch:=omega) only[Wz,seval,Jc,Jh,Jd,hr,hl,hf,Bool.not_true,Bool.not_false,Bool.true_and,Bool.false_and,Bool.and_true,Bool.and_false];exact fin _ _
   rw[decide_eq_true h4,Bool.true_and] at no yes;cases h5:r.left;rotate_left
   ·rw[no (by rw[h5];rfl)];simp -implicitDefEqProofs (disch:=omega) only[Wz,seval,Jc,Jh,Jd,hr,hl,hf,Bool.not_true,Bool.not_false,Bool.true_and,Bool.false_and,Bool.and_true,Bool.and_false,h5];exact fin _ _
   rw[h5,Bool.not_false,Bool.true_and] at no yes;simp -implicitDefEqProofs (disch:=omega) only[Wz,seval,Jc,Jh,Jd,hr,hl,hf,Bool.not_true,Bool.not_false,Bool.true_and,Bool.false_and,Bool.and_true,Bool.and_false,h5];refine Jv (n:=123) rfl (by decide) mixed ?_;by_cases h7:0<=r.mode/\r.mode<(n.modes.length:Int);rotate_left
   ·rw[no (by rw[decide_eq_false h7,Bool.false_and])];by_cases h7':r.mode<0;all_goals
     simp -implicitDefEqProofs (disch:=omega) only[Wz,seval,Jc,Jh,Jd,hr,hl,hf,Bool.not_true,Bool.not_false,Bool.true_and,Bool.false_and,Bool.and_true,Bool.and_false,h5];exact fin _ _
   rw[decide_eq_true h7,Bool.true_and] at no yes;simp -implicitDefEqProofs (disch:=omega) only[Wz,seval,Jc,Jh,Jd,hr,hl,hf,Bool.not_true,Bool.not_false,Bool.true_and,Bool.false_and,Bool.and_true,Bool.and_false,h5];refine Jv (n:=123) rfl (by decide) mixed ?_;by_cases h8:1<=r.type/\r.type<=(n.types.length:Int);rotate_left
   ·rw[no (by rw[decide_eq_false h8,Bool.false_and])];by_cases h8':r.type<1;all_goals
     simp -implicitDefEqProofs (disch:=omega) only[Wz,seval,Jc,Jh,Jd,hr,hl,hf,Bool.not_true,Bool.not_false,Bool.true_and,Bool.false_and,Bool.and_true,Bool.and_false,h5];exact fin _ _
   rw[decide_eq_true h8,Bool.true_and] at no yes;have hm:=Jh2 (et:=4) Jzs r.type (Jig n i) zr4;have hp:=Jh3 Jzs r.type (Jig n i);simp only[Jif] at hm hp;by_cases h9:r.type∈Jig n i
   ·rw[decide_eq_true h9] at no hm;rw[no rfl];simp -implicitDefEqProofs (disch:=omega) only[Wz,seval,Jc,Jh,Jd,hr,hl,hf,Bool.not_true,Bool.not_false,Bool.true_and,Bool.false_and,Bool.and_true,Bool.and_false,h5,hm,Jif];exact fin _ _
   rw[decide_eq_false h9] at yes hm;have ty:Jmm (Jig n i) r.type=Jig n (i+1):=by rw[JgG n hlt,hr,ht];exact if_neg h9
   rw[ty] at hp;simp -implicitDefEqProofs (disch:=omega) only[Wz,seval,Jc,Jh,Jd,hr,hl,hf,Bool.not_true,Bool.not_false,Bool.true_and,Bool.false_and,Bool.and_true,Bool.and_false,h5,hm,hp,Jif];exact⟨(),yes rfl,Jbc (Nat.le_refl _) (by show 1<=2;decide) rfl (Jb ⟨rfl,.pure (.lit _)⟩ (Jb ⟨rfl,.pure (.lit _)⟩ (Jb ⟨rfl,.pure (.vec (Ji Jbj _))⟩ (Jb ⟨rfl,.pure (Jbd n)⟩ (Jb ⟨rfl,.om (by show 0<1;decide) rfl⟩ Jl))))) Jl (Jb ⟨by show 0<1;decide,rfl,.pure (Je7 _)⟩ Jl)⟩
  ·have ht:Je6 r=false:=by unfold Je6;rw[hl,hf];rfl
   rw[ht,hl,hf] at no yes;simp only[Bool.not_true,Bool.not_false,Bool.true_and,Bool.false_and,Bool.and_true,Bool.and_false,Bool.true_or,Bool.false_or,Bool.false_eq_true,if_true,if_false] at no yes;simp -implicitDefEqProofs (disch:=omega) only[Wz,seval,Jc,Jh,Jd,hr,hl,hf,Bool.not_true,Bool.not_false,Bool.true_and,Bool.false_and,Bool.and_true,Bool.and_false];refine Jf JeK s1 (pa _) (.lit _) ?_;cases h1:ofN n r.start i
   ·rw[no (by rw[h1,Bool.false_and])];simp -implicitDefEqProofs (disch:=omega) only[Wz,seval,Jc,Jh,Jd,hr,hl,hf,Bool.not_true,Bool.not_false,Bool.true_and,Bool.false_and,Bool.and_true,Bool.and_false];exact fin _ _
   rw[h1,Bool.true_and] at no yes;simp -implicitDefEqProofs (disch:=omega) only[Wz,seval,Jc,Jh,Jd,hr,hl,hf,Bool.not_true,Bool.not_false,Bool.true_and,Bool.false_and,Bool.and_true,Bool.and_false];refine Jf JeK s2 (pa _) (.lit _) ?_;cases h2:ofN n r.stop i
   ·rw[no (by rw[h2,Bool.false_and])];simp -implicitDefEqProofs (disch:=omega) only[Wz,seval,Jc,Jh,Jd,hr,hl,hf,Bool.not_true,Bool.not_false,Bool.true_and,Bool.false_and,Bool.and_true,Bool.and_false];exact fin _ _
   rw[h2,Bool.true_and] at no yes;obtain⟨b1,b2⟩:=JdL h2;by_cases h3:r.start≠r.stop;rotate_left
   ·rw[no (by rw[decide_eq_false h3,Bool.false_and])];simp -implicitDefEqProofs (disch:=omega) only[Wz,seval,Jc,Jh,Jd,hr,hl,hf,Bool.not_true,Bool.not_false,Bool.true_and,Bool.false_and,Bool.and_true,Bool.and_false];exact fin _ _
   rw[decide_eq_true h3,Bool.true_and] at no yes;simp -implicitDefEqProofs (disch:=omega) only[Wz,seval,Jc,Jh,Jd,hr,hl,hf,Bool.not_true,Bool.not_false,Bool.true_and,Bool.false_and,Bool.and_true,Bool.and_false];refine Jv (n:=123) rfl (by decide) mixed ?_;by_cases h4:(n.states.getD r.stop.toNat default).edges.length=0;rotate_left
   ·rw[no (by rw[decide_eq_false h4,Bool.false_and])];simp -implicitDefEqProofs (disch:=omega) only[Wz,seval,Jc,Jh,Jd,hr,hl,hf,Bool.not_true,Bool.not_false,Bool.true_and,Bool.false_and,Bool.and_true,Bool.and_false];exact fin _ _
   rw[decide_eq_true h4,Bool.true_and] at no yes;cases h5:r.left;rotate_left
   ·rw[no (by rw[h5];rfl)];simp -implicitDefEqProofs (disch:=omega) only[Wz,seval,Jc,Jh,Jd,hr,hl,hf,Bool.not_true,Bool.not_false,Bool.true_and,Bool.false_and,Bool.and_true,Bool.and_false,h5];exact fin _ _
   rw[h5,Bool.not_false,Bool.true_and] at no yes;simp -implicitDefEqProofs (disch:=omega) only[Wz,seval,Jc,Jh,Jd,hr,hl,hf,Bool.not_true,Bool.not_false,Bool.true_and,Bool.false_and,Bool.and_true,Bool.and_false,h5];refine Jv (n:=123) rfl (by decide) mixed ?_;by_cases h7:0<=r.mode/\r.mode<(n.modes.length:Int);rotate_left
   ·rw[no (by rw[decide_eq_false h7,Bool.false_and])];by_cases h7':r.mode<0;all_goals
     simp -implicitDefEqProofs (disch:=omega) only[Wz,seval,Jc,Jh,Jd,hr,hl,hf,Bool.not_true,Bool.not_false,Bool.true_and,Bool.false_and,Bool.and_true,Bool.and_false,h5];exact fin _ _
   rw[decide_eq_true h7,Bool.true_and] at no yes;by_cases h8:r.type=0;rotate_left
   ·rw[no (by rw[decide_eq_false h8])];simp -implicitDefEqProofs (disch:=omega) only[Wz,seval,Jc,Jh,Jd,hr,hl,hf,Bool.not_true,Bool.not_false,Bool.true_and,Bool.false_and,Bool.and_true,Bool.and_false,h5];exact fin _ _
   rw[decide_eq_true h8] at yes;have ty:Jig n (i+1)=Jig n i:=by rw[JgG n hlt,hr,ht];rfl
   rw[ty];simp -implicitDefEqProofs (disch:=omega) only[Wz,seval,Jc,Jh,Jd,hr,hl,hf,Bool.not_true,Bool.not_false,Bool.true_and,Bool.false_and,Bool.and_true,Bool.and_false,h5];refine Jv (n:=123) rfl (by decide) mixed ?_;simp -implicitDefEqProofs (disch:=omega) only[Wz,seval,Jc,Jh,Jd,hr,hl,hf,Bool.not_true,Bool.not_false,Bool.true_and,Bool.false_and,Bool.and_true,Bool.and_false,h5];exact⟨(),yes rfl,Jbc (Nat.le_refl _) (by show 1<=2;decide) rfl (Jb ⟨rfl,.pure (.lit _)⟩ (Jb ⟨rfl,.pure (.lit _)⟩ (Jb ⟨rfl,.pure (.vec (Ji Jbj _))⟩ (Jb ⟨rfl,.pure (Jbd n)⟩ (Jb ⟨rfl,.om (by show 0<1;decide) rfl⟩ Jl))))) Jl (Jb ⟨by show 0<1;decide,rfl,.pure (Je7 _)⟩ Jl)⟩
 ·have e:Jdt n=true:=Jaw hno;rw[e];simp -implicitDefEqProofs (disch:=omega) only[Wz,seval];exact Jat (.lit _)
end Go.Proofs.Y
end
