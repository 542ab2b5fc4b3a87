/- Parts of the proof, laid together. -/
import Derived.Test.YtgbbhilflgekhaaGreatDoorVyd
set_option linter.unusedVariables false
set_option linter.unusedSimpArgs false
set_option maxRecDepth 20000
set_option maxHeartbeats 16000000
section
namespace Go.Proofs.Y
open Go Go.Ab
open Go.Proofs.Tryz renaming prog->Pg
def ofN (n:Nt)(s r:Int):Bool:=decide (0<=s) && (decide (s<n.states.length) && ((n.states.getD s.toNat default).rule==r))
theorem Jg8{T:Type}{l:List T}{p:T->Bool}{i:Nat}{x:T}(hx:l[i]? = some x)(hno:∀ y∈l.take i,p y=false)(h:p x=true):l.any p=true/\l.findIdx p=i:=by
 obtain⟨hi,rfl⟩:=List.getElem?_eq_some_iff.1 hx;refine⟨List.any_eq_true.2 ⟨_,List.getElem_mem hi,h⟩,?_⟩;rw[List.findIdx_eq hi];refine⟨h,fun j hj=>hno _ ?_⟩;rw[List.mem_take_iff_getElem];exact⟨j,by omega,rfl⟩
theorem JeV{T:Type}{l:List T}{p:T->Bool}{i:Nat}{x:T}(hx:l[i]? = some x)(hno:∀ y∈l.take i,p y=false)(h:p x=false):∀ y∈l.take (i+1),p y=false:=fun y hy=>by
 rw[List.take_add_one,hx] at hy;rcases List.mem_append.1 hy with hy | hy
 ·exact hno y hy
 ·simp at hy;rw[hy];exact h
theorem Jg9{T:Type}{l:List T}{p:T->Bool}(hno:∀ y∈l.take l.length,p y=false):l.any p=false:=by
 rw[List.take_length] at hno;rw[List.any_eq_false];intro x hx;simp[hno x hx]
def Jdi {T:Type}(l:List T)(p:T->Bool):Int:=if l.any p then ((l.findIdx p:Nat):Int) else -1
theorem Jgf{T:Type}(l:List T)(p:T->Bool):decide (Jdi l p >= 0)=l.any p:=by
 unfold Jdi;cases l.any p with
 | true=>simp
 | false=>simp
theorem Joa(l:List (Int × Int))(p:(Int × Int)->Bool)(fl:Bool)(hs:l.length<=2000000000)(fn:Nat)(first cap:List AV)(h:Hp)(hc:Ji Pg fn)(hp:∀ t∈l,JaE Pg fn (first++[.agg (JG t)]++cap) h (.lit (.bool (p t)))) :
  JaE Pg 122 [.vec (l.map JG) fl,.fn (.func fn) first cap] h (.lit (.int .i64 (Jdi l p))):=by
 refine JC Tryz.func122 rfl Tryz.ntmps122 (rs:=[.tmp 4]) rfl (by simp) ?_;simp (disch:=omega) only[Wz,seval];refine JbM l.length h.nx (fun i (_:Unit)=>⟨[(0,.vec (l.map JG) fl),(1,.fn (.func fn) first cap),(7,.lit (.int .i64 l.length)),(8,.lit (.int .i64 i))],h,19⟩) (fun i _=>∀ y∈l.take i,p y=false) (fun _ _=>rfl) () (St.wk_slots (by simp[lk])) (by simp) (fun i _ hlt hno=>?_) (fun _ hno=>?_)
 ·have hx:=List.getElem?_eq_getElem hlt;generalize l[i]=x at hx;have gx:(l.map JG).getD i []=JG x:=JdO JG hx;simp (disch:=omega) only[Wz,seval,gx,Jc1];refine JM hc (hp x (List.mem_of_getElem? hx)) ?_;rintro r h' ⟨rfl,rfl⟩;cases hpx:p x with
  | true =>
   obtain⟨e1,e2⟩:=Jg8 hx hno hpx;have eiv:Jdi l p=(i:Int):=by unfold Jdi;rw[e1,e2];rfl
   simp (disch:=omega) only[Wz,seval,eiv]
  | false =>
   simp (disch:=omega) only[Wz,seval];exact⟨(),JeV hx hno hpx,St.wk.cp (St.wk_slots (by simp[lk]))⟩
 ·have eiv:Jdi l p = -1:=by unfold Jdi;rw[Jg9 hno];rfl
  simp (disch:=omega) only[Wz,seval,eiv]
theorem JpU(l:List Gd)(p:Gd->Bool)(fl:Bool)(hs:l.length<=2000000000)(fn:Nat)(first cap:List AV)(h:Hp)(hc:Ji Pg fn)(hp:∀ t∈l,JaE Pg fn (first++[.agg (JaT t)]++cap) h (.lit (.bool (p t)))) :
  JaE Pg 126 [.vec (l.map JaT) fl,.fn (.func fn) first cap] h (.lit (.int .i64 (Jdi l p))):=by
 refine JC Tryz.func126 rfl Tryz.ntmps126 (rs:=[.tmp 4]) rfl (by simp) ?_;simp (disch:=omega) only[Wz,seval];refine JbM l.length h.nx (fun i (_:Unit)=>⟨[(0,.vec (l.map JaT) fl),(1,.fn (.func fn) first cap),(7,.lit (.int .i64 l.length)),(8,.lit (.int .i64 i))],h,19⟩) (fun i _=>∀ y∈l.take i,p y=false) (fun _ _=>rfl) () (St.wk_slots (by simp[lk])) (by simp) (fun i _ hlt hno=>?_) (fun _ hno=>?_)
 ·have hx:=List.getElem?_eq_getElem hlt;generalize l[i]=x at hx;have gx:(l.map JaT).getD i []=JaT x:=JdO JaT hx;simp (disch:=omega) only[Wz,seval,gx,Jec];refine JM hc (hp x (List.mem_of_getElem? hx)) ?_;rintro r h' ⟨rfl,rfl⟩;cases hpx:p x with
  | true =>
   obtain⟨e1,e2⟩:=Jg8 hx hno hpx;have eiv:Jdi l p=(i:Int):=by unfold Jdi;rw[e1,e2];rfl
   simp (disch:=omega) only[Wz,seval,eiv]
  | false =>
   simp (disch:=omega) only[Wz,seval];exact⟨(),JeV hx hno hpx,St.wk.cp (St.wk_slots (by simp[lk]))⟩
 ·have eiv:Jdi l p = -1:=by unfold Jdi;rw[Jg9 hno];rfl
  simp (disch:=omega) only[Wz,seval,eiv]
theorem JpV(l:List (Int × Int))(p:(Int × Int)->Bool)(fl:Bool)(hs:l.length<=2000000000)(fn:Nat)(first cap:List AV)(h:Hp)(hc:Ji Pg fn)(hp:∀ t∈l,JaE Pg fn (first++[.agg (Ja2 t)]++cap) h (.lit (.bool (p t)))) :
  JaE Pg 109 [.vec (l.map Ja2) fl,.fn (.func fn) first cap] h (.lit (.int .i64 (Jdi l p))):=by
 refine JC Tryz.func109 rfl Tryz.ntmps109 (rs:=[.tmp 4]) rfl (by simp) ?_;simp (disch:=omega) only[Wz,seval];refine JbM l.length h.nx (fun i (_:Unit)=>⟨[(0,.vec (l.map Ja2) fl),(1,.fn (.func fn) first cap),(7,.lit (.int .i64 l.length)),(8,.lit (.int .i64 i))],h,19⟩) (fun i _=>∀ y∈l.take i,p y=false) (fun _ _=>rfl) () (St.wk_slots (by simp[lk])) (by simp) (fun i _ hlt hno=>?_) (fun _ hno=>?_)
 ·have hx:=List.getElem?_eq_getElem hlt;generalize l[i]=x at hx;have gx:(l.map Ja2).getD i []=Ja2 x:=JdO Ja2 hx;simp (disch:=omega) only[Wz,seval,gx,Jee];refine JM hc (hp x (List.mem_of_getElem? hx)) ?_;rintro r h' ⟨rfl,rfl⟩;cases hpx:p x with
  | true =>
   obtain⟨e1,e2⟩:=Jg8 hx hno hpx;have eiv:Jdi l p=(i:Int):=by unfold Jdi;rw[e1,e2];rfl
   simp (disch:=omega) only[Wz,seval,eiv]
  | false =>
   simp (disch:=omega) only[Wz,seval];exact⟨(),JeV hx hno hpx,St.wk.cp (St.wk_slots (by simp[lk]))⟩
 ·have eiv:Jdi l p = -1:=by unfold Jdi;rw[Jg9 hno];rfl
  simp (disch:=omega) only[Wz,seval,eiv]
theorem Job(l:List Orc)(p:Orc->Bool)(fl:Bool)(hs:l.length<=2000000000)(fn:Nat)(first cap:List AV)(h:Hp)(hc:Ji Pg fn)(hp:∀ t∈l,JaE Pg fn (first++[.agg (Jfy t)]++cap) h (.lit (.bool (p t)))) :
  JaE Pg 113 [.vec (l.map Jfy) fl,.fn (.func fn) first cap] h (.lit (.int .i64 (Jdi l p))):=by
 refine JC Tryz.func113 rfl Tryz.ntmps113 (rs:=[.tmp 4]) rfl (by simp) ?_;simp (disch:=omega) only[Wz,seval];refine JbM l.length h.nx (fun i (_:Unit)=>⟨[(0,.vec (l.map Jfy) fl),(1,.fn (.func fn) first cap),(7,.lit (.int .i64 l.length)),(8,.lit (.int .i64 i))],h,19⟩) (fun i _=>∀ y∈l.take i,p y=false) (fun _ _=>rfl) () (St.wk_slots (by simp[lk])) (by simp) (fun i _ hlt hno=>?_) (fun _ hno=>?_)
 ·have hx:=List.getElem?_eq_getElem hlt;generalize l[i]=x at hx;have gx:(l.map Jfy).getD i []=Jfy x:=JdO Jfy hx;simp (disch:=omega) only[Wz,seval,gx,Jed];refine JM hc (hp x (List.mem_of_getElem? hx)) ?_;rintro r h' ⟨rfl,rfl⟩;cases hpx:p x with
  | true =>
   obtain⟨e1,e2⟩:=Jg8 hx hno hpx;have eiv:Jdi l p=(i:Int):=by unfold Jdi;rw[e1,e2];rfl
   simp (disch:=omega) only[Wz,seval,eiv]
  | false =>
   simp (disch:=omega) only[Wz,seval];exact⟨(),JeV hx hno hpx,St.wk.cp (St.wk_slots (by simp[lk]))⟩
 ·have eiv:Jdi l p = -1:=by unfold Jdi;rw[Jg9 hno];rfl
  simp (disch:=omega) only[Wz,seval,eiv]
theorem Jjd(l:List (Int × Int))(p:(Int × Int)->Bool)(fl:Bool)(hs:l.length<=2000000000)(fn:Nat)(first cap:List AV)(h:Hp)(hc:Ji Pg fn)(hp:∀ t∈l,JaE Pg fn (first++[.agg (JG t)]++cap) h (.lit (.bool (p t)))) :
  JaE Pg 102 [.vec (l.map JG) fl,.fn (.func fn) first cap] h (.lit (.bool (l.any p))):=by
 refine JC Tryz.func102 rfl Tryz.ntmps102 (rs:=[.tmp 4]) rfl (by simp) ?_;simp (disch:=omega) only[Wz,seval];refine JM Jr6 (Joa l p fl hs fn first cap h hc hp) ?_;rintro r h' ⟨rfl,rfl⟩;simp (disch:=omega) only[Wa,tyW,seval,Jgf]
theorem Jb4(l:List Gd)(p:Gd->Bool)(fl:Bool)(hs:l.length<=2000000000)(fn:Nat)(first cap:List AV)(h:Hp)(hc:Ji Pg fn)(hp:∀ t∈l,JaE Pg fn (first++[.agg (JaT t)]++cap) h (.lit (.bool (p t)))) :
  JaE Pg 115 [.vec (l.map JaT) fl,.fn (.func fn) first cap] h (.lit (.bool (l.any p))):=by
 refine JC Tryz.func115 rfl Tryz.ntmps115 (rs:=[.tmp 4]) rfl (by simp) ?_;simp (disch:=omega) only[Wz,seval];refine JM Jr8 (JpU l p fl hs fn first cap h hc hp) ?_;rintro r h' ⟨rfl,rfl⟩;simp (disch:=omega) only[Wa,tyW,seval,Jgf]
theorem Jkl(l:List (Int × Int))(p:(Int × Int)->Bool)(fl:Bool)(hs:l.length<=2000000000)(fn:Nat)(first cap:List AV)(h:Hp)(hc:Ji Pg fn)(hp:∀ t∈l,JaE Pg fn (first++[.agg (Ja2 t)]++cap) h (.lit (.bool (p t)))) :
  JaE Pg 87 [.vec (l.map Ja2) fl,.fn (.func fn) first cap] h (.lit (.bool (l.any p))):=by
 refine JC Tryz.func87 rfl Tryz.ntmps87 (rs:=[.tmp 4]) rfl (by simp) ?_;simp (disch:=omega) only[Wz,seval];refine JM Jr2 (JpV l p fl hs fn first cap h hc hp) ?_;rintro r h' ⟨rfl,rfl⟩;simp (disch:=omega) only[Wa,tyW,seval,Jgf]
def Jp(b:Bool):List AV:=[.lit (.bool b)]
theorem J9(p:Bool):∀ c∈Jp p,Ab.Pure c:=JaC (by simp[Jp])
theorem Jso(l:List Bool)(v:Bool)(fl:Bool)(hs:l.length<=2000000000):JN Pg 105 ([.vec (l.map Jp) fl]++Jp v) (.lit (.int .i64 (Jdi l fun x:Bool=>v==x))):=by
 refine Jo Tryz.func105 rfl Tryz.ntmps105 (rs:=[.tmp 4]) rfl (by simp[Jp]) ?_;simp (disch:=omega) only[Wz,seval,Jp];refine JbM l.length 0 (fun i (_:Unit)=>⟨[(0,.vec (l.map Jp) fl),(7,.lit (.int .i64 l.length)),(8,.lit (.int .i64 i))]++(Jp v).map (fun c=>(1,c)),.none,19⟩) (fun i _=>∀ x∈l.take i,(v==x)=false) (fun _ _=>rfl) () (St.wk_slots (by simp[lk,Jp])) (by simp) (fun i _ hlt hno=>?_) (fun _ hno=>?_)
 ·have hx:=List.getElem?_eq_getElem hlt;generalize l[i]=x at hx;have gx:(l.map Jp).getD i []=Jp x:=JdO Jp hx;simp (disch:=omega) only[Wz,seval,gx,Jp];cases hpx:(v==x) with
  | true =>
   obtain⟨e1,e2⟩:=Jg8 (p:=fun x:Bool=>v==x) hx hno hpx;have eiv:Jdi l (fun x:Bool=>v==x)=(i:Int):=by unfold Jdi;rw[e1,e2];rfl
   simp (disch:=omega) only[Wz,seval,eiv];exact Jb (.lit _)
  | false =>
   simp (disch:=omega) only[Wz,seval];exact⟨(),JeV (p:=fun x:Bool=>v==x) hx hno hpx,St.wk.cp (St.wk_slots (by simp[lk,Jp]))⟩
 ·have eiv:Jdi l (fun x:Bool=>v==x) = -1:=by unfold Jdi;rw[Jg9 (p:=fun x:Bool=>v==x) hno];rfl
  simp (disch:=omega) only[Wz,seval,eiv,Jp];exact Jb (.lit _)
theorem Jmg(l:List Bool)(v:Bool)(fl:Bool)(hs:l.length<=2000000000):JN Pg 83 ([.vec (l.map Jp) fl]++Jp v) (.lit (.bool (l.any fun x:Bool=>v==x))):=by
 refine Jo Tryz.func83 rfl Tryz.ntmps83 (rs:=[.tmp 4]) rfl (by simp[Jp]) ?_;simp (disch:=omega) only[Wz,seval,Jp];refine Jg Jr1 (Jso l v fl hs) (Jc (.vec (Jk J9 _)) (Jc (.lit _) Jm)) (.lit _) ?_;simp (disch:=omega) only[Wa,tyW,seval,Jgf];exact Jb (.lit _)
theorem JpW(l:List ByteArray)(v:ByteArray)(fl:Bool)(hs:l.length<=2000000000):JN Pg 139 ([.vec (l.map JaA) fl]++JaA v) (.lit (.int .i64 (Jdi l fun x:ByteArray=>v.toList==x.toList))):=by
 refine Jo Tryz.func139 rfl Tryz.ntmps139 (rs:=[.tmp 4]) rfl (by simp[JaA]) ?_;simp (disch:=omega) only[Wz,seval,JaA];refine JbM l.length 0 (fun i (_:Unit)=>⟨[(0,.vec (l.map JaA) fl),(7,.lit (.int .i64 l.length)),(8,.lit (.int .i64 i))]++(JaA v).map (fun c=>(1,c)),.none,19⟩) (fun i _=>∀ x∈l.take i,(v.toList==x.toList)=false) (fun _ _=>rfl) () (St.wk_slots (by simp[lk,JaA])) (by simp) (fun i _ hlt hno=>?_) (fun _ hno=>?_)
 ·have hx:=List.getElem?_eq_getElem hlt;generalize l[i]=x at hx;have gx:(l.map JaA).getD i []=JaA x:=JdO JaA hx;simp (disch:=omega) only[Wz,seval,gx,JaA];cases hpx:(v.toList==x.toList) with
  | true =>
   obtain⟨e1,e2⟩:=Jg8 (p:=fun x:ByteArray=>v.toList==x.toList) hx hno hpx;have eiv:Jdi l (fun x:ByteArray=>v.toList==x.toList)=(i:Int):=by unfold Jdi;rw[e1,e2];rfl
   simp (disch:=omega) only[Wz,seval,eiv];exact Jb (.lit _)
  | false =>
   simp (disch:=omega) only[Wz,seval];exact⟨(),JeV (p:=fun x:ByteArray=>v.toList==x.toList) hx hno hpx,St.wk.cp (St.wk_slots (by simp[lk,JaA]))⟩
 ·have eiv:Jdi l (fun x:ByteArray=>v.toList==x.toList) = -1:=by unfold Jdi;rw[Jg9 (p:=fun x:ByteArray=>v.toList==x.toList) hno];rfl
  simp (disch:=omega) only[Wz,seval,eiv,JaA];exact Jb (.lit _)
theorem Jkm(l:List ByteArray)(v:ByteArray)(fl:Bool)(hs:l.length<=2000000000):JN Pg 136 ([.vec (l.map JaA) fl]++JaA v) (.lit (.bool (l.any fun x:ByteArray=>v.toList==x.toList))):=by
 refine Jo Tryz.func136 rfl Tryz.ntmps136 (rs:=[.tmp 4]) rfl (by simp[JaA]) ?_;simp (disch:=omega) only[Wz,seval,JaA];refine Jg Jsj (JpW l v fl hs) (Jc (.vec (Jk Jal _)) (Jc (.lit _) Jm)) (.lit _) ?_;simp (disch:=omega) only[Wa,tyW,seval,Jgf];exact Jb (.lit _)
def Jb5(c:Int):Bool:=(decide (c >= 97) && decide (c<=122)) || (decide (c >= 65) && decide (c<=90))
def Jgg(c:Int):Bool:=decide (c >= 48) && decide (c<=57)
def JbH(c:Int):Bool:=Jb5 c || (Jgg c || c==95)
theorem Jgh(c:Int):JN Pg 133 [.lit (.int .u8 c)] (.lit (.bool (Jb5 c))):=by
  refine Jo Tryz.func133 rfl Tryz.ntmps133 (rs:=[.tmp 2]) rfl (by simp) ?_;unfold Jb5;by_cases h1:c >= 97 <;> by_cases h2:c<=122 <;> by_cases h3:c >= 65 <;> by_cases h4:c<=90 <;> first
    | omega
    | (simp (disch:=omega) only[Wz,seval,Bool.and_true,Bool.true_and,Bool.or_true,Bool.true_or,Bool.false_or,Bool.or_false,Bool.and_false,Bool.false_and]
       exact Jb (.lit _))
theorem Jmh(c:Int):JN Pg 138 [.lit (.int .u8 c)] (.lit (.bool (Jgg c))):=by
  refine Jo Tryz.func138 rfl Tryz.ntmps138 (rs:=[.tmp 2]) rfl (by simp) ?_;unfold Jgg;by_cases h1:c >= 48 <;> by_cases h2:c<=57 <;> first
    | omega
    | (simp (disch:=omega) only[Wz,seval,Bool.and_true,Bool.true_and,Bool.or_true,Bool.true_or,Bool.false_or,Bool.or_false,Bool.and_false,Bool.false_and]
       exact Jb (.lit _))
theorem Jkn(c:Int):JN Pg 135 [.lit (.int .u8 c)] (.lit (.bool (JbH c))):=by
 refine Jo Tryz.func135 rfl Tryz.ntmps135 (rs:=[.tmp 2]) rfl (by simp) ?_;unfold JbH;simp (disch:=omega) only[Wz,seval];refine Jg Jn7 (Jgh c) (Jc (.lit _) Jm) (.lit _) ?_;cases Jb5 c with
 | true =>
  simp (disch:=omega) only[Wz,seval,Bool.true_or];exact Jb (.lit _)
 | false =>
  simp (disch:=omega) only[Wz,seval];refine Jg Jsi (Jmh c) (Jc (.lit _) Jm) (.lit _) ?_;cases Jgg c with
  | true =>
   simp (disch:=omega) only[Wz,seval,Bool.true_or,Bool.or_true,Bool.false_or];exact Jb (.lit _)
  | false =>
   simp (disch:=omega) only[Wz,seval,Bool.false_or];exact Jb (.lit _)
def JcI(s:ByteArray)(i:Nat):Int:=((s.data.getD i 0).toNat:Int)
def Jcj(s:ByteArray)(p:Int->Bool):Nat:=(s.data.toList.takeWhile fun b=>p (b.toNat:Int)).length
theorem Jfg{l:List UInt8}{p:Int->Bool}{i:Nat}(h:i<=(l.takeWhile fun b=>p (b.toNat:Int)).length):(if hi:i<l.length then p ((l[i]).toNat:Int) else false)=decide (i<(l.takeWhile fun b=>p (b.toNat:Int)).length):=by
 induction l generalizing i with
 | nil=>simp
 | cons b l ih =>
  by_cases hb:p (b.toNat:Int)=true
  ·rw[List.takeWhile_cons_of_pos (by simpa using hb)] at h ⊢;cases i with
   | zero=>simp[hb]
   | succ i =>
    have:=ih (i:=i) (by simpa using h);simp only[List.length_cons,Nat.add_lt_add_iff_right,List.getElem_cons_succ];exact this
  ·rw[List.takeWhile_cons_of_neg (by simpa using hb)] at h ⊢;have:i=0:=by simpa using h
   subst this;simp at hb;simp[hb]
theorem Jmi(s:ByteArray)(p:Int->Bool)(hs:s.size<=9000000000000000000)(fn:Nat)(hc:Ji Pg fn)(hp:∀ c,JN Pg fn [.lit (.int .u8 c)] (.lit (.bool (p c)))) :
  JN Pg 134 [.lit (.string s),.fn (.func fn) [] []] (.lit (.int .i64 (Jcj s p))):=by
 refine Jo Tryz.func134 rfl Tryz.ntmps134 (rs:=[.tmp 4]) rfl (by simp) ?_;simp (disch:=omega) only[Wz,seval];have hle:Jcj s p<=s.size:=by unfold Jcj;exact Nat.le_trans (List.takeWhile_sublist _).length_le (by rw[Array.length_toList];exact Nat.le_refl _)
 refine JbM (Jcj s p) 0 (fun i (_:Unit)=>⟨[(5,.lit (.int .i64 i)),(0,.lit (.string s)),(1,.fn (.func fn) [] [])],.none,20⟩) (fun _ _=>True) (fun _ _=>rfl) () (St.wk_slots (by simp[lk])) trivial (fun i _ hlt _=>?_) (fun _ _=>?_)
 ·have hi:i<s.size:=by omega
  have gb:s[i]? = some s[i]:=getElem?_pos s i hi;have pb:p ((s[i]).toNat:Int)=true:=by
   have:=Jfg (l:=s.data.toList) (p:=p) (i:=i) (Nat.le_of_lt hlt);rw[dif_pos (by rw[Array.length_toList];exact hi)] at this;have e:s.data.toList[i]'(by rw[Array.length_toList];exact hi)=s[i]:=by rw[Array.getElem_toList];rfl
   rw[e] at this;rw[this];exact decide_eq_true hlt
  simp (disch:=omega) only[Wz,seval,gb];refine Jg hc (hp _) (Jc (.lit _) Jm) (.lit _) ?_;simp (disch:=omega) only[Wz,seval,pb];exact⟨(),St.wk.cp (St.wk_slots (by simp[lk]))⟩
 ·by_cases hi:Jcj s p<s.size
  ·have gb:s[Jcj s p]? = some s[Jcj s p]:=getElem?_pos s _ hi;have pb:p ((s[Jcj s p]).toNat:Int)=false:=by
    have:=Jfg (l:=s.data.toList) (p:=p) (i:=Jcj s p) (Nat.le_refl _);rw[dif_pos (by rw[Array.length_toList];exact hi)] at this;have e:s.data.toList[Jcj s p]'(by rw[Array.length_toList];exact hi)=s[Jcj s p]:=by rw[Array.getElem_toList];rfl
    rw[e] at this;rw[this];exact decide_eq_false (Nat.lt_irrefl _)
   simp (disch:=omega) only[Wz,seval,gb];refine Jg hc (hp _) (Jc (.lit _) Jm) (.lit _) ?_;simp (disch:=omega) only[Wz,seval,pb];exact Jb (.lit _)
  ·simp (disch:=omega) only[Wz,seval];exact Jb (.lit _)
def Jha:List AV:=[.lit (.string ⟨#[]⟩),.lit (.string ⟨#[]⟩),.lit (.string ⟨#[]⟩),.lit (.string ⟨#[]⟩),.lit (.string ⟨#[]⟩),.lit (.string ⟨#[]⟩),.lit (.string ⟨#[]⟩),.lit (.string ⟨#[]⟩),.lit (.string ⟨#[]⟩),.lit (.string ⟨#[]⟩),
 .lit (.string ⟨#[105,110,100,101,120]⟩),.lit (.string ⟨#[99,111,108,117,109,110]⟩),.lit (.string ⟨#[108,97]⟩),.lit (.string ⟨#[109,111,100,101]⟩),.lit (.string ⟨#[]⟩)]
def Jmj:List ByteArray:=[⟨#[105,110,100,101,120]⟩,⟨#[99,111,108,117,109,110]⟩,⟨#[108,97]⟩,⟨#[109,111,100,101]⟩]
theorem Jgi:∀ c∈Jha,Ab.Pure c:=JaC (by simp[Jha])
theorem Jmk:JN Pg 140 [] (.agg Jha):=by
 refine Jo Tryz.func140 rfl Tryz.ntmps140 (rs:=[.cell 0 224]) rfl (by simp) ?_;simp (disch:=omega) only[Wz,seval];exact Jb (.agg Jgi)
theorem Joc:JN Pg 137 [] (.vec (Jmj.map JaA) false):=by
 refine Jo Tryz.func137 rfl Tryz.ntmps137 (rs:=[.tmp 0]) rfl (by simp) ?_;simp (disch:=omega) only[Wz,seval];refine Jg Jsk Jmk Jm (.agg Jgi) ?_;simp (disch:=omega) only[Wz,seval,Jha];refine JrM (σ':=⟨[(1,.np Jha),(0,.vec [] true)],⟨[],[],1⟩,4⟩) (St.wk_box (id:=0) (cs:=Jha) rfl rfl rfl (fun g g' x c p hp=>?_) (fun g g' x c p hp=>by cases hp) (fun g p hp=>by cases hp)) (JiR (v:=.vec (Jmj.map JaA) false) ?_ ?_)
 ·simp only[List.mem_cons,List.not_mem_nil,or_false] at hp;rcases hp with rfl | rfl
  ·exact⟨_,rfl,c⟩
  ·exact⟨_,rfl,JK x _⟩
 ·rfl
 ·simp (disch:=omega) only[Wz,seval];exact Jb (.vec (Jk Jal _))
def Jlp (op:Int):AV:=if op=5 then .fn (.func 127) [] [] else if op=6 then .fn (.func 128) [] [] else if op=7 then .fn (.func 129) [] [] else .lit .nilFunc
theorem Jgj(op:Int):Ab.Pure (Jlp op):=by
 unfold Jlp;split
 ·exact .fn Jm Jm
 ·split
  ·exact .fn Jm Jm
  ·split
   ·exact .fn Jm Jm
   ·exact .lit _
theorem JeA(op:Int)(lo : -128<=op)(hi:op<=127):JN Pg 118 [.lit (.int .i8 op)] (Jlp op):=by
 refine Jo Tryz.func118 rfl Tryz.ntmps118 (rs:=[.tmp 2]) rfl (by simp) ?_;simp (disch:=omega) only[Wz,seval];by_cases h0:op<0
 ·have e:Jlp op = .lit .nilFunc:=by unfold Jlp;rw[if_neg (by omega),if_neg (by omega),if_neg (by omega)]
  simp (disch:=omega) only[Wz,seval,e];exact Jb (.lit _)
 ·by_cases h8:op >= 8
  ·have e:Jlp op = .lit .nilFunc:=by unfold Jlp;rw[if_neg (by omega),if_neg (by omega),if_neg (by omega)]
   simp (disch:=omega) only[Wz,seval,e];exact Jb (.lit _)
  ·rcases(by omega:op=0\/op=1\/op=2\/op=3\/op=4\/op=5\/op=6\/op=7) with rfl | rfl | rfl | rfl | rfl | rfl | rfl | rfl;all_goals
    simp (disch:=omega) only[Wz,seval];have key:∀ h op,Jdg h (Jlp op) (Jlp op):=fun h op=>Jb (Jgj op);first | exact key _ 0 | exact key _ 5 | exact key _ 6 | exact key _ 7
def sEq (a b:ByteArray):Bool:=a.toList==b.toList
def JpX(s:ByteArray):Bool:=sEq s ⟨#[116,114,117,101]⟩ || (sEq s ⟨#[102,97,108,115,101]⟩ || sEq s ⟨#[111,114,97,99,108,101]⟩)
def Jhb(s:ByteArray):Bool:=if s.size=0 then false else if s.size > 40 then false else if Jb5 (JcI s 0)=false then false else if Jcj s JbH<s.size then false else if JpX s then false else !(Jmj.any fun x=>s.toList==x.toList)
theorem Jbz{s:ByteArray}:(s.toList==(⟨#[]⟩:ByteArray).toList)=decide (s.size=0):=by
 rw[<- beq_toListBytes,Bool.eq_iff_iff,decide_eq_true_iff];constructor
 ·intro h;rw[Jx h];rfl
 ·intro h;have:s=⟨#[]⟩:=by
   obtain⟨d⟩:=s;have h:d.size=0:=h;rw[Array.size_eq_zero_iff] at h;rw[h]
  rw[this];exact JgV _
theorem Jml(s:ByteArray)(hs:s.size<=9000000000000000000):JN Pg 132 [.lit (.string s)] (.lit (.bool (Jhb s))):=by
 refine Jo Tryz.func132 rfl Tryz.ntmps132 (rs:=[.tmp 2]) rfl (by simp) ?_;simp (disch:=omega) only[Wz,seval,Jbz];unfold Jhb;by_cases h0:s.size=0
 ·simp (disch:=omega) only[Wz,seval];exact Jb (.lit _)
 have gb:s[0]? = some s[0]:=getElem?_pos s 0 (by omega);have eb:((s[0]).toNat:Int)=JcI s 0:=by unfold JcI;rw[Array.getD_eq_getD_getElem?,Array.getElem?_eq_getElem (show 0<s.data.size from Nat.pos_of_ne_zero h0)];rfl
 have gb':(s[Int.toNat 0]?)=some s[0]:=gb;by_cases h1:s.size > 40
 ·simp (disch:=omega) only[Wz,seval];exact Jb (.lit _)
 simp (disch:=omega) only[Wz,seval,gb',gb];refine Jg Jn7 (Jgh _) (Jc (.lit _) Jm) (.lit _) ?_;rw[eb];cases hlt:Jb5 (JcI s 0) with
 | false =>
  simp (disch:=omega) only[Wz,seval];exact Jb (.lit _)
 | true =>
  simp (disch:=omega) only[Wz,seval];refine Jg Jse (Jmi s JbH hs 135 Jsf Jkn) (Jc (.lit _) (Jc (.fn Jm Jm) Jm)) (.lit _) ?_;by_cases hw:Jcj s JbH<s.size
  ·simp (disch:=omega) only[Wz,seval];exact Jb (.lit _)
  simp (disch:=omega) only[Wz,seval];unfold JpX sEq;generalize hb1:(s.toList==(⟨#[116,114,117,101]⟩:ByteArray).toList)=b1;generalize hb2:(s.toList==(⟨#[102,97,108,115,101]⟩:ByteArray).toList)=b2;generalize hb3:(s.toList==(⟨#[111,114,97,99,108,101]⟩:ByteArray).toList)=b3;have fin:∀ b:Bool,Jdg ⟨[],[],0⟩ (.lit (.bool b)) (.lit (.bool b)):=fun b=>Jb (.lit _);cases b1 <;> cases b2 <;> cases b3
  case false.false.false =>
   simp (disch:=omega) only[Wz,seval,hb1,hb2,hb3,Bool.false_or,Bool.false_eq_true];refine Jg Jsh Joc Jm (.vec (Jk Jal _)) ?_;simp (disch:=omega) only[Wz,seval];refine Jg Jsg (Jkm Jmj s false (by decide)) (Jc (.vec (Jk Jal _)) (Jc (.lit _) Jm)) (.lit _) ?_;simp (disch:=omega) only[Wz,seval];exact fin _
  all_goals
   simp (disch:=omega) only[Wz,seval,hb1,hb2,hb3,Bool.false_or,Bool.true_or,Bool.false_eq_true];exact fin _
mutual
def Jce:Gd->Int
 | .mk _ _ _ kids=>sizeGs 1 kids
def sizeGs:Int->List Gd->Int
 | n,[]=>n
 | n,k :: l=>sizeGs (min (n+Jce k) 2147483647) l
end
def Jje (g:Gd):Bool:=if g.kids.length > 0 then false else if g.op.1<9 then false else if g.op.1 > 14 then false else
 if g.op.1=9 then sEq g.name ⟨#[]⟩ && (decide (g.n<1000000000000000000) && decide (g.n > -1000000000000000000)) else if g.op.1=14 then decide (g.n=0) && Jhb g.name else sEq g.name ⟨#[]⟩ && decide (g.n=0)
theorem Jko(g:Gd)(hs:g.name.size<=9000000000000000000)(hg:g.kids.length<=2000000000):JN Pg 125 [.agg (JaT g)] (.lit (.bool (Jje g))):=by
 refine Jo Tryz.func125 rfl Tryz.ntmps125 (rs:=[.tmp 2]) rfl (by simp) ?_;simp (disch:=omega) only[Wz,seval,JF];unfold Jje;by_cases h1:g.kids.length > 0
 ·simp (disch:=omega) only[Wz,seval];exact Jb (.lit _)
 by_cases h2:g.op.1<9
 ·simp (disch:=omega) only[Wz,seval];exact Jb (.lit _)
 by_cases h3:g.op.1 > 14
 ·simp (disch:=omega) only[Wz,seval];exact Jb (.lit _)
 have fin:∀ h (b:Bool),Jdg h (.lit (.bool b)) (.lit (.bool b)):=fun h b=>Jb (.lit _);by_cases h4:g.op.1=9
 ·simp (disch:=omega) only[Wz,seval];unfold sEq;generalize (g.name.toList==(⟨#[]⟩:ByteArray).toList)=b1;by_cases h5:g.n<1000000000000000000 <;> by_cases h6:g.n > -1000000000000000000 <;> cases b1
  all_goals
   simp (disch:=omega) only[Wz,seval,Bx];exact fin _ _
 by_cases h5:g.op.1=14
 ·by_cases h6:g.n=0
  ·simp (disch:=omega) only[Wz,seval,Bool.true_and];refine Jg Jsd (Jml g.name hs) (Jc (.lit _) Jm) (.lit _) ?_;simp (disch:=omega) only[Wz,seval];exact fin _ _
  ·simp (disch:=omega) only[Wz,seval,Bool.false_and];exact fin _ _
 simp (disch:=omega) only[Wz,seval];unfold sEq;generalize (g.name.toList==(⟨#[]⟩:ByteArray).toList)=b1;by_cases h6:g.n=0 <;> cases b1
 all_goals
  simp (disch:=omega) only[Wz,seval,Bx];exact fin _ _
theorem Jod(g:Gd)(hs:g.name.size<=9000000000000000000)(hg:g.kids.length<=2000000000):JaY Pg 125 [.agg (JaT g)] (.lit (.bool (Jje g))):=.of_pure (Jko g hs hg) (Jc (.agg (JS g)) Jm) (.lit _)
theorem Jgk:∀ (g:Gd),1<=Jce g/\Jce g<=2147483647:=fun g=>by
 have main:∀ (l:List Gd) (n:Int),(∀ k∈l,1<=Jce k)->1<=n->n<=2147483647->1<=sizeGs n l/\sizeGs n l<=2147483647:=by
  intro l;induction l with
  | nil=>intro n _ h1 h2;exact⟨h1,h2⟩
  | cons k l ih =>
   intro n hk h1 h2;simp only[sizeGs];have:=hk k (by simp);exact ih _ (fun x hx=>hk x (by simp[hx])) (by omega) (by omega)
 have pos:∀ (m:Nat) (g:Gd),gsz g<=m->1<=Jce g:=by
  intro m;induction m with
  | zero=>intro g h;have:=Jc2 g;omega
  | succ m ih =>
   intro g h;obtain⟨op,n,nm,kids⟩:=g;simp only[Jce];exact(main kids 1 (fun k hk=>ih k (by have:=Jbj (g:=.mk op n nm kids) (k:=k) hk;omega)) (by decide) (by decide)).1
 obtain⟨op,n,nm,kids⟩:=g;simp only[Jce];exact main kids 1 (fun k hk=>pos _ k (Nat.le_refl _)) (by decide) (by decide)
theorem Jgl(l:List Gd)(n:Int)(k:Gd):sizeGs n (l++[k])=min (sizeGs n l+Jce k) 2147483647:=by
 induction l generalizing n with
 | nil=>rfl
 | cons x l ih=>simp only[List.cons_append,sizeGs];exact ih _
theorem Jlq(g:Gd):Jce g=sizeGs 1 g.kids:=by cases g;rfl
theorem Jhc(l:List Gd):1<=sizeGs 1 l/\sizeGs 1 l<=2147483647:=Jgk (.mk default 0 ⟨#[]⟩ l)
def szS (g:Gd)(i:Nat)(_:Unit):St:=⟨[(9,.lit (.int .i64 (i:Int))),(8,.lit (.int .i64 (g.kids.length:Int))),(7,.vec (g.kids.map JaT) false),(3,.lit (.int .i64 (sizeGs 1 (g.kids.take i))))],⟨[],[],1⟩,20⟩
theorem Jjf:∀ (m:Nat) (g:Gd),gsz g<=m->m<=2000000000->JN Pg 110 [.agg (JaT g)] (.lit (.int .i64 (Jce g)))
 | 0,g,h,_=>by have:=Jc2 g;omega
 | m+1,g,h,hm=>by
  have hl:=Jbq g;refine Jo Tryz.func110 rfl Tryz.ntmps110 (rs:=[.tmp 2]) rfl (by simp) ?_;simp (disch:=omega) only[Wz,seval,JF];refine JbM g.kids.length 1 (szS g) (fun _ _=>True) (fun _ _=>rfl) () (St.wk_slots1 (by simp[lk,sizeGs]) (by simp[lk]) (by simp[lk])) trivial (fun i _ hlt _=>?_) (fun _ _=>?_)
  ·have hk:=Jv (l:=g.kids) hlt;have ih:=Jjf m (g.kids.getD i default) (by have:=Jbj hk;omega) (by omega);have r1:=Jgk (g.kids.getD i default);have r2:=Jhc (g.kids.take i);have nx:sizeGs 1 (g.kids.take (i+1))=min (sizeGs 1 (g.kids.take i)+Jce (g.kids.getD i default)) 2147483647:=by
    rw[List.take_add_one,Jfz hlt,Option.toList_some,Jgl]
   have mn:(if (2147483647:Int)<sizeGs 1 (g.kids.take i)+Jce (g.kids.getD i default) then 2147483647 else sizeGs 1 (g.kids.take i)+Jce (g.kids.getD i default))=min (sizeGs 1 (g.kids.take i)+Jce (g.kids.getD i default)) 2147483647:=by omega
   simp (disch:=omega) only[Wz,seval,szS];refine Jg JnZ ih (Jc (.agg (JS _)) Jm) (.lit _) ?_;simp (disch:=omega) only[Wa,tyW,seval,tyW,Jdh,mn];refine⟨(),?_⟩;rw[<- nx];exact Ja3 (Nat.le_refl _) (by show 1<=2;decide) rfl (Jc ⟨by simp[lk],.pure (.lit _)⟩ (Jc ⟨by simp[lk],.pure (.lit _)⟩ (Jc ⟨by simp[lk],.pure (.vec (Jk JS _))⟩ (Jc ⟨by simp[lk],.pure (.lit _)⟩ Jm)))) Jm Jm
  ·simp (disch:=omega) only[Wz,seval,szS,List.take_length];rw[<- Jlq];exact Jb (.lit _)
mutual
def JaO:Gd->Bool
 | .mk op n name kids =>
  if sEq name ⟨#[]⟩=false then false else if op.1≠8/\n≠0 then false
  else if op.1=0\/op.1=1 then decide (kids.length=0)
  else if op.1=8 then decide (kids.length=0) && (decide (n<1000000000000000000) && decide (n > -1000000000000000000))
  else if op.1=2 then decide (kids.length=1) && condGs kids
  else if op.1=3\/op.1=4 then decide (kids.length >= 2) && condGs kids
  else decide (5<=op.1/\op.1<=7) && (decide (kids.length=2) && kids.all Jje)
def condGs:List Gd->Bool
 | []=>true
 | g :: l=>JaO g && condGs l
end
theorem Joe(l:List Gd):condGs l=l.all JaO:=by induction l with | nil=>rfl | cons x l ih=>simp[condGs,ih]
theorem JhX(g:Gd):JaO g=if sEq g.name ⟨#[]⟩=false then false else if g.op.1≠8/\g.n≠0 then false
  else if g.op.1=0\/g.op.1=1 then decide (g.kids.length=0)
  else if g.op.1=8 then decide (g.kids.length=0) && (decide (g.n<1000000000000000000) && decide (g.n > -1000000000000000000))
  else if g.op.1=2 then decide (g.kids.length=1) && g.kids.all JaO
  else if g.op.1=3\/g.op.1=4 then decide (g.kids.length >= 2) && g.kids.all JaO
  else decide (5<=g.op.1/\g.op.1<=7) && (decide (g.kids.length=2) && g.kids.all Jje):=by
 obtain⟨op,n,name,kids⟩:=g;rw[JaO,Joe];rfl
inductive Jof:Gd->Prop
 | mk {g:Gd}:g.name.size<=9000000000000000000->(∀ k∈g.kids,Jof k)->Jof g
theorem Jd4:∀ (m:Nat) (g:Gd),gsz g<=m->m<=2000000000->Jof g->JaY Pg 111 [.agg (JaT g)] (.lit (.bool (JaO g)))
  | 0,g,h,_,_=>by have:=Jc2 g;omega
  | m+1,g,h,hm,hok=>by
    have hl:=Jbq g;have ih:∀ k∈g.kids,JaY Pg 111 [.agg (JaT k)] (.lit (.bool (JaO k))):=fun k hk=>Jd4 m k (by have:=Jbj hk;omega) (by omega) (by cases hok with | mk _ h2=>exact h2 k hk);have gpk:∀ k,∀ v∈[AV.agg (JaT k)],GP v:=fun k=>Jc (.of_pure (.agg (JS k))) Jm;have w1:∀ k∈g.kids,JaY Pg 124 [.agg (JaT k)] (.lit (.bool !(JaO k))):=fun k hk=>by
      refine J5 (JC Tryz.func124 rfl Tryz.ntmps124 (rs:=[.tmp 2]) rfl (by simp) ?_);simp (disch:=omega) only[Wz,seval];refine JR Jn0 (ih k hk) (gpk k) (.lit _) ?_;simp (disch:=omega) only[Wz,seval];exact Jar (.lit _)
    refine J5 (JC Tryz.func111 rfl Tryz.ntmps111 (rs:=[.tmp 2]) rfl (by simp) ?_);simp (disch:=omega) only[Wz,seval,JF];rw[JhX];have fin:∀ h (b:Bool),JdV h (.lit (.bool b)) (.lit (.bool b)):=fun h b=>Jar (.lit _);have hsE:(g.name.toList==(⟨#[]⟩:ByteArray).toList)=sEq g.name ⟨#[]⟩:=rfl;cases hE:sEq g.name ⟨#[]⟩ with
    | false =>
      simp (disch:=omega) only[Wz,seval,hsE,hE];exact fin _ _
    | true =>
    by_cases h1:g.op.1≠8/\g.n≠0
    · simp (disch:=omega) only[Wz,seval,hsE,hE]
      exact fin _ _
    have bools:∀ b:Bool,(b && true)=b/\(true && b)=b/\(b && false)=false/\(false && b)=false:=fun b=>by cases b <;> decide
    by_cases h2:g.op.1=8
    · by_cases h3:g.kids.length=0 <;> by_cases h4:g.n<1000000000000000000 <;> by_cases h5:g.n > -1000000000000000000
      all_goals first
        | omega
        | (simp (disch:=omega) only[Wz,seval,hsE,hE,bools]
           exact fin _ _)
    by_cases h3:g.op.1=0
    · by_cases h4:g.kids.length=0
      all_goals
        simp (disch:=omega) only[Wz,seval,hsE,hE,bools];exact fin _ _
    by_cases h4:g.op.1=1
    · by_cases h4:g.kids.length=0
      all_goals
        simp (disch:=omega) only[Wz,seval,hsE,hE,bools];exact fin _ _
    by_cases h5:g.op.1=2
    · by_cases h6:g.kids.length=1
      · obtain⟨k,hk⟩:∃ k,g.kids=[k]:=by
          match hq:g.kids,h6 with
          | [k],_=>exact⟨k,rfl⟩
        have hkm:k∈g.kids:=by rw[hk];simp
        have gk:g.kids.getD 0 default=k:=by rw[hk];rfl
        have ea:g.kids.all JaO=JaO k:=by rw[hk];simp
        rw[ea];simp (disch:=omega) only[Wz,seval,hsE,hE,bools,gk];refine JR Jn4 (w1 k hkm) (gpk k) (.lit _) ?_;cases JaO k;all_goals
          simp (disch:=omega) only[Wz,seval,bools];exact fin _ _
      · simp (disch:=omega) only[Wz,seval,hsE,hE,bools]
        exact fin _ _
    have hany:(g.kids.any fun k => !(JaO k)) = !(g.kids.all JaO):=by rw[List.not_all_eq_any_not]
    by_cases h6:g.op.1=3\/g.op.1=4
    · by_cases h7:g.kids.length >= 2
      · have hct:=Jb4 g.kids (fun k => !(JaO k)) false (by omega) 124 [] [] ⟨[(0,[.lit (.int .i8 g.op.1),.lit (.int .i64 g.n),.lit (.string g.name),.vec (g.kids.map JaT) false])],[],1⟩ Jn4 (fun k hk=>(w1 k hk).at (gpk k) (.lit _) _)
        rw[hany] at hct;rcases h6 with h6 | h6
        all_goals
          simp (disch:=omega) only[Wz,seval,hsE,hE,bools];refine JM Jf6 hct ?_;rintro r h' ⟨rfl,rfl⟩;cases g.kids.all JaO;all_goals
            simp (disch:=omega) only[Wz,seval,bools];exact fin _ _
      · rcases h6 with h6 | h6
        all_goals
          simp (disch:=omega) only[Wz,seval,hsE,hE,bools];exact fin _ _
    simp (disch:=omega) only[Wz,seval,hsE,hE,bools];refine Jg Jn2 (JeA g.op.1 g.op.lo g.op.hi) (Jc (.lit _) Jm) (Jgj _) ?_;by_cases h7:5<=g.op.1/\g.op.1<=7
    · obtain⟨fid,hf⟩:∃ fid,Jlp g.op.1 = .fn (.func fid) [] []:=by
        unfold Jlp;rcases(by omega:g.op.1=5\/g.op.1=6\/g.op.1=7) with h | h | h <;> rw[h] <;> exact⟨_,rfl⟩
      rw[hf];have ok2:∀ k∈g.kids,k.name.size<=9000000000000000000:=fun k hk=>by cases hok with | mk _ h2=>cases h2 k hk with | mk h3 _=>exact h3
      by_cases h8:g.kids.length=2
      · obtain⟨k,j,hk⟩:∃ k j,g.kids=[k,j]:=by
          match hq:g.kids,h8 with
          | [k,j],_=>exact⟨k,j,rfl⟩
        have hkm:k∈g.kids:=by rw[hk];simp
        have hjm:j∈g.kids:=by rw[hk];simp
        have gk:g.kids.getD 0 default=k:=by rw[hk];rfl
        have gj:g.kids.getD 1 default=j:=by rw[hk];rfl
        have ea:g.kids.all Jje=(Jje k && Jje j):=by rw[hk];simp
        have nk:=Jod k (ok2 k hkm) (by have:=Jbj hkm;have:=Jbq k;omega);have nj:=Jod j (ok2 j hjm) (by have:=Jbj hjm;have:=Jbq j;omega);rw[ea];simp (disch:=omega) only[Wz,seval,bools,gk];refine JR Jn5 nk (gpk k) (.lit _) ?_;cases Jje k with
        | false =>
          simp (disch:=omega) only[Wz,seval,bools];exact fin _ _
        | true =>
          simp (disch:=omega) only[Wz,seval,bools,gj];refine JR Jn5 nj (gpk j) (.lit _) ?_;cases Jje j;all_goals
            simp (disch:=omega) only[Wz,seval,bools];exact fin _ _
      · simp (disch:=omega) only[Wz,seval,bools]
        exact fin _ _
    · have e:Jlp g.op.1 = .lit .nilFunc:=by unfold Jlp;rw[if_neg (by omega),if_neg (by omega),if_neg (by omega)]
      rw[e];simp (disch:=omega) only[Wz,seval,bools];exact fin _ _
def ckG (g:Gd):Bool:=decide (Jce g<=64) && JaO g
theorem gpG(k:Gd):GP (.agg (JaT k)):=.of_pure (.agg (JS k))
theorem Jgm(g:Gd)(h:gsz g<=2000000000)(hok:Jof g):JaY Pg 89 [.agg (JaT g)] (.lit (.int .i64 (if ckG g then 0 else 40))):=by
 refine J5 (JC Tryz.func89 rfl Tryz.ntmps89 (rs:=[.tmp 2]) rfl (by simp) ?_);simp (disch:=omega) only[Wz,seval];refine JR JnZ (.of_pure (Jjf _ g (Nat.le_refl _) h) (Jc (.agg (JS g)) Jm) (.lit _)) (Jc (gpG g) Jm) (.lit _) ?_;unfold ckG;by_cases h1:Jce g<=64
 ·simp (disch:=omega) only[Wz,seval,Bool.true_and];refine JR Jn0 (Jd4 _ g (Nat.le_refl _) h hok) (Jc (gpG g) Jm) (.lit _) ?_;cases JaO g;all_goals
   simp (disch:=omega) only[Wz,seval,Bool.false_eq_true];exact Jar (.lit _)
 ·simp (disch:=omega) only[Wz,seval,Bool.false_and,Bool.false_eq_true];exact Jar (.lit _)
structure Pl where
 index:Int
 column:Int
 la:Int
 mode:Int
def Jc3(p:Pl):List AV:=[.lit (.int .i64 p.index),.lit (.int .i64 p.column),.lit (.int .i64 p.la),.lit (.int .i64 p.mode)]
theorem JcK(p:Pl):∀ c∈Jc3 p,Ab.Pure c:=JaC (by simp[Jc3])
def JpY (g:Gd)(p:Pl):Int:=if g.op.1=9 then g.n else if g.op.1=10 then p.index else if g.op.1=11 then p.column else if g.op.1=12 then p.la else if g.op.1=13 then p.mode else 0
theorem Jgn(g:Gd)(p:Pl):JN Pg 117 [.agg (JaT g),.agg (Jc3 p)] (.tup [.lit (.int .i64 (JpY g p)),.lit (.bool (decide (9<=g.op.1/\g.op.1<=14)))]):=by
 refine Jo Tryz.func117 rfl Tryz.ntmps117 (rs:=[.tmp 4,.tmp 5]) rfl (by simp) ?_;unfold JpY;have fin:∀ h (n:Int) (b:Bool),Jdg h (.tup [.lit (.int .i64 n),.lit (.bool b)]) (.tup [.lit (.int .i64 n),.lit (.bool b)]):=fun h n b=>Jb (.tup (Jc (.lit _) (Jc (.lit _) Jm)));by_cases h1:g.op.1<9
 ·simp (disch:=omega) only[Wz,seval,JF,Jc3];exact fin _ _ _
 by_cases h2:g.op.1 > 14
 ·simp (disch:=omega) only[Wz,seval,JF,Jc3];exact fin _ _ _
 rcases(by omega:g.op.1=9\/g.op.1=10\/g.op.1=11\/g.op.1=12\/g.op.1=13\/g.op.1=14) with h | h | h | h | h | h;all_goals
  simp (disch:=omega) only[Wz,seval,JF,Jc3,h];exact fin _ _ _
theorem Jog(x y:Int):JN Pg 127 [.lit (.int .i64 x),.lit (.int .i64 y)] (.lit (.bool (decide (x<y)))):=by
 refine Jo Tryz.func127 rfl Tryz.ntmps127 (rs:=[.tmp 4]) rfl (by simp) ?_;simp only[Wa,tyW,seval];exact Jb (.lit _)
theorem Joh(x y:Int):JN Pg 128 [.lit (.int .i64 x),.lit (.int .i64 y)] (.lit (.bool (decide (x<=y)))):=by
 refine Jo Tryz.func128 rfl Tryz.ntmps128 (rs:=[.tmp 4]) rfl (by simp) ?_;simp only[Wa,tyW,seval];exact Jb (.lit _)
theorem Joi(x y:Int):JN Pg 129 [.lit (.int .i64 x),.lit (.int .i64 y)] (.lit (.bool (x==y))):=by
 refine Jo Tryz.func129 rfl Tryz.ntmps129 (rs:=[.tmp 4]) rfl (by simp) ?_;simp only[Wa,tyW,seval];exact Jb (.lit _)
def Jy6 (op x y:Int):Bool:=if op=5 then decide (x<y) else if op=6 then decide (x<=y) else x==y
def Jy7 (o:List Orc)(n index:Int):Bool:=match o.find? fun x=>x.id==n && x.index==index with | some x=>x.says | none=>false
mutual
def JbP(p:Pl)(o:List Orc):Gd->Bool
 | .mk op n name kids =>
  if op.1=0 then true else if op.1=1 then false else if op.1=8 then Jy7 o n p.index
  else if op.1=2 then !(saysAnd p o kids) else if op.1=4 then saysOr p o kids else if op.1=3 then saysAnd p o kids
  else Jy6 op.1 (JpY (kids.getD 0 default) p) (JpY (kids.getD 1 default) p)
def saysAnd(p:Pl)(o:List Orc):List Gd->Bool
 | []=>true
 | g :: l=>JbP p o g && saysAnd p o l
def saysOr(p:Pl)(o:List Orc):List Gd->Bool
 | []=>false
 | g :: l=>JbP p o g || saysOr p o l
end
theorem Jmm(p:Pl)(o:List Orc)(l:List Gd):saysAnd p o l=l.all (JbP p o):=by induction l with | nil=>rfl | cons x l ih=>simp[saysAnd,ih]
theorem Joj(p:Pl)(o:List Orc)(l:List Gd):saysOr p o l=l.any (JbP p o):=by induction l with | nil=>rfl | cons x l ih=>simp[saysOr,ih]
theorem JpZ(p:Pl)(o:List Orc)(g:Gd):JbP p o g=if g.op.1=0 then true else if g.op.1=1 then false else if g.op.1=8 then Jy7 o g.n p.index
  else if g.op.1=2 then !(g.kids.all (JbP p o)) else if g.op.1=4 then g.kids.any (JbP p o) else if g.op.1=3 then g.kids.all (JbP p o)
  else Jy6 g.op.1 (JpY (g.kids.getD 0 default) p) (JpY (g.kids.getD 1 default) p):=by
 obtain⟨op,n,name,kids⟩:=g;rw[JbP,Jmm,Joj];rfl
def JjR (p:Pl)(o:List Orc)(g:Gd)(ext:List (Nat × List AV))(n:Nat):Hp:=⟨(0,[.lit (.int .i8 g.op.1),.lit (.int .i64 g.n),.lit (.string g.name),.vec (g.kids.map JaT) false]) :: (1,[.lit (.int .i64 p.index),.lit (.int .i64 p.column),.lit (.int .i64 p.la),.lit (.int .i64 p.mode)]) :: (2,[.vec (o.map Jfy) false]) :: (3,[.fn (.func 112) [] [.ptr 1 0,.ptr 2 0]]) :: ext,[],n⟩
def Jkp (p:Pl)(o:List Orc)(g:Gd):Hp:=JjR p o g [] 4
theorem JhY(p:Pl)(o:List Orc)(g:Gd)(ext:List (Nat × List AV))(n:Nat)(hn:4<=n)(he:∀ b∈ext,b.1<n/\∀ c∈b.2,Ab.Pure c):Own (JjR p o g ext n) :=
 ⟨Jc ⟨by show 0<n;omega,.cons (.pure (.lit _)) (.cons (.pure (.lit _)) (.cons (.pure (.lit _)) (.cons (.pure (.vec (Jk JS _))) .nil)))⟩
  (Jc ⟨by show 1<n;omega,.cons (.pure (.lit _)) (.cons (.pure (.lit _)) (.cons (.pure (.lit _)) (.cons (.pure (.lit _)) .nil)))⟩
  (Jc ⟨by show 2<n;omega,.cons (.pure (.vec (Jk Jdv _))) .nil⟩
  (Jc ⟨by show 3<n;omega,.cons (.fn .nil (.cons (.ptr (by show 1<n;omega) rfl) (.cons (.ptr (by show 2<n;omega) rfl) .nil))) .nil⟩ fun b hb=>⟨(he b hb).1,RnL.pure (he b hb).2⟩))),Jm⟩
theorem JhZ(p:Pl)(o:List Orc)(g:Gd):Own (Jkp p o g):=JhY p o g [] 4 (Nat.le_refl _) Jm
theorem Jp0{T:Type}[Inhabited T]{l:List T}{q:T->Bool}(h:l.any q=true):l.findIdx q<l.length/\l.find? q=some (l.getD (l.findIdx q) default):=by
 have hlt:l.findIdx q<l.length:=List.findIdx_lt_length.2 (List.any_eq_true.1 h);refine⟨hlt,?_⟩;rw[List.getD_eq_getElem?_getD,List.getElem?_eq_getElem hlt,Option.getD_some];rw[List.find?_eq_some_iff_getElem];exact⟨List.findIdx_getElem (w:=hlt),_,hlt,rfl,fun j hj=>by simpa using List.not_of_lt_findIdx hj⟩
theorem Jsp{T:Type}{l:List T}{q:T->Bool}(h:l.any q=false):l.find? q=none:=by
 rw[List.find?_eq_none];intro x hx;rw[List.any_eq_false] at h;exact h x hx
theorem Jkq{g:Gd}(h:JaO g=true):(g.op.1=2->g.kids.length=1)/\(2<=g.op.1->g.op.1<=4->∀ k∈g.kids,JaO k=true)/\(g.op.1≠0->g.op.1≠1->g.op.1≠8->g.op.1≠2->g.op.1≠3->g.op.1≠4->(5<=g.op.1/\g.op.1<=7)/\g.kids.length=2):=by
 rw[JhX] at h;refine⟨fun e=>?_,fun e1 e2=>?_,fun e1 e2 e3 e4 e5 e6=>?_⟩
 ·simp[e] at h;exact h.2.2.1
 ·rcases(by omega:g.op.1=2\/g.op.1=3\/g.op.1=4) with e | e | e <;> simp[e] at h <;> exact h.2.2.2
 ·simp[e1,e2,e3,e4,e5,e6] at h;exact⟨⟨h.2.2.1.1,h.2.2.1.2⟩,h.2.2.2.1⟩
theorem Jgo(p:Pl)(o:List Orc)(ho:o.length<=2000000000):∀ (m:Nat) (g:Gd),gsz g<=m->m<=2000000000->JaO g=true->JaY Pg 90 [.agg (JaT g),.agg (Jc3 p),.vec (o.map Jfy) false] (.lit (.bool (JbP p o g)))
 | 0,g,h,_,_=>by have:=Jc2 g;omega
 | m+1,g,h,hm,hok=>by
  have hl:=Jbq g;have gpp:GP (.agg (Jc3 p)):=.of_pure (.agg (JcK p));have gpo:GP (.vec (o.map Jfy) false):=.of_pure (.vec (Jk Jdv _));have w1:∀ k∈g.kids,JaO k=true->JaE Pg 112 ([]++[.agg (JaT k)]++[.ptr 1 0,.ptr 2 0]) (JjR p o g ([]) 4) (.lit (.bool (JbP p o k))):=fun k hk hc=>by
   have ih:=Jgo p o ho m k (by have:=Jbj hk;omega) (by omega) hc;have own:Own (JjR p o g ([]) 4):=JhY p o g ([]) 4 (by decide) (by first | exact Jm | exact Jc ⟨by show 4<5;decide,JS k⟩ Jm);refine Jak Tryz.func112 rfl Tryz.ntmps112 (rs:=[.tmp 4]) rfl (by simp) (N:=4) rfl ?_;simp (disch:=omega) only[Wz,seval,JjR];refine JR JnV ih (Jc (gpG k) (Jc gpp (Jc gpo Jm))) (.lit _) ?_;simp (disch:=omega) only[Wz,seval];exact Jn9 4 own rfl (by show 4<=5;decide) rfl (.pure (.lit _)) (by first | exact Jc rfl (Jc rfl (Jc rfl (Jc rfl Jm))) | exact Jc rfl (Jc rfl (Jc rfl (Jc rfl (Jc rfl Jm))))) Jm
  have w1b:∀ k∈g.kids,JaO k=true->JaE Pg 112 ([]++[.agg (JaT k)]++[.ptr 1 0,.ptr 2 0]) (JjR p o g ([(4,JaT k)]) 5) (.lit (.bool (JbP p o k))):=fun k hk hc=>by
   have ih:=Jgo p o ho m k (by have:=Jbj hk;omega) (by omega) hc;have own:Own (JjR p o g ([(4,JaT k)]) 5):=JhY p o g ([(4,JaT k)]) 5 (by decide) (by first | exact Jm | exact Jc ⟨by show 4<5;decide,JS k⟩ Jm);refine Jak Tryz.func112 rfl Tryz.ntmps112 (rs:=[.tmp 4]) rfl (by simp) (N:=5) rfl ?_;simp (disch:=omega) only[Wz,seval,JjR];refine JR JnV ih (Jc (gpG k) (Jc gpp (Jc gpo Jm))) (.lit _) ?_;simp (disch:=omega) only[Wz,seval];exact Jn9 4 own rfl (by show 5<=6;decide) rfl (.pure (.lit _)) (by first | exact Jc rfl (Jc rfl (Jc rfl (Jc rfl Jm))) | exact Jc rfl (Jc rfl (Jc rfl (Jc rfl (Jc rfl Jm))))) Jm
  have w2:∀ x∈o,JaE Pg 114 ([]++[.agg (Jfy x)]++[.ptr 0 0,.ptr 1 0]) (Jkp p o g) (.lit (.bool (x.id==g.n && x.index==p.index))):=fun x hx=>by
   refine Jak Tryz.func114 rfl Tryz.ntmps114 (rs:=[.tmp 4]) rfl (by simp) (N:=4) rfl ?_;by_cases hx1:x.id=g.n
   ·simp (disch:=omega) only[Wz,seval,Jkp,JjR,Jfy];exact Jn9 4 (JhZ p o g) rfl (by show 4<=5;decide) rfl (.pure (.lit _)) (Jc rfl (Jc rfl (Jc rfl (Jc rfl Jm)))) Jm
   ·simp (disch:=omega) only[Wz,seval,Jkp,JjR,Jfy];exact Jn9 4 (JhZ p o g) rfl (by show 4<=5;decide) rfl (.pure (.lit _)) (Jc rfl (Jc rfl (Jc rfl (Jc rfl Jm)))) Jm
  have w3:∀ k∈g.kids,JaO k=true->JaE Pg 116 ([]++[.agg (JaT k)]++[.ptr 3 0]) (Jkp p o g) (.lit (.bool !(JbP p o k))):=fun k hk hc=>by
   refine Jak Tryz.func116 rfl Tryz.ntmps116 (rs:=[.tmp 3]) rfl (by simp) (N:=4) rfl ?_;simp (disch:=omega) only[Wz,seval,Jkp,JjR];refine JM Jki (w1b k hk hc) ?_;rintro r h' ⟨rfl,rfl⟩;simp (disch:=omega) only[Wz,seval,Jkp];exact Jn9 3 (JhZ p o g) rfl (by show 4<=5;decide) rfl (.pure (.lit _)) (Jc rfl (Jc rfl (Jc rfl (Jc rfl Jm)))) Jm
  refine J5 (JC Tryz.func90 rfl Tryz.ntmps90 (rs:=[.tmp 6]) rfl (by simp) ?_);obtain⟨c1,c2,c3⟩:=Jkq hok;rw[JpZ];have fin:∀ h (b:Bool),JdV h (.lit (.bool b)) (.lit (.bool b)):=fun h b=>Jar (.lit _);by_cases h0:g.op.1=0
  ·simp (disch:=omega) only[Wz,seval,JF,Jc3];exact fin _ _
  by_cases h1:g.op.1=1
  ·simp (disch:=omega) only[Wz,seval,JF,Jc3];exact fin _ _
  by_cases h8:g.op.1=8
  ·simp (disch:=omega) only[Wz,seval,JF,Jc3];refine JM Jr3 (Job o (fun x=>x.id==g.n && x.index==p.index) false (by omega) 114 [] [.ptr 0 0,.ptr 1 0] (Jkp p o g) Jr4 w2) ?_;rintro r h' ⟨rfl,rfl⟩;unfold Jy7;cases ha:o.any (fun x=>x.id==g.n && x.index==p.index) with
   | true =>
    obtain⟨f1,f2⟩:=Jp0 ha;rw[f2];have e1:Jdi o (fun x=>x.id==g.n && x.index==p.index)=((o.findIdx (fun x=>x.id==g.n && x.index==p.index):Nat):Int):=by unfold Jdi;rw[ha];rfl
    rw[e1];generalize o.findIdx (fun x=>x.id==g.n && x.index==p.index)=i at f1;simp (disch:=omega) only[Wz,seval,Jkp,JjR,Jfy];exact fin _ _
   | false =>
    rw[Jsp ha];have e1:Jdi o (fun x=>x.id==g.n && x.index==p.index) = -1:=by unfold Jdi;rw[ha];rfl
    rw[e1];simp (disch:=omega) only[Wz,seval,Jkp,JjR];exact fin _ _
  have gm:∀ i:Nat,i<g.kids.length->g.kids.getD i default∈g.kids:=fun i hi=>Jv hi
  by_cases h2:g.op.1=2
  ·have l1:=c1 h2;have ck:=c2 (by omega) (by omega);obtain⟨k,hk⟩:∃ k,g.kids=[k]:=by
    match hq:g.kids,l1 with
    | [k],_=>exact⟨k,rfl⟩
   have hkm:k∈g.kids:=by rw[hk];simp
   have gk:g.kids.getD 0 default=k:=by rw[hk];rfl
   have ea:g.kids.all (JbP p o)=JbP p o k:=by rw[hk];simp
   rw[ea];simp (disch:=omega) only[Wz,seval,JF,Jc3,gk];refine Jbu (n:=82) (σ':=⟨[(6,.lit (.bool (!(JbP p o k))))],⟨[],[],4⟩,82⟩) 4 7 (.alt 7 .leaf .nil) rfl (by decide) (by decide) mixed (by kernel_rfl) (by decide) ?_ ?_
   ·simp (disch:=omega) only[Wz,seval,gk];refine Jb1 Jki (w1 k hkm (ck k hkm)) ?_;simp (disch:=omega) only[Wz,seval,Jkp,JjR];exact St.wk.cp (St.wk_slots1 (by simp[lk]) (by simp[lk]) (fun t=>rfl))
   ·simp (disch:=omega) only[Wz,seval];exact fin _ _
  by_cases h4:g.op.1=4
  ·have ck:=c2 (by omega) (by omega);simp (disch:=omega) only[Wz,seval,JF,Jc3];refine JM Jf6 (Jb4 g.kids (JbP p o) false (by omega) 112 [] [.ptr 1 0,.ptr 2 0] (Jkp p o g) Jki (fun k hk=>w1 k hk (ck k hk))) ?_;rintro r h' ⟨rfl,rfl⟩;simp (disch:=omega) only[Wz,seval,Jkp,JjR];exact fin _ _
  by_cases h3:g.op.1=3
  ·have ck:=c2 (by omega) (by omega);have hany:g.kids.all (JbP p o) = !(g.kids.any fun k => !(JbP p o k)):=by rw[List.not_any_eq_all_not];simp
   rw[hany];simp (disch:=omega) only[Wz,seval,JF,Jc3];refine JM Jf6 (Jb4 g.kids (fun k => !(JbP p o k)) false (by omega) 116 [] [.ptr 3 0] (Jkp p o g) Jr5 (fun k hk=>w3 k hk (ck k hk))) ?_;rintro r h' ⟨rfl,rfl⟩;simp (disch:=omega) only[Wz,seval,Jkp,JjR];exact fin _ _
  obtain⟨c4,c5⟩:=c3 h0 h1 h8 h2 h3 h4;obtain⟨k,j,hk⟩:∃ k j,g.kids=[k,j]:=by
   match hq:g.kids,c5 with
   | [k,j],_=>exact⟨k,j,rfl⟩
  have gk:g.kids.getD 0 default=k:=by rw[hk];rfl
  have gj:g.kids.getD 1 default=j:=by rw[hk];rfl
  rw[gk,gj];simp (disch:=omega) only[Wz,seval,JF,Jc3,gk,gj];refine Jbu (n:=82) (σ':=⟨[(9,.lit (.int .i64 (JpY k p))),(3,.ptr 0 0),(4,.ptr 1 0)],⟨[(0,[.lit (.int .i8 g.op.1),.lit (.int .i64 g.n),.lit (.string g.name),.vec (g.kids.map JaT) false]),(1,[.lit (.int .i64 p.index),.lit (.int .i64 p.column),.lit (.int .i64 p.la),.lit (.int .i64 p.mode)])],[],4⟩,82⟩) 4 10 (.alt 10 .leaf .nil) rfl (by decide) (by decide) mixed (by kernel_rfl) (by decide) ?_ ?_
  ·simp (disch:=omega) only[Wz,seval,gk,gj];refine Jax Jn1 (Jgn k p) (Jc (.agg (JS k)) (Jc (.agg (JcK p)) Jm)) (.tup (Jc (.lit _) (Jc (.lit _) Jm))) ?_;simp (disch:=omega) only[Wz,seval];exact St.wk.cp (St.wk_slots1 (by simp[lk]) (by simp[lk]) (fun t=>rfl))
  simp (disch:=omega) only[Wz,seval];refine Jbu (n:=82) (σ':=⟨[(11,.lit (.int .i64 (JpY j p))),(9,.lit (.int .i64 (JpY k p))),(3,.ptr 0 0)],⟨[(0,[.lit (.int .i8 g.op.1),.lit (.int .i64 g.n),.lit (.string g.name),.vec (g.kids.map JaT) false])],[],4⟩,82⟩) 4 10 (.alt 10 .leaf .nil) rfl (by decide) (by decide) mixed (by kernel_rfl) (by decide) ?_ ?_
  ·simp (disch:=omega) only[Wz,seval,gk,gj];refine Jax Jn1 (Jgn j p) (Jc (.agg (JS j)) (Jc (.agg (JcK p)) Jm)) (.tup (Jc (.lit _) (Jc (.lit _) Jm))) ?_;simp (disch:=omega) only[Wz,seval];exact St.wk.cp (St.wk_slots1 (by simp[lk]) (by simp[lk]) (fun t=>rfl))
  simp (disch:=omega) only[Wz,seval];refine Jg Jn2 (JeA g.op.1 g.op.lo g.op.hi) (Jc (.lit _) Jm) (Jgj _) ?_;unfold Jy6 Jlp;rcases(by omega:g.op.1=5\/g.op.1=6\/g.op.1=7) with h | h | h
  ·simp (disch:=omega) only[Wz,seval,h];refine Jg Jr9 (Jog _ _) (Jc (.lit _) (Jc (.lit _) Jm)) (.lit _) ?_;simp (disch:=omega) only[Wz,seval];exact fin _ _
  ·simp (disch:=omega) only[Wz,seval,h];refine Jg Jsa (Joh _ _) (Jc (.lit _) (Jc (.lit _) Jm)) (.lit _) ?_;simp (disch:=omega) only[Wz,seval];exact fin _ _
  ·simp (disch:=omega) only[Wz,seval,h];refine Jg Jsb (Joi _ _) (Jc (.lit _) (Jc (.lit _) Jm)) (.lit _) ?_;simp (disch:=omega) only[Wz,seval];exact fin _ _
theorem Jjg(p:Pl):(Jc3 p).length=4:=rfl
theorem Jmn(p:Pl):(Jc3 p).take 4=Jc3 p:=rfl
theorem Jmo(g:Gd)(p:Pl)(o:List Orc)(h:gsz g<=2000000000)(hok:Jof g)(ho:o.length<=2000000000) :
  JaY Pg 71 [.agg (JaT g),.agg (Jc3 p),.vec (o.map Jfy) false] (.lit (.bool (ckG g && JbP p o g))):=by
 refine J5 (JC Tryz.func71 rfl Tryz.ntmps71 (rs:=[.tmp 6]) rfl (by simp) ?_);simp (disch:=omega) only[Wz,seval];refine JR Jro (Jgm g h hok) (Jc (gpG g) Jm) (.lit _) ?_;cases hc:ckG g with
 | true =>
  have hcond:JaO g=true:=by unfold ckG at hc;simp at hc;exact hc.2
  simp (disch:=omega) only[Wz,seval,Bool.true_and,Jjg,Jmn];refine JR JnV (Jgo p o ho _ g (Nat.le_refl _) h hcond) (Jc (gpG g) (Jc (.of_pure (.agg (JcK p))) (Jc (.of_pure (.vec (Jk Jdv _))) Jm))) (.lit _) ?_;simp (disch:=omega) only[Wz,seval];exact Jar (.lit _)
 | false =>
  simp (disch:=omega) only[Wz,seval,Bool.false_and,Bool.false_eq_true];exact Jar (.lit _)
def Jtd (x:Int)(r:Int × Int):Bool:=decide (r.1<=x/\x<=r.2)
def Jlr (s:List (Int × Int))(x:Int):Bool:=s.any (Jtd x)
theorem Jp1(s:List (Int × Int))(x:Int)(h:s.length<=2000000000):JaY Pg 70 [.vec (s.map Ja2) false,.lit (.int .i32 x)] (.lit (.bool (Jlr s x))):=by
 have w1:∀ r∈s,JaE Pg 88 ([]++[.agg (Ja2 r)]++[.ptr 0 0]) ⟨[(0,[.lit (.int .i32 x)])],[],1⟩ (.lit (.bool (Jtd x r))):=fun r hr=>by
  refine Jak Tryz.func88 rfl Tryz.ntmps88 (rs:=[.tmp 3]) rfl (by simp) (N:=1) rfl ?_;unfold Jtd;have own:Own ⟨[(0,[.lit (.int .i32 x)])],[],1⟩:=⟨Jc ⟨by show 0<1;decide,.cons (.pure (.lit _)) .nil⟩ Jm,Jm⟩;by_cases h1:r.1<=x
  ·by_cases h2:x<=r.2;all_goals
    simp (disch:=omega) only[Wz,seval,Ja2];exact Jn9 3 own rfl (by show 1<=2;decide) rfl (.pure (.lit _)) (Jc rfl Jm) Jm
  ·simp (disch:=omega) only[Wz,seval,Ja2];exact Jn9 3 own rfl (by show 1<=2;decide) rfl (.pure (.lit _)) (Jc rfl Jm) Jm
 refine J5 (JC Tryz.func70 rfl Tryz.ntmps70 (rs:=[.tmp 4]) rfl (by simp) ?_);simp (disch:=omega) only[Wz,seval];refine JM JxG (Jkl s (Jtd x) false h 88 [] [.ptr 0 0] ⟨[(0,[.lit (.int .i32 x)])],[],1⟩ JxH w1) ?_;rintro r h' ⟨rfl,rfl⟩;simp (disch:=omega) only[Wz,seval];exact Jar (.lit _)
def Jaz(op:Int):Gd->Bool
 | .mk o n name kids=>o.1==op || holdsVs op kids
where holdsVs (op:Int):List Gd->Bool
 | []=>false
 | g :: l=>Jaz op g || holdsVs op l
theorem Jmp(op:Int)(l:List Gd):Jaz.holdsVs op l=l.any (Jaz op):=by induction l with | nil=>rfl | cons x l ih=>simp[Jaz.holdsVs,ih]
theorem Jgp(op:Int)(g:Gd):Jaz op g=(g.op.1==op || g.kids.any (Jaz op)):=by
 obtain⟨o,n,name,kids⟩:=g;rw[Jaz,Jmp];rfl
def Jls (cs:List AV):Hp:=⟨[(0,cs)],[],1⟩
theorem Jh0{cs:List AV}(h:∀ c∈cs,Ab.Pure c):Own (Jls cs):=⟨Jc ⟨by show 0<1;decide,RnL.pure h⟩ Jm,Jm⟩
theorem Jok(op:Int)(k:Gd)(ih:JaE Pg 97 [.ptr 0 0,.lit (.int .i8 op)] (Jls (JaT k)) (.lit (.bool (Jaz op k)))) :
  JaE Pg 121 ([]++[.agg (JaT k)]++[.ptr 0 0]) (Jls [.lit (.int .i8 op)]) (.lit (.bool (Jaz op k))):=by
 refine Jak Tryz.func121 rfl Tryz.ntmps121 (rs:=[.tmp 3]) rfl (by simp) (N:=1) rfl ?_;simp (disch:=omega) only[Wz,seval,Jls];refine JM JnW (JaE.sub (hs:=Jls (JaT k)) (r0:=.lit (.bool (Jaz op k))) (av:=[.ptr 0 0,.lit (.int .i8 op)]) [1] rfl (by simp) (by simp) (.cons (.ptr (by show 0<1;decide) rfl) (.cons (.pure (.lit _)) .nil))
  (Jc ⟨by show 0<1;decide,_,rfl,RnL.pure (JS k)⟩ Jm) Jm (by intro k hk _;simp[lk]) ih (.pure (.lit _))) ?_
 rintro r h' ⟨rfl,rfl⟩;simp (disch:=omega) only[Wz,seval];exact Jn9 3 (Jh0 (Jc (.lit _) Jm)) rfl (by show 1<=2;decide) rfl (.pure (.lit _)) (Jc rfl Jm) Jm
theorem Jol(op:Int):∀ (m:Nat) (g:Gd),gsz g<=m->m<=2000000000->JaE Pg 97 [.ptr 0 0,.lit (.int .i8 op)] (Jls (JaT g)) (.lit (.bool (Jaz op g)))
 | 0,g,h,_=>by have:=Jc2 g;omega
 | m+1,g,h,hm=>by
  have hl:=Jbq g;have ih:∀ k∈g.kids,JaE Pg 121 ([]++[.agg (JaT k)]++[.ptr 1 0]) ⟨[(0,[.lit (.int .i8 g.op.1),.lit (.int .i64 g.n),.lit (.string g.name),.vec (g.kids.map JaT) false]),(1,[.lit (.int .i8 op)])],[],2⟩ (.lit (.bool (Jaz op k))):=fun k hk =>
   JaE.sub (hs:=Jls [.lit (.int .i8 op)]) (r0:=.lit (.bool (Jaz op k))) (av:=[]++[.agg (JaT k)]++[.ptr 0 0]) [1] rfl (by simp) (by simp) (.cons (.pure (.agg (JS k))) (.cons (.ptr (by show 0<1;decide) rfl) .nil))
    (Jc ⟨by show 0<1;decide,_,rfl,RnL.pure (Jc (.lit _) Jm)⟩ Jm) Jm (by intro k hk _;simp[lk]) (Jok op k (Jol op m k (by have:=Jbj hk;omega) (by omega))) (.pure (.lit _))
  have own:=Jh0 (JS g);rw[JF] at own;refine Jak Tryz.func97 rfl Tryz.ntmps97 (rs:=[.tmp 4]) rfl (by simp) (N:=1) rfl ?_;simp (disch:=omega) only[Wz,seval,Jls,JF];refine Jbu (n:=19) (σ':=⟨[(4,.lit (.bool (Jaz op g)))],⟨[(0,[.lit (.int .i8 g.op.1),.lit (.int .i64 g.n),.lit (.string g.name),.vec (g.kids.map JaT) false])],[],2⟩,19⟩) 2 14 (.alt 14 .leaf .nil) rfl (by decide) (by decide) mixed (by kernel_rfl) (by decide) ?_ ?_
  ·rw[Jgp];by_cases h1:g.op.1=op
   ·simp (disch:=omega) only[Wz,seval,Bool.true_or];exact St.wk.cp (St.wk_slots1 (by simp[lk]) (by simp[lk]) (fun t=>rfl))
   ·simp (disch:=omega) only[Wz,seval,Bool.false_or];refine Jb1 Jf6 (Jb4 g.kids (Jaz op) false (by omega) 121 [] [.ptr 1 0] _ Jn3 ih) ?_;simp (disch:=omega) only[Wz,seval];exact St.wk.cp (St.wk_slots1 (by simp[lk]) (by simp[lk]) (fun t=>rfl))
  ·simp (disch:=omega) only[Wz,seval];exact Jn9 4 own rfl (by show 1<=2;decide) rfl (.pure (.lit _)) (Jc rfl Jm) Jm
theorem Jom(op:Int)(e:Ed)(h:gsz e.g<=2000000000):JaY Pg 97 [.pp (Jr e) 4,.lit (.int .i8 op)] (.lit (.bool (Jaz op e.g))):=by
 have hl:=Jbq e.g;have ih:∀ k∈e.g.kids,JaE Pg 121 ([]++[.agg (JaT k)]++[.ptr 0 0]) (Jls [.lit (.int .i8 op)]) (.lit (.bool (Jaz op k))):=fun k hk=>Jok op k (Jol op _ k (Nat.le_refl _) (by have:=Jbj hk;omega));refine J5 (JC Tryz.func97 rfl Tryz.ntmps97 (rs:=[.tmp 4]) rfl (by simp) ?_);simp (disch:=omega) only[Wz,seval,Jr];refine Jbu (n:=19) (σ':=⟨[(4,.lit (.bool (Jaz op e.g)))],⟨[],[],1⟩,19⟩) 1 14 (.alt 14 .leaf .nil) rfl (by decide) (by decide) mixed (by kernel_rfl) (by decide) ?_ ?_
 ·rw[Jgp];by_cases h1:e.g.op.1=op
  ·simp (disch:=omega) only[Wz,seval,Bool.true_or];exact St.wk.cp (St.wk_slots1 (by simp[lk]) (by simp[lk]) (fun t=>rfl))
  ·simp (disch:=omega) only[Wz,seval,Bool.false_or];refine Jb1 Jf6 (Jb4 e.g.kids (Jaz op) false (by omega) 121 [] [.ptr 0 0] _ Jn3 ih) ?_;simp (disch:=omega) only[Wz,seval];exact St.wk.cp (St.wk_slots1 (by simp[lk]) (by simp[lk]) (fun t=>rfl))
 ·simp (disch:=omega) only[Wz,seval];exact Jar (.lit _)
def Jjh(s:List (Int × Int)):Prop:=∀ r∈s,(-2147483648<=r.1/\r.1<=2147483647)/\(-2147483648<=r.2/\r.2<=2147483647)
def Jmq (s:List (Int × Int))(i:Nat):Bool:=decide ((s.getD i default).1<=(s.getD i default).2/\(i=0\/(s.getD (i - 1) default).2+1<(s.getD i default).1))
def Jkr (s:List (Int × Int)):Bool:=(List.range s.length).all (Jmq s)
theorem Jat{n:Nat}{p:Nat->Bool}(h:∀ j,j<n->p j=true):(List.range n).all p=true:=by
 rw[List.all_eq_true];intro j hj;exact h j (List.mem_range.1 hj)
theorem Ja7{n i:Nat}{p:Nat->Bool}(hi:i<n)(h:p i=false):(List.range n).all p=false:=by
 rw[List.all_eq_false];exact⟨i,List.mem_range.2 hi,by rw[h];decide⟩
theorem Jap{i:Nat}{p:Nat->Bool}(h:∀ j,j<i->p j=true)(hi:p i=true):∀ j,j<i+1->p j=true:=fun j hj=>by
 rcases Nat.lt_or_ge j i with h1 | h1
 ·exact h j h1
 ·have:j=i:=by omega
  rw[this];exact hi
theorem Jks(s:List (Int × Int))(h:s.length<=2000000000)(hs:Jjh s):JaY Pg 81 [.vec (s.map Ja2) false] (.lit (.int .i64 (if Jkr s then 0 else 2))):=by
 refine J5 (JC Tryz.func81 rfl Tryz.ntmps81 (rs:=[.tmp 2]) rfl (by simp) ?_);simp (disch:=omega) only[Wz,seval];refine JbM s.length 0 (fun i (_:Unit)=>⟨[(7,.lit (.int .i64 (i:Int))),(6,.lit (.int .i64 (s.length:Int))),(5,.vec (s.map Ja2) false),(0,.vec (s.map Ja2) false)],.none,36⟩) (fun i _=>∀ j,j<i->Jmq s j=true) (fun _ _=>rfl) () (St.wk_slots (by simp[lk])) (by simp) (fun i _ hlt hno=>?_) (fun _ hno=>?_)
 ·have key:Jmq s i=decide ((s.getD i default).1<=(s.getD i default).2/\(i=0\/(s.getD (i - 1) default).2+1<(s.getD i default).1)):=rfl;have o1:=hs _ (Jv hlt);have o2:i≠0->_:=fun h=>hs _ (Jv (show i - 1<s.length by omega))
  have fin:Jmq s i=false->JdV ⟨[(0,[.lit (.int .i32 (s.getD i default).1),.lit (.int .i32 (s.getD i default).2)])],[],1⟩ (.lit (.int .i64 2)) (.lit (.int .i64 (if Jkr s then 0 else 2))):=fun h=>by
   have e:Jkr s=false:=Ja7 hlt h;rw[e];exact Jar (.lit _)
  have back:Jmq s i=true->∀ sl:List (Nat × AV),lk sl 7=some (.lit (.int .i64 ((i+1:Nat):Int)))->lk sl 6=some (.lit (.int .i64 (s.length:Int)))->lk sl 5=some (.vec (s.map Ja2) false)->lk sl 0=some (.vec (s.map Ja2) false) ->
    ∃ x:Unit,(∀ j,j<i+1->Jmq s j=true)/\St.cp 0 ⟨sl,⟨[(0,[.lit (.int .i32 (s.getD i default).1),.lit (.int .i32 (s.getD i default).2)])],[],1⟩,36⟩ ⟨[(7,.lit (.int .i64 ((i+1:Nat):Int))),(6,.lit (.int .i64 (s.length:Int))),(5,.vec (s.map Ja2) false),(0,.vec (s.map Ja2) false)],.none,36⟩:=fun h sl e1 e2 e3 e4 =>
   ⟨(),Jap hno h,Ja3 (Nat.le_refl _) (Nat.zero_le _) rfl (Jc ⟨e1,.pure (.lit _)⟩ (Jc ⟨e2,.pure (.lit _)⟩ (Jc ⟨e3,.pure (.vec (Jk Jb3 _))⟩ (Jc ⟨e4,.pure (.vec (Jk Jb3 _))⟩ Jm)))) Jm Jm⟩
  by_cases h1:(s.getD i default).1<=(s.getD i default).2
  ·by_cases h2:i=0
   ·have hk:Jmq s i=true:=by rw[key];exact decide_eq_true ⟨h1,.inl h2⟩
    simp (disch:=omega) only[Wz,seval,Ja2];refine Jw (n:=36) rfl (by decide) mixed ?_;simp (disch:=omega) only[Wz,seval];exact back hk _ rfl rfl rfl rfl
   ·have o3:=o2 h2;have i1:((i:Int) - 1).toNat=i - 1:=by omega
    have i2:IntKind.i64.wrap ((i:Int) - 1)=(i:Int) - 1:=Jdh (by omega) (by omega);by_cases h3:(s.getD (i - 1) default).2+1<(s.getD i default).1
    ·have hk:Jmq s i=true:=by rw[key];exact decide_eq_true ⟨h1,.inr h3⟩
     simp (disch:=omega) only[Wz,seval,Ja2];refine Jw (n:=36) rfl (by decide) mixed ?_;simp (disch:=omega) only[Wz,seval,Ja2,i1,i2];exact back hk _ rfl rfl rfl rfl
    ·have hk:Jmq s i=false:=by rw[key];exact decide_eq_false (by omega)
     simp (disch:=omega) only[Wz,seval,Ja2];refine Jw (n:=36) rfl (by decide) mixed ?_;simp (disch:=omega) only[Wz,seval,Ja2,i1,i2];exact fin hk
  ·have hk:Jmq s i=false:=by rw[key];exact decide_eq_false (by omega)
   simp (disch:=omega) only[Wz,seval,Ja2];refine Jw (n:=36) rfl (by decide) mixed ?_;simp (disch:=omega) only[Wz,seval];exact fin hk
 ·have e:Jkr s=true:=Jat hno;rw[e];simp (disch:=omega) only[Wz,seval];exact Jar (.lit _)
def Jmr (n:Nt)(a:Int × Int):Bool:=if a.1=2 then decide (1<=a.2/\a.2<=(n.types.length:Int)) else if a.1=3 then decide (0<=a.2/\a.2<(n.channels.length:Int)) else if a.1=4\/a.1=5 then decide (0<=a.2/\a.2<(n.modes.length:Int))
 else if a.1=0\/a.1=1\/a.1=6 then decide (a.2=0) else false
theorem Ja4(n:Nt):Ab.Pure (.pp (Jh n) 0):=.pp (J8 n)
theorem Jp2(n:Nt)(a:Int × Int):JN Pg 104 [.pp (Jh n) 0,.agg (JG a)] (.lit (.bool (Jmr n a))):=by
 refine Jo Tryz.func104 rfl Tryz.ntmps104 (rs:=[.tmp 4]) rfl (by simp) ?_;have fin:∀ h (b:Bool),Jdg h (.lit (.bool b)) (.lit (.bool b)):=fun h b=>Jb (.lit _);unfold Jmr;by_cases h2:a.1=2
 ·by_cases k1:1<=a.2 <;> by_cases k2:a.2<=(n.types.length:Int)
  all_goals
   simp (disch:=omega) only[Wz,seval,JG,Jh,h2];refine Jbu (n:=60) (σ':=⟨[(4,.lit (.bool (decide (1<=a.2/\a.2<=(n.types.length:Int)))))],⟨[],[],1⟩,60⟩) 1 13 (.alt 13 .leaf .nil) rfl (by decide) (by decide) mixed (by kernel_rfl) (by decide) ?_ ?_
   ·simp (disch:=omega) only[Wz,seval];exact St.wk.cp (St.wk_slots1 (by simp[lk]) (by simp[lk]) (fun t=>rfl))
   ·simp (disch:=omega) only[Wz,seval];exact fin _ _
 by_cases h3:a.1=3
 ·by_cases k1:0<=a.2 <;> by_cases k2:a.2<(n.channels.length:Int)
  all_goals
   simp (disch:=omega) only[Wz,seval,JG,Jh,h3];refine Jbu (n:=60) (σ':=⟨[(4,.lit (.bool (decide (0<=a.2/\a.2<(n.channels.length:Int)))))],⟨[],[],1⟩,60⟩) 1 13 (.alt 13 .leaf .nil) rfl (by decide) (by decide) mixed (by kernel_rfl) (by decide) ?_ ?_
   ·simp (disch:=omega) only[Wz,seval];exact St.wk.cp (St.wk_slots1 (by simp[lk]) (by simp[lk]) (fun t=>rfl))
   ·simp (disch:=omega) only[Wz,seval];exact fin _ _
 by_cases h4:a.1=4
 ·by_cases k1:0<=a.2 <;> by_cases k2:a.2<(n.modes.length:Int)
  all_goals
   simp (disch:=omega) only[Wz,seval,JG,Jh,h4];refine Jbu (n:=60) (σ':=⟨[(4,.lit (.bool (decide (0<=a.2/\a.2<(n.modes.length:Int)))))],⟨[],[],1⟩,60⟩) 1 13 (.alt 13 .leaf .nil) rfl (by decide) (by decide) mixed (by kernel_rfl) (by decide) ?_ ?_
   ·simp (disch:=omega) only[Wz,seval];exact St.wk.cp (St.wk_slots1 (by simp[lk]) (by simp[lk]) (fun t=>rfl))
   ·simp (disch:=omega) only[Wz,seval];exact fin _ _
 by_cases h5:a.1=5
 ·by_cases k1:0<=a.2 <;> by_cases k2:a.2<(n.modes.length:Int)
  all_goals
   simp (disch:=omega) only[Wz,seval,JG,Jh,h5];refine Jbu (n:=60) (σ':=⟨[(4,.lit (.bool (decide (0<=a.2/\a.2<(n.modes.length:Int)))))],⟨[],[],1⟩,60⟩) 1 13 (.alt 13 .leaf .nil) rfl (by decide) (by decide) mixed (by kernel_rfl) (by decide) ?_ ?_
   ·simp (disch:=omega) only[Wz,seval];exact St.wk.cp (St.wk_slots1 (by simp[lk]) (by simp[lk]) (fun t=>rfl))
   ·simp (disch:=omega) only[Wz,seval];exact fin _ _
 by_cases h6:a.1=0\/a.1=1\/a.1=6
 ·by_cases k1:a.2=0;all_goals
   rcases h6 with h | h | h;all_goals
    simp (disch:=omega) only[Wz,seval,JG,Jh,h];exact fin _ _
 ·simp (disch:=omega) only[Wz,seval,JG,Jh];exact fin _ _
def JcO (n:Nt)(r:Nr)(no:Int)(e:Ed):List AV:=[.pp (Jh n) 0,.pp (Jf r) 0,.lit (.int .i64 no),.pp (Jr e) 0]
theorem JbA(n:Nt)(r:Nr)(no:Int)(e:Ed):∀ c∈JcO n r no e,Ab.Pure c:=by
 intro c hc;simp only[JcO,List.mem_cons,List.not_mem_nil,or_false] at hc;rcases hc with rfl | rfl | rfl | rfl
 ·exact .pp (J8 n)
 ·exact .pp (Ja9 r)
 ·exact .lit _
 ·exact .pp (Jbi e)
theorem gpK(n:Nt)(r:Nr)(no:Int)(e:Ed):GP (.agg (JcO n r no e)):=.of_pure (.agg (JbA n r no e))
def kd0 (e:Ed):Bool:=decide (e.n=0/\e.level=0)
def kd4 (e:Ed):Bool:=decide ((1<=e.n/\e.n<=64)/\e.level=0)
def kd5 (r:Nr)(e:Ed):Bool:=r.left && decide ((1<=e.n/\e.n<=64)/\1<=e.level/\e.level<=64)
def kd6 (r:Nr)(e:Ed):Bool:=r.left && decide (e.n=0/\e.level=0)
theorem Jp3(n:Nt)(r:Nr)(no:Int)(e:Ed):JN Pg 93 [.agg (JcO n r no e)] (.lit (.bool (kd0 e))):=by
 refine Jo Tryz.func93 rfl Tryz.ntmps93 (rs:=[.tmp 2]) rfl (by simp) ?_;unfold kd0;by_cases k1:e.n=0 <;> by_cases k2:e.level=0
 all_goals
  simp (disch:=omega) only[Wz,seval,JcO,Jr];exact Jb (.lit _)
theorem Jp4(n:Nt)(r:Nr)(no:Int)(e:Ed):JN Pg 98 [.agg (JcO n r no e)] (.lit (.bool (kd4 e))):=by
 refine Jo Tryz.func98 rfl Tryz.ntmps98 (rs:=[.tmp 2]) rfl (by simp) ?_;unfold kd4;by_cases k1:1<=e.n <;> by_cases k2:e.n<=64 <;> by_cases k3:e.level=0
 all_goals
  simp (disch:=omega) only[Wz,seval,JcO,Jr];exact Jb (.lit _)
theorem Jp5(n:Nt)(r:Nr)(no:Int)(e:Ed):JN Pg 99 [.agg (JcO n r no e)] (.lit (.bool (kd5 r e))):=by
 refine Jo Tryz.func99 rfl Tryz.ntmps99 (rs:=[.tmp 2]) rfl (by simp) ?_;unfold kd5;cases hl:r.left
 ·simp (disch:=omega) only[Wz,seval,JcO,Jr,Jf,hl,Bool.false_and];exact Jb (.lit _)
 by_cases k1:1<=e.n <;> by_cases k2:e.n<=64 <;> by_cases k3:1<=e.level <;> by_cases k4:e.level<=64
 all_goals
  simp (disch:=omega) only[Wz,seval,JcO,Jr,Jf,hl,Bool.true_and];exact Jb (.lit _)
theorem Jp6(n:Nt)(r:Nr)(no:Int)(e:Ed):JN Pg 100 [.agg (JcO n r no e)] (.lit (.bool (kd6 r e))):=by
 refine Jo Tryz.func100 rfl Tryz.ntmps100 (rs:=[.tmp 2]) rfl (by simp) ?_;unfold kd6;cases hl:r.left
 ·simp (disch:=omega) only[Wz,seval,JcO,Jr,Jf,hl,Bool.false_and];exact Jb (.lit _)
 by_cases k1:e.n=0 <;> by_cases k2:e.level=0
 all_goals
  simp (disch:=omega) only[Wz,seval,JcO,Jr,Jf,hl,Bool.true_and];exact Jb (.lit _)
def kd3 (r:Nr)(e:Ed):Bool:=decide (e.n=0/\e.level=0) && (ckG e.g && (!(Jaz 14 e.g) && (r.lexer || !(Jaz 13 e.g))))
theorem Jp7(n:Nt)(r:Nr)(no:Int)(e:Ed)(h:gsz e.g<=2000000000)(hok:Jof e.g):JaY Pg 96 [.agg (JcO n r no e)] (.lit (.bool (kd3 r e))):=by
 refine J5 (JC Tryz.func96 rfl Tryz.ntmps96 (rs:=[.tmp 2]) rfl (by simp) ?_);have hg:=Jgm e.g h hok;have gg:=gpG e.g;rw[JF] at hg gg;have q1:=Jom 14 e h;have q2:=Jom 13 e h;have gp:GP (.pp (Jr e) 4):=.of_pure (.pp (Jbi e));simp only[Jr] at q1 q2 gp;unfold kd3;by_cases k1:e.n=0
 ·by_cases k2:e.level=0
  ·simp (disch:=omega) only[Wz,seval,JcO,Jr];refine JR Jro hg (Jc gg Jm) (.lit _) ?_;cases ckG e.g
   ·simp (disch:=omega) only[Wz,seval,Bool.false_and,Bool.and_false,Bool.false_eq_true];exact Jar (.lit _)
   ·simp (disch:=omega) only[Wz,seval,Bool.true_and,Bool.and_true];refine JR JnW q1 (Jc gp (Jc (.lit _) Jm)) (.lit _) ?_;cases Jaz 14 e.g
    ·simp (disch:=omega) only[Wz,seval,Bool.true_and,Jf];cases r.lexer
     ·simp (disch:=omega) only[Wz,seval,Bool.false_or];refine JR JnW q2 (Jc gp (Jc (.lit _) Jm)) (.lit _) ?_;simp (disch:=omega) only[Wz,seval];exact Jar (.lit _)
     ·simp (disch:=omega) only[Wz,seval,Bool.true_or];exact Jar (.lit _)
    ·simp (disch:=omega) only[Wz,seval,Bool.false_and];exact Jar (.lit _)
  ·simp (disch:=omega) only[Wz,seval,JcO,Jr,Bool.false_and];exact Jar (.lit _)
 ·simp (disch:=omega) only[Wz,seval,JcO,Jr,Bool.false_and];exact Jar (.lit _)
def kd7 (n:Nt)(r:Nr)(e:Ed):Bool:=r.lexer && (!r.frag && (decide (e.n=0/\e.level=0) && e.acts.all (Jmr n)))
theorem Jp8(n:Nt)(r:Nr)(no:Int)(e:Ed)(h:e.acts.length<=2000000000):JaY Pg 101 [.agg (JcO n r no e)] (.lit (.bool (kd7 n r e))):=by
 have hany:e.acts.all (Jmr n) = !(e.acts.any fun a => !(Jmr n a)):=by rw[List.not_any_eq_all_not];simp
 have own:Own (Jls (JcO n r no e)):=Jh0 (JbA n r no e);have w1:∀ a∈e.acts,JaE Pg 103 ([]++[.agg (JG a)]++[.ptr 0 0]) (Jls (JcO n r no e)) (.lit (.bool (!(Jmr n a)))):=fun a ha=>by
  refine Jak Tryz.func103 rfl Tryz.ntmps103 (rs:=[.tmp 3]) rfl (by simp) (N:=1) rfl ?_;simp (disch:=omega) only[Wz,seval,Jls,JcO];refine Jg Jr0 (Jp2 n a) (Jc (Ja4 n) (Jc (.agg (J7 a)) Jm)) (.lit _) ?_;simp (disch:=omega) only[Wz,seval];exact Jn9 3 own rfl (by show 1<=2;decide) rfl (.pure (.lit _)) (Jc rfl Jm) Jm
 refine J5 (JC Tryz.func101 rfl Tryz.ntmps101 (rs:=[.tmp 2]) rfl (by simp) ?_);unfold kd7;rw[hany];cases hl:r.lexer
 ·simp (disch:=omega) only[Wz,seval,JcO,Jr,Jf,hl,Bool.false_and];exact Jar (.lit _)
 cases hf:r.frag
 ·by_cases k1:e.n=0
  ·by_cases k2:e.level=0
   ·simp (disch:=omega) only[Wz,seval,JcO,Jr,Jf,hl,hf,Bool.true_and];have hc:=Jjd e.acts (fun a => !(Jmr n a)) false h 103 [] [.ptr 0 0] (Jls (JcO n r no e)) JrZ w1;simp only[Jls,JcO,Jr,Jf,hl,hf] at hc;refine JM JrY hc ?_;rintro r' h' ⟨rfl,rfl⟩;simp (disch:=omega) only[Wz,seval];exact Jar (.lit _)
   ·simp (disch:=omega) only[Wz,seval,JcO,Jr,Jf,hl,hf,Bool.true_and,Bool.false_and];exact Jar (.lit _)
  ·simp (disch:=omega) only[Wz,seval,JcO,Jr,Jf,hl,hf,Bool.true_and,Bool.false_and];exact Jar (.lit _)
 ·simp (disch:=omega) only[Wz,seval,JcO,Jr,Jf,hl,hf,Bool.true_and,Bool.false_and];exact Jar (.lit _)
def kd2 (n:Nt)(r:Nr)(no:Int)(e:Ed):Bool:=decide (0<=e.n/\e.n<(n.rules.length:Int)) && ((n.rules.getD e.n.toNat default).lexer==r.lexer && (decide (0<=e.level/\e.level<=65) && (decide (e.level=0) || (decide (e.n=no) && r.left))))
theorem Jp9(n:Nt)(r:Nr)(no:Int)(e:Ed)(h:n.rules.length<=2000000000):JN Pg 95 [.agg (JcO n r no e)] (.lit (.bool (kd2 n r no e))):=by
 refine Jo Tryz.func95 rfl Tryz.ntmps95 (rs:=[.tmp 2]) rfl (by simp) ?_;simp (disch:=omega) only[Wz,seval,JcO,Jr,Jf,Jh,Lx];refine Jbu (n:=85) (σ':=⟨[(2,.lit (.bool (kd2 n r no e)))],⟨[],[],1⟩,85⟩) 1 82 (.alt 82 .leaf .nil) rfl (by decide) (by decide) mixed (by kernel_rfl) (by decide) ?_ ?_
 ·unfold kd2;by_cases k1:0<=e.n
  ·by_cases k2:e.n<(n.rules.length:Int)
   ·cases hx:((n.rules.getD e.n.toNat default).lexer==r.lexer)
    ·simp (disch:=omega) only[Wz,seval,Jf,hx,Bool.true_and,Bool.false_and];exact St.wk.cp (St.wk_slots1 (by simp[lk]) (by simp[lk]) (fun t=>rfl))
    ·by_cases k3:0<=e.level
     ·by_cases k4:e.level<=65
      ·by_cases k5:e.level=0
       ·simp (disch:=omega) only[Wz,seval,Jf,hx,Bool.true_and,Bool.false_and,Bool.true_or];exact St.wk.cp (St.wk_slots1 (by simp[lk]) (by simp[lk]) (fun t=>rfl))
       ·by_cases k6:e.n=no
        ·cases hl:r.left
         ·simp (disch:=omega) only[Wz,seval,Jf,hx,Bool.true_and,Bool.false_and,hl,Bool.false_or,Bool.and_false,Bool.and_true];exact St.wk.cp (St.wk_slots1 (by simp[lk]) (by simp[lk]) (fun t=>rfl))
         ·simp (disch:=omega) only[Wz,seval,Jf,hx,Bool.true_and,Bool.false_and,hl,Bool.false_or,Bool.and_false,Bool.and_true];exact St.wk.cp (St.wk_slots1 (by simp[lk]) (by simp[lk]) (fun t=>rfl))
        ·simp (disch:=omega) only[Wz,seval,Jf,hx,Bool.true_and,Bool.false_and,Bool.false_or];exact St.wk.cp (St.wk_slots1 (by simp[lk]) (by simp[lk]) (fun t=>rfl))
      ·simp (disch:=omega) only[Wz,seval,Jf,hx,Bool.true_and,Bool.false_and];exact St.wk.cp (St.wk_slots1 (by simp[lk]) (by simp[lk]) (fun t=>rfl))
     ·simp (disch:=omega) only[Wz,seval,Jf,hx,Bool.true_and,Bool.false_and];exact St.wk.cp (St.wk_slots1 (by simp[lk]) (by simp[lk]) (fun t=>rfl))
   ·simp (disch:=omega) only[Wz,seval,Bool.false_and];exact St.wk.cp (St.wk_slots1 (by simp[lk]) (by simp[lk]) (fun t=>rfl))
  ·simp (disch:=omega) only[Wz,seval,Bool.false_and];exact St.wk.cp (St.wk_slots1 (by simp[lk]) (by simp[lk]) (fun t=>rfl))
 ·simp (disch:=omega) only[Wz,seval];exact Jb (.lit _)
end Go.Proofs.Y
end
