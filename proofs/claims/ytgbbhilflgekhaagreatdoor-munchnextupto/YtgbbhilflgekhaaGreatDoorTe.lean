/- Parts of the proof, laid together. -/
import Derived.Test.YtgbbhilflgekhaaGreatDoorTd
set_option linter.unusedVariables false
set_option linter.unusedSimpArgs false
set_option maxRecDepth 20000
set_option maxHeartbeats 16000000
section
namespace Go.Proofs.Y
open Go Go.Ab
open Go.Proofs.Tryz renaming prog->Pg
def ofN (n:Nt)(s r:Int):Bool:=decide (0<=s) && (decide (s<n.states.length) && ((n.states.getD s.toNat default).rule==r))
theorem Jhl{T:Type}{l:List T}{p:T->Bool}{i:Nat}{x:T}(hx:l[i]? = some x)(hno:∀ y∈l.take i,p y=false)(h:p x=true):l.any p=true/\l.findIdx p=i:=by
 obtain⟨hi,rfl⟩:=List.getElem?_eq_some_iff.1 hx;refine⟨List.any_eq_true.2 ⟨_,List.getElem_mem hi,h⟩,?_⟩;rw[List.findIdx_eq hi];refine⟨h,fun j hj=>hno _ ?_⟩;rw[List.mem_take_iff_getElem];exact⟨j,by omega,rfl⟩
theorem Je5{T:Type}{l:List T}{p:T->Bool}{i:Nat}{x:T}(hx:l[i]? = some x)(hno:∀ y∈l.take i,p y=false)(h:p x=false):∀ y∈l.take (i+1),p y=false:=fun y hy=>by
 rw[List.take_add_one,hx] at hy;rcases List.mem_append.1 hy with hy | hy
 ·exact hno y hy
 ·simp at hy;rw[hy];exact h
theorem Jhm{T:Type}{l:List T}{p:T->Bool}(hno:∀ y∈l.take l.length,p y=false):l.any p=false:=by
 rw[List.take_length] at hno;rw[List.any_eq_false];intro x hx;simp[hno x hx]
def Jdv {T:Type}(l:List T)(p:T->Bool):Int:=if l.any p then ((l.findIdx p:Nat):Int) else -1
theorem Jgt{T:Type}(l:List T)(p:T->Bool):decide (Jdv l p >= 0)=l.any p:=by
 unfold Jdv;cases l.any p with
 | true=>simp
 | false=>simp
theorem JoE(l:List (Int × Int))(p:(Int × Int)->Bool)(fl:Bool)(hs:l.length<=2000000000)(fn:Nat)(first cap:List AV)(h:Hp)(hc:Je Pg fn)(hp:∀ t∈l,JaG Pg fn (first++[.agg (Jy t)]++cap) h (.lit (.bool (p t)))) :
  JaG Pg 122 [.vec (l.map Jy) fl,.fn (.func fn) first cap] h (.lit (.int .i64 (Jdv l p))):=by
 refine JE Tryz.func122 rfl Tryz.ntmps122 (rs:=[.tmp 4]) rfl (by simp) ?_;simp -implicitDefEqProofs (disch:=omega) only[Wz,seval];refine Jb5 l.length h.nx (fun i (_:Unit)=>⟨[(0,.vec (l.map Jy) fl),(1,.fn (.func fn) first cap),(7,.lit (.int .i64 l.length)),(8,.lit (.int .i64 i))],h,19⟩) (fun i _=>∀ y∈l.take i,p y=false) (fun _ _=>rfl) () (St.wk_slots (by simp[lk])) (by simp) (fun i _ hlt hno=>?_) (fun _ hno=>?_)
 ·have hx:=List.getElem?_eq_getElem hlt;generalize l[i]=x at hx;have gx:(l.map Jy).getD i []=Jy x:=JdZ Jy hx;simp -implicitDefEqProofs (disch:=omega) only[Wz,seval,gx,Jbt];refine JF hc (hp x (List.mem_of_getElem? hx)) ?_;rintro r h' ⟨rfl,rfl⟩;cases hpx:p x with
  | true =>
   obtain⟨e1,e2⟩:=Jhl hx hno hpx;have eiv:Jdv l p=(i:Int):=by unfold Jdv;rw[e1,e2];rfl
   simp -implicitDefEqProofs (disch:=omega) only[Wz,seval,eiv]
  | false =>
   simp -implicitDefEqProofs (disch:=omega) only[Wz,seval];exact⟨(),Je5 hx hno hpx,St.wk.cp (St.wk_slots (by simp[lk]))⟩
 ·have eiv:Jdv l p = -1:=by unfold Jdv;rw[Jhm hno];rfl
  simp -implicitDefEqProofs (disch:=omega) only[Wz,seval,eiv]
theorem Jqp(l:List Gd)(p:Gd->Bool)(fl:Bool)(hs:l.length<=2000000000)(fn:Nat)(first cap:List AV)(h:Hp)(hc:Je Pg fn)(hp:∀ t∈l,JaG Pg fn (first++[.agg (JaU t)]++cap) h (.lit (.bool (p t)))) :
  JaG Pg 126 [.vec (l.map JaU) fl,.fn (.func fn) first cap] h (.lit (.int .i64 (Jdv l p))):=by
 refine JE Tryz.func126 rfl Tryz.ntmps126 (rs:=[.tmp 4]) rfl (by simp) ?_;simp -implicitDefEqProofs (disch:=omega) only[Wz,seval];refine Jb5 l.length h.nx (fun i (_:Unit)=>⟨[(0,.vec (l.map JaU) fl),(1,.fn (.func fn) first cap),(7,.lit (.int .i64 l.length)),(8,.lit (.int .i64 i))],h,19⟩) (fun i _=>∀ y∈l.take i,p y=false) (fun _ _=>rfl) () (St.wk_slots (by simp[lk])) (by simp) (fun i _ hlt hno=>?_) (fun _ hno=>?_)
 ·have hx:=List.getElem?_eq_getElem hlt;generalize l[i]=x at hx;have gx:(l.map JaU).getD i []=JaU x:=JdZ JaU hx;simp -implicitDefEqProofs (disch:=omega) only[Wz,seval,gx,Jem];refine JF hc (hp x (List.mem_of_getElem? hx)) ?_;rintro r h' ⟨rfl,rfl⟩;cases hpx:p x with
  | true =>
   obtain⟨e1,e2⟩:=Jhl hx hno hpx;have eiv:Jdv l p=(i:Int):=by unfold Jdv;rw[e1,e2];rfl
   simp -implicitDefEqProofs (disch:=omega) only[Wz,seval,eiv]
  | false =>
   simp -implicitDefEqProofs (disch:=omega) only[Wz,seval];exact⟨(),Je5 hx hno hpx,St.wk.cp (St.wk_slots (by simp[lk]))⟩
 ·have eiv:Jdv l p = -1:=by unfold Jdv;rw[Jhm hno];rfl
  simp -implicitDefEqProofs (disch:=omega) only[Wz,seval,eiv]
theorem Jqq(l:List (Int × Int))(p:(Int × Int)->Bool)(fl:Bool)(hs:l.length<=2000000000)(fn:Nat)(first cap:List AV)(h:Hp)(hc:Je Pg fn)(hp:∀ t∈l,JaG Pg fn (first++[.agg (Jbb t)]++cap) h (.lit (.bool (p t)))) :
  JaG Pg 109 [.vec (l.map Jbb) fl,.fn (.func fn) first cap] h (.lit (.int .i64 (Jdv l p))):=by
 refine JE Tryz.func109 rfl Tryz.ntmps109 (rs:=[.tmp 4]) rfl (by simp) ?_;simp -implicitDefEqProofs (disch:=omega) only[Wz,seval];refine Jb5 l.length h.nx (fun i (_:Unit)=>⟨[(0,.vec (l.map Jbb) fl),(1,.fn (.func fn) first cap),(7,.lit (.int .i64 l.length)),(8,.lit (.int .i64 i))],h,19⟩) (fun i _=>∀ y∈l.take i,p y=false) (fun _ _=>rfl) () (St.wk_slots (by simp[lk])) (by simp) (fun i _ hlt hno=>?_) (fun _ hno=>?_)
 ·have hx:=List.getElem?_eq_getElem hlt;generalize l[i]=x at hx;have gx:(l.map Jbb).getD i []=Jbb x:=JdZ Jbb hx;simp -implicitDefEqProofs (disch:=omega) only[Wz,seval,gx,Jeo];refine JF hc (hp x (List.mem_of_getElem? hx)) ?_;rintro r h' ⟨rfl,rfl⟩;cases hpx:p x with
  | true =>
   obtain⟨e1,e2⟩:=Jhl hx hno hpx;have eiv:Jdv l p=(i:Int):=by unfold Jdv;rw[e1,e2];rfl
   simp -implicitDefEqProofs (disch:=omega) only[Wz,seval,eiv]
  | false =>
   simp -implicitDefEqProofs (disch:=omega) only[Wz,seval];exact⟨(),Je5 hx hno hpx,St.wk.cp (St.wk_slots (by simp[lk]))⟩
 ·have eiv:Jdv l p = -1:=by unfold Jdv;rw[Jhm hno];rfl
  simp -implicitDefEqProofs (disch:=omega) only[Wz,seval,eiv]
theorem JoF(l:List Orc)(p:Orc->Bool)(fl:Bool)(hs:l.length<=2000000000)(fn:Nat)(first cap:List AV)(h:Hp)(hc:Je Pg fn)(hp:∀ t∈l,JaG Pg fn (first++[.agg (Jct t)]++cap) h (.lit (.bool (p t)))) :
  JaG Pg 113 [.vec (l.map Jct) fl,.fn (.func fn) first cap] h (.lit (.int .i64 (Jdv l p))):=by
 refine JE Tryz.func113 rfl Tryz.ntmps113 (rs:=[.tmp 4]) rfl (by simp) ?_;simp -implicitDefEqProofs (disch:=omega) only[Wz,seval];refine Jb5 l.length h.nx (fun i (_:Unit)=>⟨[(0,.vec (l.map Jct) fl),(1,.fn (.func fn) first cap),(7,.lit (.int .i64 l.length)),(8,.lit (.int .i64 i))],h,19⟩) (fun i _=>∀ y∈l.take i,p y=false) (fun _ _=>rfl) () (St.wk_slots (by simp[lk])) (by simp) (fun i _ hlt hno=>?_) (fun _ hno=>?_)
 ·have hx:=List.getElem?_eq_getElem hlt;generalize l[i]=x at hx;have gx:(l.map Jct).getD i []=Jct x:=JdZ Jct hx;simp -implicitDefEqProofs (disch:=omega) only[Wz,seval,gx,Jen];refine JF hc (hp x (List.mem_of_getElem? hx)) ?_;rintro r h' ⟨rfl,rfl⟩;cases hpx:p x with
  | true =>
   obtain⟨e1,e2⟩:=Jhl hx hno hpx;have eiv:Jdv l p=(i:Int):=by unfold Jdv;rw[e1,e2];rfl
   simp -implicitDefEqProofs (disch:=omega) only[Wz,seval,eiv]
  | false =>
   simp -implicitDefEqProofs (disch:=omega) only[Wz,seval];exact⟨(),Je5 hx hno hpx,St.wk.cp (St.wk_slots (by simp[lk]))⟩
 ·have eiv:Jdv l p = -1:=by unfold Jdv;rw[Jhm hno];rfl
  simp -implicitDefEqProofs (disch:=omega) only[Wz,seval,eiv]
theorem JjD(l:List (Int × Int))(p:(Int × Int)->Bool)(fl:Bool)(hs:l.length<=2000000000)(fn:Nat)(first cap:List AV)(h:Hp)(hc:Je Pg fn)(hp:∀ t∈l,JaG Pg fn (first++[.agg (Jy t)]++cap) h (.lit (.bool (p t)))) :
  JaG Pg 102 [.vec (l.map Jy) fl,.fn (.func fn) first cap] h (.lit (.bool (l.any p))):=by
 refine JE Tryz.func102 rfl Tryz.ntmps102 (rs:=[.tmp 4]) rfl (by simp) ?_;simp -implicitDefEqProofs (disch:=omega) only[Wz,seval];refine JF JsK (JoE l p fl hs fn first cap h hc hp) ?_;rintro r h' ⟨rfl,rfl⟩;simp -implicitDefEqProofs (disch:=omega) only[Wa,tyW,seval,Jgt]
theorem Jck(l:List Gd)(p:Gd->Bool)(fl:Bool)(hs:l.length<=2000000000)(fn:Nat)(first cap:List AV)(h:Hp)(hc:Je Pg fn)(hp:∀ t∈l,JaG Pg fn (first++[.agg (JaU t)]++cap) h (.lit (.bool (p t)))) :
  JaG Pg 115 [.vec (l.map JaU) fl,.fn (.func fn) first cap] h (.lit (.bool (l.any p))):=by
 refine JE Tryz.func115 rfl Tryz.ntmps115 (rs:=[.tmp 4]) rfl (by simp) ?_;simp -implicitDefEqProofs (disch:=omega) only[Wz,seval];refine JF JsM (Jqp l p fl hs fn first cap h hc hp) ?_;rintro r h' ⟨rfl,rfl⟩;simp -implicitDefEqProofs (disch:=omega) only[Wa,tyW,seval,Jgt]
theorem JkK(l:List (Int × Int))(p:(Int × Int)->Bool)(fl:Bool)(hs:l.length<=2000000000)(fn:Nat)(first cap:List AV)(h:Hp)(hc:Je Pg fn)(hp:∀ t∈l,JaG Pg fn (first++[.agg (Jbb t)]++cap) h (.lit (.bool (p t)))) :
  JaG Pg 87 [.vec (l.map Jbb) fl,.fn (.func fn) first cap] h (.lit (.bool (l.any p))):=by
 refine JE Tryz.func87 rfl Tryz.ntmps87 (rs:=[.tmp 4]) rfl (by simp) ?_;simp -implicitDefEqProofs (disch:=omega) only[Wz,seval];refine JF JsE (Jqq l p fl hs fn first cap h hc hp) ?_;rintro r h' ⟨rfl,rfl⟩;simp -implicitDefEqProofs (disch:=omega) only[Wa,tyW,seval,Jgt]
def Jq(b:Bool):List AV:=[.lit (.bool b)]
theorem J9(p:Bool):∀ c∈Jq p,Ab.Pure c:=Jap (by simp[Jq])
theorem Js1(l:List Bool)(v:Bool)(fl:Bool)(hs:l.length<=2000000000):JO Pg 105 ([.vec (l.map Jq) fl]++Jq v) (.lit (.int .i64 (Jdv l fun x:Bool=>v==x))):=by
 refine Jm Tryz.func105 rfl Tryz.ntmps105 (rs:=[.tmp 4]) rfl (by simp[Jq]) ?_;simp -implicitDefEqProofs (disch:=omega) only[Wz,seval,Jq];refine Jb5 l.length 0 (fun i (_:Unit)=>⟨[(0,.vec (l.map Jq) fl),(7,.lit (.int .i64 l.length)),(8,.lit (.int .i64 i))]++(Jq v).map (fun c=>(1,c)),.none,19⟩) (fun i _=>∀ x∈l.take i,(v==x)=false) (fun _ _=>rfl) () (St.wk_slots (by simp[lk,Jq])) (by simp) (fun i _ hlt hno=>?_) (fun _ hno=>?_)
 ·have hx:=List.getElem?_eq_getElem hlt;generalize l[i]=x at hx;have gx:(l.map Jq).getD i []=Jq x:=JdZ Jq hx;simp -implicitDefEqProofs (disch:=omega) only[Wz,seval,gx,Jq];cases hpx:(v==x) with
  | true =>
   obtain⟨e1,e2⟩:=Jhl (p:=fun x:Bool=>v==x) hx hno hpx;have eiv:Jdv l (fun x:Bool=>v==x)=(i:Int):=by unfold Jdv;rw[e1,e2];rfl
   simp -implicitDefEqProofs (disch:=omega) only[Wz,seval,eiv];exact Ja (.lit _)
  | false =>
   simp -implicitDefEqProofs (disch:=omega) only[Wz,seval];exact⟨(),Je5 (p:=fun x:Bool=>v==x) hx hno hpx,St.wk.cp (St.wk_slots (by simp[lk,Jq]))⟩
 ·have eiv:Jdv l (fun x:Bool=>v==x) = -1:=by unfold Jdv;rw[Jhm (p:=fun x:Bool=>v==x) hno];rfl
  simp -implicitDefEqProofs (disch:=omega) only[Wz,seval,eiv,Jq];exact Ja (.lit _)
theorem Jmx(l:List Bool)(v:Bool)(fl:Bool)(hs:l.length<=2000000000):JO Pg 83 ([.vec (l.map Jq) fl]++Jq v) (.lit (.bool (l.any fun x:Bool=>v==x))):=by
 refine Jm Tryz.func83 rfl Tryz.ntmps83 (rs:=[.tmp 4]) rfl (by simp[Jq]) ?_;simp -implicitDefEqProofs (disch:=omega) only[Wz,seval,Jq];refine Jf JsD (Js1 l v fl hs) (Jb (.vec (Ji J9 _)) (Jb (.lit _) Jl)) (.lit _) ?_;simp -implicitDefEqProofs (disch:=omega) only[Wa,tyW,seval,Jgt];exact Ja (.lit _)
theorem Jqr(l:List ByteArray)(v:ByteArray)(fl:Bool)(hs:l.length<=2000000000):JO Pg 139 ([.vec (l.map JaD) fl]++JaD v) (.lit (.int .i64 (Jdv l fun x:ByteArray=>v.toList==x.toList))):=by
 refine Jm Tryz.func139 rfl Tryz.ntmps139 (rs:=[.tmp 4]) rfl (by simp[JaD]) ?_;simp -implicitDefEqProofs (disch:=omega) only[Wz,seval,JaD];refine Jb5 l.length 0 (fun i (_:Unit)=>⟨[(0,.vec (l.map JaD) fl),(7,.lit (.int .i64 l.length)),(8,.lit (.int .i64 i))]++(JaD v).map (fun c=>(1,c)),.none,19⟩) (fun i _=>∀ x∈l.take i,(v.toList==x.toList)=false) (fun _ _=>rfl) () (St.wk_slots (by simp[lk,JaD])) (by simp) (fun i _ hlt hno=>?_) (fun _ hno=>?_)
 ·have hx:=List.getElem?_eq_getElem hlt;generalize l[i]=x at hx;have gx:(l.map JaD).getD i []=JaD x:=JdZ JaD hx;simp -implicitDefEqProofs (disch:=omega) only[Wz,seval,gx,JaD];cases hpx:(v.toList==x.toList) with
  | true =>
   obtain⟨e1,e2⟩:=Jhl (p:=fun x:ByteArray=>v.toList==x.toList) hx hno hpx;have eiv:Jdv l (fun x:ByteArray=>v.toList==x.toList)=(i:Int):=by unfold Jdv;rw[e1,e2];rfl
   simp -implicitDefEqProofs (disch:=omega) only[Wz,seval,eiv];exact Ja (.lit _)
  | false =>
   simp -implicitDefEqProofs (disch:=omega) only[Wz,seval];exact⟨(),Je5 (p:=fun x:ByteArray=>v.toList==x.toList) hx hno hpx,St.wk.cp (St.wk_slots (by simp[lk,JaD]))⟩
 ·have eiv:Jdv l (fun x:ByteArray=>v.toList==x.toList) = -1:=by unfold Jdv;rw[Jhm (p:=fun x:ByteArray=>v.toList==x.toList) hno];rfl
  simp -implicitDefEqProofs (disch:=omega) only[Wz,seval,eiv,JaD];exact Ja (.lit _)
theorem JkL(l:List ByteArray)(v:ByteArray)(fl:Bool)(hs:l.length<=2000000000):JO Pg 136 ([.vec (l.map JaD) fl]++JaD v) (.lit (.bool (l.any fun x:ByteArray=>v.toList==x.toList))):=by
 refine Jm Tryz.func136 rfl Tryz.ntmps136 (rs:=[.tmp 4]) rfl (by simp[JaD]) ?_;simp -implicitDefEqProofs (disch:=omega) only[Wz,seval,JaD];refine Jf JsX (Jqr l v fl hs) (Jb (.vec (Ji Jak _)) (Jb (.lit _) Jl)) (.lit _) ?_;simp -implicitDefEqProofs (disch:=omega) only[Wa,tyW,seval,Jgt];exact Ja (.lit _)
def Jcl(c:Int):Bool:=(decide (c >= 97) && decide (c<=122)) || (decide (c >= 65) && decide (c<=90))
def Jgu(c:Int):Bool:=decide (c >= 48) && decide (c<=57)
def JbZ(c:Int):Bool:=Jcl c || (Jgu c || c==95)
theorem Jgv(c:Int):JO Pg 133 [.lit (.int .u8 c)] (.lit (.bool (Jcl c))):=by
  refine Jm Tryz.func133 rfl Tryz.ntmps133 (rs:=[.tmp 2]) rfl (by simp) ?_;unfold Jcl;by_cases h1:c >= 97 <;> by_cases h2:c<=122 <;> by_cases h3:c >= 65 <;> by_cases h4:c<=90 <;> first
    | omega
    | (simp -implicitDefEqProofs (disch:=omega) only[Wz,seval,Bool.and_true,Bool.true_and,Bool.or_true,Bool.true_or,Bool.false_or,Bool.or_false,Bool.and_false,Bool.false_and]
       exact Ja (.lit _))
theorem Jmy(c:Int):JO Pg 138 [.lit (.int .u8 c)] (.lit (.bool (Jgu c))):=by
  refine Jm Tryz.func138 rfl Tryz.ntmps138 (rs:=[.tmp 2]) rfl (by simp) ?_;unfold Jgu;by_cases h1:c >= 48 <;> by_cases h2:c<=57 <;> first
    | omega
    | (simp -implicitDefEqProofs (disch:=omega) only[Wz,seval,Bool.and_true,Bool.true_and,Bool.or_true,Bool.true_or,Bool.false_or,Bool.or_false,Bool.and_false,Bool.false_and]
       exact Ja (.lit _))
theorem JkM(c:Int):JO Pg 135 [.lit (.int .u8 c)] (.lit (.bool (JbZ c))):=by
 refine Jm Tryz.func135 rfl Tryz.ntmps135 (rs:=[.tmp 2]) rfl (by simp) ?_;unfold JbZ;simp -implicitDefEqProofs (disch:=omega) only[Wz,seval];refine Jf JoB (Jgv c) (Jb (.lit _) Jl) (.lit _) ?_;cases Jcl c with
 | true =>
  simp -implicitDefEqProofs (disch:=omega) only[Wz,seval,Bool.true_or];exact Ja (.lit _)
 | false =>
  simp -implicitDefEqProofs (disch:=omega) only[Wz,seval];refine Jf JsW (Jmy c) (Jb (.lit _) Jl) (.lit _) ?_;cases Jgu c with
  | true =>
   simp -implicitDefEqProofs (disch:=omega) only[Wz,seval,Bool.true_or,Bool.or_true,Bool.false_or];exact Ja (.lit _)
  | false =>
   simp -implicitDefEqProofs (disch:=omega) only[Wz,seval,Bool.false_or];exact Ja (.lit _)
def Jc0(s:ByteArray)(i:Nat):Int:=((s.data.getD i 0).toNat:Int)
def JcB(s:ByteArray)(p:Int->Bool):Nat:=(s.data.toList.takeWhile fun b=>p (b.toNat:Int)).length
theorem Jft{l:List UInt8}{p:Int->Bool}{i:Nat}(h:i<=(l.takeWhile fun b=>p (b.toNat:Int)).length):(if hi:i<l.length then p ((l[i]).toNat:Int) else false)=decide (i<(l.takeWhile fun b=>p (b.toNat:Int)).length):=by
 induction l generalizing i with
 | nil=>simp
 | cons b l ih =>
  by_cases hb:p (b.toNat:Int)=true
  ·rw[List.takeWhile_cons_of_pos (by simpa using hb)] at h ⊢;cases i with
   | zero=>simp[hb]
   | succ i =>
    have:=ih (i:=i) (by simpa using h);simp only[List.length_cons,Nat.add_lt_add_iff_right,List.getElem_cons_succ];exact this
  ·rw[List.takeWhile_cons_of_neg (by simpa using hb)] at h ⊢;have:i=0:=by simpa using h
   subst this;simp at hb;simp[hb]
theorem Jmz(s:ByteArray)(p:Int->Bool)(hs:s.size<=9000000000000000000)(fn:Nat)(hc:Je Pg fn)(hp:∀ c,JO Pg fn [.lit (.int .u8 c)] (.lit (.bool (p c)))) :
  JO Pg 134 [.lit (.string s),.fn (.func fn) [] []] (.lit (.int .i64 (JcB s p))):=by
 refine Jm Tryz.func134 rfl Tryz.ntmps134 (rs:=[.tmp 4]) rfl (by simp) ?_;simp -implicitDefEqProofs (disch:=omega) only[Wz,seval];have hle:JcB s p<=s.size:=by unfold JcB;exact Nat.le_trans (List.takeWhile_sublist _).length_le (by rw[Array.length_toList];exact Nat.le_refl _)
 refine Jb5 (JcB s p) 0 (fun i (_:Unit)=>⟨[(5,.lit (.int .i64 i)),(0,.lit (.string s)),(1,.fn (.func fn) [] [])],.none,20⟩) (fun _ _=>True) (fun _ _=>rfl) () (St.wk_slots (by simp[lk])) trivial (fun i _ hlt _=>?_) (fun _ _=>?_)
 ·have hi:i<s.size:=by omega
  have gb:s[i]? = some s[i]:=getElem?_pos s i hi;have pb:p ((s[i]).toNat:Int)=true:=by
   have:=Jft (l:=s.data.toList) (p:=p) (i:=i) (Nat.le_of_lt hlt);rw[dif_pos (by rw[Array.length_toList];exact hi)] at this;have e:s.data.toList[i]'(by rw[Array.length_toList];exact hi)=s[i]:=by rw[Array.getElem_toList];rfl
   rw[e] at this;rw[this];exact decide_eq_true hlt
  simp -implicitDefEqProofs (disch:=omega) only[Wz,seval,gb];refine Jf hc (hp _) (Jb (.lit _) Jl) (.lit _) ?_;simp -implicitDefEqProofs (disch:=omega) only[Wz,seval,pb];exact⟨(),St.wk.cp (St.wk_slots (by simp[lk]))⟩
 ·by_cases hi:JcB s p<s.size
  ·have gb:s[JcB s p]? = some s[JcB s p]:=getElem?_pos s _ hi;have pb:p ((s[JcB s p]).toNat:Int)=false:=by
    have:=Jft (l:=s.data.toList) (p:=p) (i:=JcB s p) (Nat.le_refl _);rw[dif_pos (by rw[Array.length_toList];exact hi)] at this;have e:s.data.toList[JcB s p]'(by rw[Array.length_toList];exact hi)=s[JcB s p]:=by rw[Array.getElem_toList];rfl
    rw[e] at this;rw[this];exact decide_eq_false (Nat.lt_irrefl _)
   simp -implicitDefEqProofs (disch:=omega) only[Wz,seval,gb];refine Jf hc (hp _) (Jb (.lit _) Jl) (.lit _) ?_;simp -implicitDefEqProofs (disch:=omega) only[Wz,seval,pb];exact Ja (.lit _)
  ·simp -implicitDefEqProofs (disch:=omega) only[Wz,seval];exact Ja (.lit _)
def Jhn:List AV:=[.lit (.string ⟨#[]⟩),.lit (.string ⟨#[]⟩),.lit (.string ⟨#[]⟩),.lit (.string ⟨#[]⟩),.lit (.string ⟨#[]⟩),.lit (.string ⟨#[]⟩),.lit (.string ⟨#[]⟩),.lit (.string ⟨#[]⟩),.lit (.string ⟨#[]⟩),.lit (.string ⟨#[]⟩),
 .lit (.string ⟨#[105,110,100,101,120]⟩),.lit (.string ⟨#[99,111,108,117,109,110]⟩),.lit (.string ⟨#[108,97]⟩),.lit (.string ⟨#[109,111,100,101]⟩),.lit (.string ⟨#[]⟩)]
def JmA:List ByteArray:=[⟨#[105,110,100,101,120]⟩,⟨#[99,111,108,117,109,110]⟩,⟨#[108,97]⟩,⟨#[109,111,100,101]⟩]
theorem Jgw:∀ c∈Jhn,Ab.Pure c:=Jap (by simp[Jhn])
theorem JmB:JO Pg 140 [] (.agg Jhn):=by
 refine Jm Tryz.func140 rfl Tryz.ntmps140 (rs:=[.cell 0 224]) rfl (by simp) ?_;simp -implicitDefEqProofs (disch:=omega) only[Wz,seval];exact Ja (.agg Jgw)
theorem JoG:JO Pg 137 [] (.vec (JmA.map JaD) false):=by
 refine Jm Tryz.func137 rfl Tryz.ntmps137 (rs:=[.tmp 0]) rfl (by simp) ?_;simp -implicitDefEqProofs (disch:=omega) only[Wz,seval];refine Jf JsY JmB Jl (.agg Jgw) ?_;simp -implicitDefEqProofs (disch:=omega) only[Wz,seval,Jhn];refine Jsm (σ':=⟨[(1,.np Jhn),(0,.vec [] true)],⟨[],[],1⟩,4⟩) (St.wk_box (id:=0) (cs:=Jhn) rfl rfl rfl (fun g g' x c p hp=>?_) (fun g g' x c p hp=>by cases hp) (fun g p hp=>by cases hp)) (Jja (v:=.vec (JmA.map JaD) false) ?_ ?_)
 ·simp only[List.mem_cons,List.not_mem_nil,or_false] at hp;rcases hp with rfl | rfl
  ·exact⟨_,rfl,c⟩
  ·exact⟨_,rfl,JC x _⟩
 ·rfl
 ·simp -implicitDefEqProofs (disch:=omega) only[Wz,seval];exact Ja (.vec (Ji Jak _))
def JlF (op:Int):AV:=if op=5 then .fn (.func 127) [] [] else if op=6 then .fn (.func 128) [] [] else if op=7 then .fn (.func 129) [] [] else .lit .nilFunc
theorem Jgx(op:Int):Ab.Pure (JlF op):=by
 unfold JlF;split
 ·exact .fn Jl Jl
 ·split
  ·exact .fn Jl Jl
  ·split
   ·exact .fn Jl Jl
   ·exact .lit _
theorem JeL(op:Int)(lo : -128<=op)(hi:op<=127):JO Pg 118 [.lit (.int .i8 op)] (JlF op):=by
 refine Jm Tryz.func118 rfl Tryz.ntmps118 (rs:=[.tmp 2]) rfl (by simp) ?_;simp -implicitDefEqProofs (disch:=omega) only[Wz,seval];by_cases h0:op<0
 ·have e:JlF op = .lit .nilFunc:=by unfold JlF;rw[if_neg (by omega),if_neg (by omega),if_neg (by omega)]
  simp -implicitDefEqProofs (disch:=omega) only[Wz,seval,e];exact Ja (.lit _)
 ·by_cases h8:op >= 8
  ·have e:JlF op = .lit .nilFunc:=by unfold JlF;rw[if_neg (by omega),if_neg (by omega),if_neg (by omega)]
   simp -implicitDefEqProofs (disch:=omega) only[Wz,seval,e];exact Ja (.lit _)
  ·rcases(by omega:op=0\/op=1\/op=2\/op=3\/op=4\/op=5\/op=6\/op=7) with rfl | rfl | rfl | rfl | rfl | rfl | rfl | rfl;all_goals
    simp -implicitDefEqProofs (disch:=omega) only[Wz,seval];have key:∀ h op,JcS h (JlF op) (JlF op):=fun h op=>Ja (Jgx op);first | exact key _ 0 | exact key _ 5 | exact key _ 6 | exact key _ 7
def sEq (a b:ByteArray):Bool:=a.toList==b.toList
def Jqs(s:ByteArray):Bool:=sEq s ⟨#[116,114,117,101]⟩ || (sEq s ⟨#[102,97,108,115,101]⟩ || sEq s ⟨#[111,114,97,99,108,101]⟩)
def Jho(s:ByteArray):Bool:=if s.size=0 then false else if s.size > 40 then false else if Jcl (Jc0 s 0)=false then false else if JcB s JbZ<s.size then false else if Jqs s then false else !(JmA.any fun x=>s.toList==x.toList)
theorem JbR{s:ByteArray}:(s.toList==(⟨#[]⟩:ByteArray).toList)=decide (s.size=0):=by
 rw[<- beq_toListBytes,Bool.eq_iff_iff,decide_eq_true_iff];constructor
 ·intro h;rw[JA h];rfl
 ·intro h;have:s=⟨#[]⟩:=by
   obtain⟨d⟩:=s;have h:d.size=0:=h;rw[Array.size_eq_zero_iff] at h;rw[h]
  rw[this];exact Jg9 _
theorem JmC(s:ByteArray)(hs:s.size<=9000000000000000000):JO Pg 132 [.lit (.string s)] (.lit (.bool (Jho s))):=by
 refine Jm Tryz.func132 rfl Tryz.ntmps132 (rs:=[.tmp 2]) rfl (by simp) ?_;simp -implicitDefEqProofs (disch:=omega) only[Wz,seval,JbR];unfold Jho;by_cases h0:s.size=0
 ·simp -implicitDefEqProofs (disch:=omega) only[Wz,seval];exact Ja (.lit _)
 have gb:s[0]? = some s[0]:=getElem?_pos s 0 (by omega);have eb:((s[0]).toNat:Int)=Jc0 s 0:=by unfold Jc0;rw[Array.getD_eq_getD_getElem?,Array.getElem?_eq_getElem (show 0<s.data.size from Nat.pos_of_ne_zero h0)];rfl
 have gb':(s[Int.toNat 0]?)=some s[0]:=gb;by_cases h1:s.size > 40
 ·simp -implicitDefEqProofs (disch:=omega) only[Wz,seval];exact Ja (.lit _)
 simp -implicitDefEqProofs (disch:=omega) only[Wz,seval,gb',gb];refine Jf JoB (Jgv _) (Jb (.lit _) Jl) (.lit _) ?_;rw[eb];cases hlt:Jcl (Jc0 s 0) with
 | false =>
  simp -implicitDefEqProofs (disch:=omega) only[Wz,seval];exact Ja (.lit _)
 | true =>
  simp -implicitDefEqProofs (disch:=omega) only[Wz,seval];refine Jf JsS (Jmz s JbZ hs 135 JsT JkM) (Jb (.lit _) (Jb (.fn Jl Jl) Jl)) (.lit _) ?_;by_cases hw:JcB s JbZ<s.size
  ·simp -implicitDefEqProofs (disch:=omega) only[Wz,seval];exact Ja (.lit _)
  simp -implicitDefEqProofs (disch:=omega) only[Wz,seval];unfold Jqs sEq;generalize hb1:(s.toList==(⟨#[116,114,117,101]⟩:ByteArray).toList)=b1;generalize hb2:(s.toList==(⟨#[102,97,108,115,101]⟩:ByteArray).toList)=b2;generalize hb3:(s.toList==(⟨#[111,114,97,99,108,101]⟩:ByteArray).toList)=b3;have fin:∀ b:Bool,JcS ⟨[],[],0⟩ (.lit (.bool b)) (.lit (.bool b)):=fun b=>Ja (.lit _);cases b1 <;> cases b2 <;> cases b3
  case false.false.false =>
   simp -implicitDefEqProofs (disch:=omega) only[Wz,seval,hb1,hb2,hb3,Bool.false_or,Bool.false_eq_true];refine Jf JsV JoG Jl (.vec (Ji Jak _)) ?_;simp -implicitDefEqProofs (disch:=omega) only[Wz,seval];refine Jf JsU (JkL JmA s false (by decide)) (Jb (.vec (Ji Jak _)) (Jb (.lit _) Jl)) (.lit _) ?_;simp -implicitDefEqProofs (disch:=omega) only[Wz,seval];exact fin _
  all_goals
   simp -implicitDefEqProofs (disch:=omega) only[Wz,seval,hb1,hb2,hb3,Bool.false_or,Bool.true_or,Bool.false_eq_true];exact fin _
mutual
def Jcy:Gd->Int
 | .mk _ _ _ kids=>sizeGs 1 kids
def sizeGs:Int->List Gd->Int
 | n,[]=>n
 | n,k :: l=>sizeGs (min (n+Jcy k) 2147483647) l
end
def JjE (g:Gd):Bool:=if g.kids.length > 0 then false else if g.op.1<9 then false else if g.op.1 > 14 then false else
 if g.op.1=9 then sEq g.name ⟨#[]⟩ && (decide (g.n<1000000000000000000) && decide (g.n > -1000000000000000000)) else if g.op.1=14 then decide (g.n=0) && Jho g.name else sEq g.name ⟨#[]⟩ && decide (g.n=0)
theorem JkN(g:Gd)(hs:g.name.size<=9000000000000000000)(hg:g.kids.length<=2000000000):JO Pg 125 [.agg (JaU g)] (.lit (.bool (JjE g))):=by
 refine Jm Tryz.func125 rfl Tryz.ntmps125 (rs:=[.tmp 2]) rfl (by simp) ?_;simp -implicitDefEqProofs (disch:=omega) only[Wz,seval,Jw];unfold JjE;by_cases h1:g.kids.length > 0
 ·simp -implicitDefEqProofs (disch:=omega) only[Wz,seval];exact Ja (.lit _)
 by_cases h2:g.op.1<9
 ·simp -implicitDefEqProofs (disch:=omega) only[Wz,seval];exact Ja (.lit _)
 by_cases h3:g.op.1 > 14
 ·simp -implicitDefEqProofs (disch:=omega) only[Wz,seval];exact Ja (.lit _)
 have fin:∀ h (b:Bool),JcS h (.lit (.bool b)) (.lit (.bool b)):=fun h b=>Ja (.lit _);by_cases h4:g.op.1=9
 ·simp -implicitDefEqProofs (disch:=omega) only[Wz,seval];unfold sEq;generalize (g.name.toList==(⟨#[]⟩:ByteArray).toList)=b1;by_cases h5:g.n<1000000000000000000 <;> by_cases h6:g.n > -1000000000000000000 <;> cases b1
  all_goals
   simp -implicitDefEqProofs (disch:=omega) only[Wz,seval,Bool.true_and,Bool.false_and,Bool.and_true,Bool.and_false];exact fin _ _
 by_cases h5:g.op.1=14
 ·by_cases h6:g.n=0
  ·simp -implicitDefEqProofs (disch:=omega) only[Wz,seval,Bool.true_and];refine Jf JsR (JmC g.name hs) (Jb (.lit _) Jl) (.lit _) ?_;simp -implicitDefEqProofs (disch:=omega) only[Wz,seval];exact fin _ _
  ·simp -implicitDefEqProofs (disch:=omega) only[Wz,seval,Bool.false_and];exact fin _ _
 simp -implicitDefEqProofs (disch:=omega) only[Wz,seval];unfold sEq;generalize (g.name.toList==(⟨#[]⟩:ByteArray).toList)=b1;by_cases h6:g.n=0 <;> cases b1
 all_goals
  simp -implicitDefEqProofs (disch:=omega) only[Wz,seval,Bool.true_and,Bool.false_and,Bool.and_true,Bool.and_false];exact fin _ _
theorem JoH(g:Gd)(hs:g.name.size<=9000000000000000000)(hg:g.kids.length<=2000000000):Ja3 Pg 125 [.agg (JaU g)] (.lit (.bool (JjE g))):=.of_pure (JkN g hs hg) (Jb (.agg (JN g)) Jl) (.lit _)
theorem Jgy:∀ (g:Gd),1<=Jcy g/\Jcy g<=2147483647:=fun g=>by
 have main:∀ (l:List Gd) (n:Int),(∀ k∈l,1<=Jcy k)->1<=n->n<=2147483647->1<=sizeGs n l/\sizeGs n l<=2147483647:=by
  intro l;induction l with
  | nil=>intro n _ h1 h2;exact⟨h1,h2⟩
  | cons k l ih =>
   intro n hk h1 h2;simp only[sizeGs];have:=hk k (by simp);exact ih _ (fun x hx=>hk x (by simp[hx])) (by omega) (by omega)
 have pos:∀ (m:Nat) (g:Gd),gsz g<=m->1<=Jcy g:=by
  intro m;induction m with
  | zero=>intro g h;have:=JcF g;omega
  | succ m ih =>
   intro g h;obtain⟨op,n,nm,kids⟩:=g;simp only[Jcy];exact(main kids 1 (fun k hk=>ih k (by have:=Jbg (g:=.mk op n nm kids) (k:=k) hk;omega)) (by decide) (by decide)).1
 obtain⟨op,n,nm,kids⟩:=g;simp only[Jcy];exact main kids 1 (fun k hk=>pos _ k (Nat.le_refl _)) (by decide) (by decide)
theorem Jgz(l:List Gd)(n:Int)(k:Gd):sizeGs n (l++[k])=min (sizeGs n l+Jcy k) 2147483647:=by
 induction l generalizing n with
 | nil=>rfl
 | cons x l ih=>simp only[List.cons_append,sizeGs];exact ih _
theorem JlG(g:Gd):Jcy g=sizeGs 1 g.kids:=by cases g;rfl
theorem Jhp(l:List Gd):1<=sizeGs 1 l/\sizeGs 1 l<=2147483647:=Jgy (.mk default 0 ⟨#[]⟩ l)
def szS (g:Gd)(i:Nat)(_:Unit):St:=⟨[(9,.lit (.int .i64 (i:Int))),(8,.lit (.int .i64 (g.kids.length:Int))),(7,.vec (g.kids.map JaU) false),(3,.lit (.int .i64 (sizeGs 1 (g.kids.take i))))],⟨[],[],1⟩,20⟩
theorem JjF:∀ (m:Nat) (g:Gd),gsz g<=m->m<=2000000000->JO Pg 110 [.agg (JaU g)] (.lit (.int .i64 (Jcy g)))
 | 0,g,h,_=>by have:=JcF g;omega
 | m+1,g,h,hm=>by
  have hl:=Jbv g;refine Jm Tryz.func110 rfl Tryz.ntmps110 (rs:=[.tmp 2]) rfl (by simp) ?_;simp -implicitDefEqProofs (disch:=omega) only[Wz,seval,Jw];refine Jb5 g.kids.length 1 (szS g) (fun _ _=>True) (fun _ _=>rfl) () (St.wk_slots1 (by simp[lk,sizeGs]) (by simp[lk]) (by simp[lk])) trivial (fun i _ hlt _=>?_) (fun _ _=>?_)
  ·have hk:=Jt (l:=g.kids) hlt;have ih:=JjF m (g.kids.getD i default) (by have:=Jbg hk;omega) (by omega);have r1:=Jgy (g.kids.getD i default);have r2:=Jhp (g.kids.take i);have nx:sizeGs 1 (g.kids.take (i+1))=min (sizeGs 1 (g.kids.take i)+Jcy (g.kids.getD i default)) 2147483647:=by
    rw[List.take_add_one,JfQ hlt,Option.toList_some,Jgz]
   have mn:(if (2147483647:Int)<sizeGs 1 (g.kids.take i)+Jcy (g.kids.getD i default) then 2147483647 else sizeGs 1 (g.kids.take i)+Jcy (g.kids.getD i default))=min (sizeGs 1 (g.kids.take i)+Jcy (g.kids.getD i default)) 2147483647:=by omega
   simp -implicitDefEqProofs (disch:=omega) only[Wz,seval,szS];refine Jf Jos ih (Jb (.agg (JN _)) Jl) (.lit _) ?_;simp -implicitDefEqProofs (disch:=omega) only[Wa,tyW,seval,tyW,Jdi,mn];refine⟨(),?_⟩;rw[<- nx];exact Jbc (Nat.le_refl _) (by show 1<=2;decide) rfl (Jb ⟨by simp[lk],.pure (.lit _)⟩ (Jb ⟨by simp[lk],.pure (.lit _)⟩ (Jb ⟨by simp[lk],.pure (.vec (Ji JN _))⟩ (Jb ⟨by simp[lk],.pure (.lit _)⟩ Jl)))) Jl Jl
  ·simp -implicitDefEqProofs (disch:=omega) only[Wz,seval,szS,List.take_length];rw[<- JlG];exact Ja (.lit _)
mutual
def JaM:Gd->Bool
 | .mk op n name kids =>
  if sEq name ⟨#[]⟩=false then false else if op.1≠8/\n≠0 then false
  else if op.1=0\/op.1=1 then decide (kids.length=0)
  else if op.1=8 then decide (kids.length=0) && (decide (n<1000000000000000000) && decide (n > -1000000000000000000))
  else if op.1=2 then decide (kids.length=1) && condGs kids
  else if op.1=3\/op.1=4 then decide (kids.length >= 2) && condGs kids
  else decide (5<=op.1/\op.1<=7) && (decide (kids.length=2) && kids.all JjE)
def condGs:List Gd->Bool
 | []=>true
 | g :: l=>JaM g && condGs l
end
theorem JoI(l:List Gd):condGs l=l.all JaM:=by induction l with | nil=>rfl | cons x l ih=>simp[condGs,ih]
theorem Jib(g:Gd):JaM g=if sEq g.name ⟨#[]⟩=false then false else if g.op.1≠8/\g.n≠0 then false
  else if g.op.1=0\/g.op.1=1 then decide (g.kids.length=0)
  else if g.op.1=8 then decide (g.kids.length=0) && (decide (g.n<1000000000000000000) && decide (g.n > -1000000000000000000))
  else if g.op.1=2 then decide (g.kids.length=1) && g.kids.all JaM
  else if g.op.1=3\/g.op.1=4 then decide (g.kids.length >= 2) && g.kids.all JaM
  else decide (5<=g.op.1/\g.op.1<=7) && (decide (g.kids.length=2) && g.kids.all JjE):=by
 obtain⟨op,n,name,kids⟩:=g;rw[JaM,JoI];rfl
inductive Jnq:Gd->Prop
 | mk {g:Gd}:g.name.size<=9000000000000000000->(∀ k∈g.kids,Jnq k)->Jnq g
theorem Jee:∀ (m:Nat) (g:Gd),gsz g<=m->m<=2000000000->Jnq g->Ja3 Pg 111 [.agg (JaU g)] (.lit (.bool (JaM g)))
  | 0,g,h,_,_=>by have:=JcF g;omega
  | m+1,g,h,hm,hok=>by
    have hl:=Jbv g;have ih:∀ k∈g.kids,Ja3 Pg 111 [.agg (JaU k)] (.lit (.bool (JaM k))):=fun k hk=>Jee m k (by have:=Jbg hk;omega) (by omega) (by cases hok with | mk _ h2=>exact h2 k hk);have gpk:∀ k,∀ v∈[AV.agg (JaU k)],GP v:=fun k=>Jb (.of_pure (.agg (JN k))) Jl;have w1:∀ k∈g.kids,Ja3 Pg 124 [.agg (JaU k)] (.lit (.bool !(JaM k))):=fun k hk=>by
      refine J5 (JE Tryz.func124 rfl Tryz.ntmps124 (rs:=[.tmp 2]) rfl (by simp) ?_);simp -implicitDefEqProofs (disch:=omega) only[Wz,seval];refine JT Jot (ih k hk) (gpk k) (.lit _) ?_;simp -implicitDefEqProofs (disch:=omega) only[Wz,seval];exact Jat (.lit _)
    refine J5 (JE Tryz.func111 rfl Tryz.ntmps111 (rs:=[.tmp 2]) rfl (by simp) ?_);simp -implicitDefEqProofs (disch:=omega) only[Wz,seval,Jw];rw[Jib];have fin:∀ h (b:Bool),Jd6 h (.lit (.bool b)) (.lit (.bool b)):=fun h b=>Jat (.lit _);have hsE:(g.name.toList==(⟨#[]⟩:ByteArray).toList)=sEq g.name ⟨#[]⟩:=rfl;cases hE:sEq g.name ⟨#[]⟩ with
    | false =>
      simp -implicitDefEqProofs (disch:=omega) only[Wz,seval,hsE,hE];exact fin _ _
    | true =>
    by_cases h1:g.op.1≠8/\g.n≠0
    · simp -implicitDefEqProofs (disch:=omega) only[Wz,seval,hsE,hE]
      exact fin _ _
    have bools:∀ b:Bool,(b && true)=b/\(true && b)=b/\(b && false)=false/\(false && b)=false:=fun b=>by cases b <;> decide
    by_cases h2:g.op.1=8
    · by_cases h3:g.kids.length=0 <;> by_cases h4:g.n<1000000000000000000 <;> by_cases h5:g.n > -1000000000000000000
      all_goals first
        | omega
        | (simp -implicitDefEqProofs (disch:=omega) only[Wz,seval,hsE,hE,bools]
           exact fin _ _)
    by_cases h3:g.op.1=0
    · by_cases h4:g.kids.length=0
      all_goals
        simp -implicitDefEqProofs (disch:=omega) only[Wz,seval,hsE,hE,bools];exact fin _ _
    by_cases h4:g.op.1=1
    · by_cases h4:g.kids.length=0
      all_goals
        simp -implicitDefEqProofs (disch:=omega) only[Wz,seval,hsE,hE,bools];exact fin _ _
    by_cases h5:g.op.1=2
    · by_cases h6:g.kids.length=1
      · obtain⟨k,hk⟩:∃ k,g.kids=[k]:=by
          match hq:g.kids,h6 with
          | [k],_=>exact⟨k,rfl⟩
        have hkm:k∈g.kids:=by rw[hk];simp
        have gk:g.kids.getD 0 default=k:=by rw[hk];rfl
        have ea:g.kids.all JaM=JaM k:=by rw[hk];simp
        rw[ea];simp -implicitDefEqProofs (disch:=omega) only[Wz,seval,hsE,hE,bools,gk];refine JT Joy (w1 k hkm) (gpk k) (.lit _) ?_;cases JaM k;all_goals
          simp -implicitDefEqProofs (disch:=omega) only[Wz,seval,bools];exact fin _ _
      · simp -implicitDefEqProofs (disch:=omega) only[Wz,seval,hsE,hE,bools]
        exact fin _ _
    have hany:(g.kids.any fun k => !(JaM k)) = !(g.kids.all JaM):=by rw[List.not_all_eq_any_not]
    by_cases h6:g.op.1=3\/g.op.1=4
    · by_cases h7:g.kids.length >= 2
      · have hct:=Jck g.kids (fun k => !(JaM k)) false (by omega) 124 [] [] ⟨[(0,[.lit (.int .i8 g.op.1),.lit (.int .i64 g.n),.lit (.string g.name),.vec (g.kids.map JaU) false])],[],1⟩ Joy (fun k hk=>(w1 k hk).at (gpk k) (.lit _) _)
        rw[hany] at hct;rcases h6 with h6 | h6
        all_goals
          simp -implicitDefEqProofs (disch:=omega) only[Wz,seval,hsE,hE,bools];refine JF Jgl hct ?_;rintro r h' ⟨rfl,rfl⟩;cases g.kids.all JaM;all_goals
            simp -implicitDefEqProofs (disch:=omega) only[Wz,seval,bools];exact fin _ _
      · rcases h6 with h6 | h6
        all_goals
          simp -implicitDefEqProofs (disch:=omega) only[Wz,seval,hsE,hE,bools];exact fin _ _
    simp -implicitDefEqProofs (disch:=omega) only[Wz,seval,hsE,hE,bools];refine Jf Jov (JeL g.op.1 g.op.lo g.op.hi) (Jb (.lit _) Jl) (Jgx _) ?_;by_cases h7:5<=g.op.1/\g.op.1<=7
    · obtain⟨fid,hf⟩:∃ fid,JlF g.op.1 = .fn (.func fid) [] []:=by
        unfold JlF;rcases(by omega:g.op.1=5\/g.op.1=6\/g.op.1=7) with h | h | h <;> rw[h] <;> exact⟨_,rfl⟩
      rw[hf];have ok2:∀ k∈g.kids,k.name.size<=9000000000000000000:=fun k hk=>by cases hok with | mk _ h2=>cases h2 k hk with | mk h3 _=>exact h3
      by_cases h8:g.kids.length=2
      · obtain⟨k,j,hk⟩:∃ k j,g.kids=[k,j]:=by
          match hq:g.kids,h8 with
          | [k,j],_=>exact⟨k,j,rfl⟩
        have hkm:k∈g.kids:=by rw[hk];simp
        have hjm:j∈g.kids:=by rw[hk];simp
        have gk:g.kids.getD 0 default=k:=by rw[hk];rfl
        have gj:g.kids.getD 1 default=j:=by rw[hk];rfl
        have ea:g.kids.all JjE=(JjE k && JjE j):=by rw[hk];simp
        have nk:=JoH k (ok2 k hkm) (by have:=Jbg hkm;have:=Jbv k;omega);have nj:=JoH j (ok2 j hjm) (by have:=Jbg hjm;have:=Jbv j;omega);rw[ea];simp -implicitDefEqProofs (disch:=omega) only[Wz,seval,bools,gk];refine JT Joz nk (gpk k) (.lit _) ?_;cases JjE k with
        | false =>
          simp -implicitDefEqProofs (disch:=omega) only[Wz,seval,bools];exact fin _ _
        | true =>
          simp -implicitDefEqProofs (disch:=omega) only[Wz,seval,bools,gj];refine JT Joz nj (gpk j) (.lit _) ?_;cases JjE j;all_goals
            simp -implicitDefEqProofs (disch:=omega) only[Wz,seval,bools];exact fin _ _
      · simp -implicitDefEqProofs (disch:=omega) only[Wz,seval,bools]
        exact fin _ _
    · have e:JlF g.op.1 = .lit .nilFunc:=by unfold JlF;rw[if_neg (by omega),if_neg (by omega),if_neg (by omega)]
      rw[e];simp -implicitDefEqProofs (disch:=omega) only[Wz,seval,bools];exact fin _ _
def ckG (g:Gd):Bool:=decide (Jcy g<=64) && JaM g
theorem gpG(k:Gd):GP (.agg (JaU k)):=.of_pure (.agg (JN k))
theorem JgA(g:Gd)(h:gsz g<=2000000000)(hok:Jnq g):Ja3 Pg 89 [.agg (JaU g)] (.lit (.int .i64 (if ckG g then 0 else 40))):=by
 refine J5 (JE Tryz.func89 rfl Tryz.ntmps89 (rs:=[.tmp 2]) rfl (by simp) ?_);simp -implicitDefEqProofs (disch:=omega) only[Wz,seval];refine JT Jos (.of_pure (JjF _ g (Nat.le_refl _) h) (Jb (.agg (JN g)) Jl) (.lit _)) (Jb (gpG g) Jl) (.lit _) ?_;unfold ckG;by_cases h1:Jcy g<=64
 ·simp -implicitDefEqProofs (disch:=omega) only[Wz,seval,Bool.true_and];refine JT Jot (Jee _ g (Nat.le_refl _) h hok) (Jb (gpG g) Jl) (.lit _) ?_;cases JaM g;all_goals
   simp -implicitDefEqProofs (disch:=omega) only[Wz,seval,Bool.false_eq_true];exact Jat (.lit _)
 ·simp -implicitDefEqProofs (disch:=omega) only[Wz,seval,Bool.false_and,Bool.false_eq_true];exact Jat (.lit _)
structure Pl where
 index:Int
 column:Int
 la:Int
 mode:Int
def JaF(p:Pl):List AV:=[.lit (.int .i64 p.index),.lit (.int .i64 p.column),.lit (.int .i64 p.la),.lit (.int .i64 p.mode)]
theorem JaQ(p:Pl):∀ c∈JaF p,Ab.Pure c:=Jap (by simp[JaF])
def JmD (g:Gd)(p:Pl):Int:=if g.op.1=9 then g.n else if g.op.1=10 then p.index else if g.op.1=11 then p.column else if g.op.1=12 then p.la else if g.op.1=13 then p.mode else 0
theorem JgB(g:Gd)(p:Pl):JO Pg 117 [.agg (JaU g),.agg (JaF p)] (.tup [.lit (.int .i64 (JmD g p)),.lit (.bool (decide (9<=g.op.1/\g.op.1<=14)))]):=by
 refine Jm Tryz.func117 rfl Tryz.ntmps117 (rs:=[.tmp 4,.tmp 5]) rfl (by simp) ?_;unfold JmD;have fin:∀ h (n:Int) (b:Bool),JcS h (.tup [.lit (.int .i64 n),.lit (.bool b)]) (.tup [.lit (.int .i64 n),.lit (.bool b)]):=fun h n b=>Ja (.tup (Jb (.lit _) (Jb (.lit _) Jl)));by_cases h1:g.op.1<9
 ·simp -implicitDefEqProofs (disch:=omega) only[Wz,seval,Jw,JaF];exact fin _ _ _
 by_cases h2:g.op.1 > 14
 ·simp -implicitDefEqProofs (disch:=omega) only[Wz,seval,Jw,JaF];exact fin _ _ _
 rcases(by omega:g.op.1=9\/g.op.1=10\/g.op.1=11\/g.op.1=12\/g.op.1=13\/g.op.1=14) with h | h | h | h | h | h;all_goals
  simp -implicitDefEqProofs (disch:=omega) only[Wz,seval,Jw,JaF,h];exact fin _ _ _
theorem JoK(x y:Int):JO Pg 127 [.lit (.int .i64 x),.lit (.int .i64 y)] (.lit (.bool (decide (x<y)))):=by
 refine Jm Tryz.func127 rfl Tryz.ntmps127 (rs:=[.tmp 4]) rfl (by simp) ?_;simp -implicitDefEqProofs only[Wa,tyW,seval];exact Ja (.lit _)
theorem JoL(x y:Int):JO Pg 128 [.lit (.int .i64 x),.lit (.int .i64 y)] (.lit (.bool (decide (x<=y)))):=by
 refine Jm Tryz.func128 rfl Tryz.ntmps128 (rs:=[.tmp 4]) rfl (by simp) ?_;simp -implicitDefEqProofs only[Wa,tyW,seval];exact Ja (.lit _)
theorem JoM(x y:Int):JO Pg 129 [.lit (.int .i64 x),.lit (.int .i64 y)] (.lit (.bool (x==y))):=by
 refine Jm Tryz.func129 rfl Tryz.ntmps129 (rs:=[.tmp 4]) rfl (by simp) ?_;simp -implicitDefEqProofs only[Wa,tyW,seval];exact Ja (.lit _)
def Jzr (op x y:Int):Bool:=if op=5 then decide (x<y) else if op=6 then decide (x<=y) else x==y
def Jqt (o:List Orc)(n index:Int):Bool:=match o.find? fun x=>x.id==n && x.index==index with | some x=>x.says | none=>false
mutual
def JaI(p:Pl)(o:List Orc):Gd->Bool
 | .mk op n name kids =>
  if op.1=0 then true else if op.1=1 then false else if op.1=8 then Jqt o n p.index
  else if op.1=2 then !(saysAnd p o kids) else if op.1=4 then saysOr p o kids else if op.1=3 then saysAnd p o kids
  else Jzr op.1 (JmD (kids.getD 0 default) p) (JmD (kids.getD 1 default) p)
def saysAnd(p:Pl)(o:List Orc):List Gd->Bool
 | []=>true
 | g :: l=>JaI p o g && saysAnd p o l
def saysOr(p:Pl)(o:List Orc):List Gd->Bool
 | []=>false
 | g :: l=>JaI p o g || saysOr p o l
end
theorem JmE(p:Pl)(o:List Orc)(l:List Gd):saysAnd p o l=l.all (JaI p o):=by induction l with | nil=>rfl | cons x l ih=>simp[saysAnd,ih]
theorem JoN(p:Pl)(o:List Orc)(l:List Gd):saysOr p o l=l.any (JaI p o):=by induction l with | nil=>rfl | cons x l ih=>simp[saysOr,ih]
theorem JlH(p:Pl)(o:List Orc)(g:Gd):JaI p o g=if g.op.1=0 then true else if g.op.1=1 then false else if g.op.1=8 then Jqt o g.n p.index
  else if g.op.1=2 then !(g.kids.all (JaI p o)) else if g.op.1=4 then g.kids.any (JaI p o) else if g.op.1=3 then g.kids.all (JaI p o)
  else Jzr g.op.1 (JmD (g.kids.getD 0 default) p) (JmD (g.kids.getD 1 default) p):=by
 obtain⟨op,n,name,kids⟩:=g;rw[JaI,JmE,JoN];rfl
def Jki (p:Pl)(o:List Orc)(g:Gd)(ext:List (Nat × List AV))(n:Nat):Hp:=⟨(0,[.lit (.int .i8 g.op.1),.lit (.int .i64 g.n),.lit (.string g.name),.vec (g.kids.map JaU) false]) :: (1,[.lit (.int .i64 p.index),.lit (.int .i64 p.column),.lit (.int .i64 p.la),.lit (.int .i64 p.mode)]) :: (2,[.vec (o.map Jct) false]) :: (3,[.fn (.func 112) [] [.ptr 1 0,.ptr 2 0]]) :: ext,[],n⟩
def JkO (p:Pl)(o:List Orc)(g:Gd):Hp:=Jki p o g [] 4
theorem Jic(p:Pl)(o:List Orc)(g:Gd)(ext:List (Nat × List AV))(n:Nat)(hn:4<=n)(he:∀ b∈ext,b.1<n/\∀ c∈b.2,Ab.Pure c):Own (Jki p o g ext n) :=
 ⟨Jb ⟨by show 0<n;omega,.cons (.pure (.lit _)) (.cons (.pure (.lit _)) (.cons (.pure (.lit _)) (.cons (.pure (.vec (Ji JN _))) .nil)))⟩
  (Jb ⟨by show 1<n;omega,.cons (.pure (.lit _)) (.cons (.pure (.lit _)) (.cons (.pure (.lit _)) (.cons (.pure (.lit _)) .nil)))⟩
  (Jb ⟨by show 2<n;omega,.cons (.pure (.vec (Ji Jbu _))) .nil⟩
  (Jb ⟨by show 3<n;omega,.cons (.fn .nil (.cons (.ptr (by show 1<n;omega) rfl) (.cons (.ptr (by show 2<n;omega) rfl) .nil))) .nil⟩ fun b hb=>⟨(he b hb).1,RnL.pure (he b hb).2⟩))),Jl⟩
theorem Jid(p:Pl)(o:List Orc)(g:Gd):Own (JkO p o g):=Jic p o g [] 4 (Nat.le_refl _) Jl
theorem Jqu{T:Type}[Inhabited T]{l:List T}{q:T->Bool}(h:l.any q=true):l.findIdx q<l.length/\l.find? q=some (l.getD (l.findIdx q) default):=by
 have hlt:l.findIdx q<l.length:=List.findIdx_lt_length.2 (List.any_eq_true.1 h);refine⟨hlt,?_⟩;rw[List.getD_eq_getElem?_getD,List.getElem?_eq_getElem hlt,Option.getD_some];rw[List.find?_eq_some_iff_getElem];exact⟨List.findIdx_getElem (w:=hlt),_,hlt,rfl,fun j hj=>by simpa using List.not_of_lt_findIdx hj⟩
theorem Js2{T:Type}{l:List T}{q:T->Bool}(h:l.any q=false):l.find? q=none:=by
 rw[List.find?_eq_none];intro x hx;rw[List.any_eq_false] at h;exact h x hx
theorem JgC{g:Gd}(h:JaM g=true):(g.op.1=2->g.kids.length=1)/\(2<=g.op.1->g.op.1<=4->∀ k∈g.kids,JaM k=true)/\(g.op.1≠0->g.op.1≠1->g.op.1≠8->g.op.1≠2->g.op.1≠3->g.op.1≠4->(5<=g.op.1/\g.op.1<=7)/\g.kids.length=2):=by
 rw[Jib] at h;refine⟨fun e=>?_,fun e1 e2=>?_,fun e1 e2 e3 e4 e5 e6=>?_⟩
 ·simp[e] at h;exact h.2.2.1
 ·rcases(by omega:g.op.1=2\/g.op.1=3\/g.op.1=4) with e | e | e <;> simp[e] at h <;> exact h.2.2.2
 ·simp[e1,e2,e3,e4,e5,e6] at h;exact⟨⟨h.2.2.1.1,h.2.2.1.2⟩,h.2.2.2.1⟩
theorem JgD(p:Pl)(o:List Orc)(ho:o.length<=2000000000):∀ (m:Nat) (g:Gd),gsz g<=m->m<=2000000000->JaM g=true->Ja3 Pg 90 [.agg (JaU g),.agg (JaF p),.vec (o.map Jct) false] (.lit (.bool (JaI p o g)))
 | 0,g,h,_,_=>by have:=JcF g;omega
 | m+1,g,h,hm,hok=>by
  have hl:=Jbv g;have gpp:GP (.agg (JaF p)):=.of_pure (.agg (JaQ p));have gpo:GP (.vec (o.map Jct) false):=.of_pure (.vec (Ji Jbu _));have w1:∀ k∈g.kids,JaM k=true->JaG Pg 112 ([]++[.agg (JaU k)]++[.ptr 1 0,.ptr 2 0]) (Jki p o g ([]) 4) (.lit (.bool (JaI p o k))):=fun k hk hc=>by
   have ih:=JgD p o ho m k (by have:=Jbg hk;omega) (by omega) hc;have own:Own (Jki p o g ([]) 4):=Jic p o g ([]) 4 (by decide) (by first | exact Jl | exact Jb ⟨by show 4<5;decide,JN k⟩ Jl);refine Jaj Tryz.func112 rfl Tryz.ntmps112 (rs:=[.tmp 4]) rfl (by simp) (N:=4) rfl ?_;simp -implicitDefEqProofs (disch:=omega) only[Wz,seval,Jki];refine JT Joo ih (Jb (gpG k) (Jb gpp (Jb gpo Jl))) (.lit _) ?_;simp -implicitDefEqProofs (disch:=omega) only[Wz,seval];exact JoD 4 own rfl (by show 4<=5;decide) rfl (.pure (.lit _)) (by first | exact Jb rfl (Jb rfl (Jb rfl (Jb rfl Jl))) | exact Jb rfl (Jb rfl (Jb rfl (Jb rfl (Jb rfl Jl))))) Jl
  have w1b:∀ k∈g.kids,JaM k=true->JaG Pg 112 ([]++[.agg (JaU k)]++[.ptr 1 0,.ptr 2 0]) (Jki p o g ([(4,JaU k)]) 5) (.lit (.bool (JaI p o k))):=fun k hk hc=>by
   have ih:=JgD p o ho m k (by have:=Jbg hk;omega) (by omega) hc;have own:Own (Jki p o g ([(4,JaU k)]) 5):=Jic p o g ([(4,JaU k)]) 5 (by decide) (by first | exact Jl | exact Jb ⟨by show 4<5;decide,JN k⟩ Jl);refine Jaj Tryz.func112 rfl Tryz.ntmps112 (rs:=[.tmp 4]) rfl (by simp) (N:=5) rfl ?_;simp -implicitDefEqProofs (disch:=omega) only[Wz,seval,Jki];refine JT Joo ih (Jb (gpG k) (Jb gpp (Jb gpo Jl))) (.lit _) ?_;simp -implicitDefEqProofs (disch:=omega) only[Wz,seval];exact JoD 4 own rfl (by show 5<=6;decide) rfl (.pure (.lit _)) (by first | exact Jb rfl (Jb rfl (Jb rfl (Jb rfl Jl))) | exact Jb rfl (Jb rfl (Jb rfl (Jb rfl (Jb rfl Jl))))) Jl
  have w2:∀ x∈o,JaG Pg 114 ([]++[.agg (Jct x)]++[.ptr 0 0,.ptr 1 0]) (JkO p o g) (.lit (.bool (x.id==g.n && x.index==p.index))):=fun x hx=>by
   refine Jaj Tryz.func114 rfl Tryz.ntmps114 (rs:=[.tmp 4]) rfl (by simp) (N:=4) rfl ?_;by_cases hx1:x.id=g.n
   ·simp -implicitDefEqProofs (disch:=omega) only[Wz,seval,JkO,Jki,Jct];exact JoD 4 (Jid p o g) rfl (by show 4<=5;decide) rfl (.pure (.lit _)) (Jb rfl (Jb rfl (Jb rfl (Jb rfl Jl)))) Jl
   ·simp -implicitDefEqProofs (disch:=omega) only[Wz,seval,JkO,Jki,Jct];exact JoD 4 (Jid p o g) rfl (by show 4<=5;decide) rfl (.pure (.lit _)) (Jb rfl (Jb rfl (Jb rfl (Jb rfl Jl)))) Jl
  have w3:∀ k∈g.kids,JaM k=true->JaG Pg 116 ([]++[.agg (JaU k)]++[.ptr 3 0]) (JkO p o g) (.lit (.bool !(JaI p o k))):=fun k hk hc=>by
   refine Jaj Tryz.func116 rfl Tryz.ntmps116 (rs:=[.tmp 3]) rfl (by simp) (N:=4) rfl ?_;simp -implicitDefEqProofs (disch:=omega) only[Wz,seval,JkO,Jki];refine JF JkH (w1b k hk hc) ?_;rintro r h' ⟨rfl,rfl⟩;simp -implicitDefEqProofs (disch:=omega) only[Wz,seval,JkO];exact JoD 3 (Jid p o g) rfl (by show 4<=5;decide) rfl (.pure (.lit _)) (Jb rfl (Jb rfl (Jb rfl (Jb rfl Jl)))) Jl
  refine J5 (JE Tryz.func90 rfl Tryz.ntmps90 (rs:=[.tmp 6]) rfl (by simp) ?_);obtain⟨c1,c2,c3⟩:=JgC hok;rw[JlH];have fin:∀ h (b:Bool),Jd6 h (.lit (.bool b)) (.lit (.bool b)):=fun h b=>Jat (.lit _);by_cases h0:g.op.1=0
  ·simp -implicitDefEqProofs (disch:=omega) only[Wz,seval,Jw,JaF];exact fin _ _
  by_cases h1:g.op.1=1
  ·simp -implicitDefEqProofs (disch:=omega) only[Wz,seval,Jw,JaF];exact fin _ _
  by_cases h8:g.op.1=8
  ·simp -implicitDefEqProofs (disch:=omega) only[Wz,seval,Jw,JaF];refine JF JsF (JoF o (fun x=>x.id==g.n && x.index==p.index) false (by omega) 114 [] [.ptr 0 0,.ptr 1 0] (JkO p o g) JsG w2) ?_;rintro r h' ⟨rfl,rfl⟩;unfold Jqt;cases ha:o.any (fun x=>x.id==g.n && x.index==p.index) with
   | true =>
    obtain⟨f1,f2⟩:=Jqu ha;rw[f2];have e1:Jdv o (fun x=>x.id==g.n && x.index==p.index)=((o.findIdx (fun x=>x.id==g.n && x.index==p.index):Nat):Int):=by unfold Jdv;rw[ha];rfl
    rw[e1];generalize o.findIdx (fun x=>x.id==g.n && x.index==p.index)=i at f1;simp -implicitDefEqProofs (disch:=omega) only[Wz,seval,JkO,Jki,Jct];exact fin _ _
   | false =>
    rw[Js2 ha];have e1:Jdv o (fun x=>x.id==g.n && x.index==p.index) = -1:=by unfold Jdv;rw[ha];rfl
    rw[e1];simp -implicitDefEqProofs (disch:=omega) only[Wz,seval,JkO,Jki];exact fin _ _
  have gm:∀ i:Nat,i<g.kids.length->g.kids.getD i default∈g.kids:=fun i hi=>Jt hi
  by_cases h2:g.op.1=2
  ·have l1:=c1 h2;have ck:=c2 (by omega) (by omega);obtain⟨k,hk⟩:∃ k,g.kids=[k]:=by
    match hq:g.kids,l1 with
    | [k],_=>exact⟨k,rfl⟩
   have hkm:k∈g.kids:=by rw[hk];simp
   have gk:g.kids.getD 0 default=k:=by rw[hk];rfl
   have ea:g.kids.all (JaI p o)=JaI p o k:=by rw[hk];simp
   rw[ea];simp -implicitDefEqProofs (disch:=omega) only[Wz,seval,Jw,JaF,gk];refine Jba (n:=82) (σ':=⟨[(6,.lit (.bool (!(JaI p o k))))],⟨[],[],4⟩,82⟩) 4 7 (.alt 7 .leaf .nil) rfl (by decide) (by decide) mixed (by kernel_rfl) (by decide) ?_ ?_
   ·simp -implicitDefEqProofs (disch:=omega) only[Wz,seval,gk];refine Jcf JkH (w1 k hkm (ck k hkm)) ?_;simp -implicitDefEqProofs (disch:=omega) only[Wz,seval,JkO,Jki];exact St.wk.cp (St.wk_slots1 (by simp[lk]) (by simp[lk]) (fun t=>rfl))
   ·simp -implicitDefEqProofs (disch:=omega) only[Wz,seval];exact fin _ _
  by_cases h4:g.op.1=4
  ·have ck:=c2 (by omega) (by omega);simp -implicitDefEqProofs (disch:=omega) only[Wz,seval,Jw,JaF];refine JF Jgl (Jck g.kids (JaI p o) false (by omega) 112 [] [.ptr 1 0,.ptr 2 0] (JkO p o g) JkH (fun k hk=>w1 k hk (ck k hk))) ?_;rintro r h' ⟨rfl,rfl⟩;simp -implicitDefEqProofs (disch:=omega) only[Wz,seval,JkO,Jki];exact fin _ _
  by_cases h3:g.op.1=3
  ·have ck:=c2 (by omega) (by omega);have hany:g.kids.all (JaI p o) = !(g.kids.any fun k => !(JaI p o k)):=by rw[List.not_any_eq_all_not];simp
   rw[hany];simp -implicitDefEqProofs (disch:=omega) only[Wz,seval,Jw,JaF];refine JF Jgl (Jck g.kids (fun k => !(JaI p o k)) false (by omega) 116 [] [.ptr 3 0] (JkO p o g) JsH (fun k hk=>w3 k hk (ck k hk))) ?_;rintro r h' ⟨rfl,rfl⟩;simp -implicitDefEqProofs (disch:=omega) only[Wz,seval,JkO,Jki];exact fin _ _
  obtain⟨c4,c5⟩:=c3 h0 h1 h8 h2 h3 h4;obtain⟨k,j,hk⟩:∃ k j,g.kids=[k,j]:=by
   match hq:g.kids,c5 with
   | [k,j],_=>exact⟨k,j,rfl⟩
  have gk:g.kids.getD 0 default=k:=by rw[hk];rfl
  have gj:g.kids.getD 1 default=j:=by rw[hk];rfl
  rw[gk,gj];simp -implicitDefEqProofs (disch:=omega) only[Wz,seval,Jw,JaF,gk,gj];refine Jba (n:=82) (σ':=⟨[(9,.lit (.int .i64 (JmD k p))),(3,.ptr 0 0),(4,.ptr 1 0)],⟨[(0,[.lit (.int .i8 g.op.1),.lit (.int .i64 g.n),.lit (.string g.name),.vec (g.kids.map JaU) false]),(1,[.lit (.int .i64 p.index),.lit (.int .i64 p.column),.lit (.int .i64 p.la),.lit (.int .i64 p.mode)])],[],4⟩,82⟩) 4 10 (.alt 10 .leaf .nil) rfl (by decide) (by decide) mixed (by kernel_rfl) (by decide) ?_ ?_
  ·simp -implicitDefEqProofs (disch:=omega) only[Wz,seval,gk,gj];refine J8 Jou (JgB k p) (Jb (.agg (JN k)) (Jb (.agg (JaQ p)) Jl)) (.tup (Jb (.lit _) (Jb (.lit _) Jl))) ?_;simp -implicitDefEqProofs (disch:=omega) only[Wz,seval];exact St.wk.cp (St.wk_slots1 (by simp[lk]) (by simp[lk]) (fun t=>rfl))
  simp -implicitDefEqProofs (disch:=omega) only[Wz,seval];refine Jba (n:=82) (σ':=⟨[(11,.lit (.int .i64 (JmD j p))),(9,.lit (.int .i64 (JmD k p))),(3,.ptr 0 0)],⟨[(0,[.lit (.int .i8 g.op.1),.lit (.int .i64 g.n),.lit (.string g.name),.vec (g.kids.map JaU) false])],[],4⟩,82⟩) 4 10 (.alt 10 .leaf .nil) rfl (by decide) (by decide) mixed (by kernel_rfl) (by decide) ?_ ?_
  ·simp -implicitDefEqProofs (disch:=omega) only[Wz,seval,gk,gj];refine J8 Jou (JgB j p) (Jb (.agg (JN j)) (Jb (.agg (JaQ p)) Jl)) (.tup (Jb (.lit _) (Jb (.lit _) Jl))) ?_;simp -implicitDefEqProofs (disch:=omega) only[Wz,seval];exact St.wk.cp (St.wk_slots1 (by simp[lk]) (by simp[lk]) (fun t=>rfl))
  simp -implicitDefEqProofs (disch:=omega) only[Wz,seval];refine Jf Jov (JeL g.op.1 g.op.lo g.op.hi) (Jb (.lit _) Jl) (Jgx _) ?_;unfold Jzr JlF;rcases(by omega:g.op.1=5\/g.op.1=6\/g.op.1=7) with h | h | h
  ·simp -implicitDefEqProofs (disch:=omega) only[Wz,seval,h];refine Jf JsN (JoK _ _) (Jb (.lit _) (Jb (.lit _) Jl)) (.lit _) ?_;simp -implicitDefEqProofs (disch:=omega) only[Wz,seval];exact fin _ _
  ·simp -implicitDefEqProofs (disch:=omega) only[Wz,seval,h];refine Jf JsO (JoL _ _) (Jb (.lit _) (Jb (.lit _) Jl)) (.lit _) ?_;simp -implicitDefEqProofs (disch:=omega) only[Wz,seval];exact fin _ _
  ·simp -implicitDefEqProofs (disch:=omega) only[Wz,seval,h];refine Jf JsP (JoM _ _) (Jb (.lit _) (Jb (.lit _) Jl)) (.lit _) ?_;simp -implicitDefEqProofs (disch:=omega) only[Wz,seval];exact fin _ _
theorem JjG(p:Pl):(JaF p).length=4:=rfl
theorem JmF(p:Pl):(JaF p).take 4=JaF p:=rfl
theorem JmG(g:Gd)(p:Pl)(o:List Orc)(h:gsz g<=2000000000)(hok:Jnq g)(ho:o.length<=2000000000) :
  Ja3 Pg 71 [.agg (JaU g),.agg (JaF p),.vec (o.map Jct) false] (.lit (.bool (ckG g && JaI p o g))):=by
 refine J5 (JE Tryz.func71 rfl Tryz.ntmps71 (rs:=[.tmp 6]) rfl (by simp) ?_);simp -implicitDefEqProofs (disch:=omega) only[Wz,seval];refine JT JrY (JgA g h hok) (Jb (gpG g) Jl) (.lit _) ?_;cases hc:ckG g with
 | true =>
  have hcond:JaM g=true:=by unfold ckG at hc;simp at hc;exact hc.2
  simp -implicitDefEqProofs (disch:=omega) only[Wz,seval,Bool.true_and,JjG,JmF];refine JT Joo (JgD p o ho _ g (Nat.le_refl _) h hcond) (Jb (gpG g) (Jb (.of_pure (.agg (JaQ p))) (Jb (.of_pure (.vec (Ji Jbu _))) Jl))) (.lit _) ?_;simp -implicitDefEqProofs (disch:=omega) only[Wz,seval];exact Jat (.lit _)
 | false =>
  simp -implicitDefEqProofs (disch:=omega) only[Wz,seval,Bool.false_and,Bool.false_eq_true];exact Jat (.lit _)
def Jyw (x:Int)(r:Int × Int):Bool:=decide (r.1<=x/\x<=r.2)
def Jnr (s:List (Int × Int))(x:Int):Bool:=s.any (Jyw x)
theorem Jqv(s:List (Int × Int))(x:Int)(h:s.length<=2000000000):Ja3 Pg 70 [.vec (s.map Jbb) false,.lit (.int .i32 x)] (.lit (.bool (Jnr s x))):=by
 have w1:∀ r∈s,JaG Pg 88 ([]++[.agg (Jbb r)]++[.ptr 0 0]) ⟨[(0,[.lit (.int .i32 x)])],[],1⟩ (.lit (.bool (Jyw x r))):=fun r hr=>by
  refine Jaj Tryz.func88 rfl Tryz.ntmps88 (rs:=[.tmp 3]) rfl (by simp) (N:=1) rfl ?_;unfold Jyw;have own:Own ⟨[(0,[.lit (.int .i32 x)])],[],1⟩:=⟨Jb ⟨by show 0<1;decide,.cons (.pure (.lit _)) .nil⟩ Jl,Jl⟩;by_cases h1:r.1<=x
  ·by_cases h2:x<=r.2;all_goals
    simp -implicitDefEqProofs (disch:=omega) only[Wz,seval,Jbb];exact JoD 3 own rfl (by show 1<=2;decide) rfl (.pure (.lit _)) (Jb rfl Jl) Jl
  ·simp -implicitDefEqProofs (disch:=omega) only[Wz,seval,Jbb];exact JoD 3 own rfl (by show 1<=2;decide) rfl (.pure (.lit _)) (Jb rfl Jl) Jl
 refine J5 (JE Tryz.func70 rfl Tryz.ntmps70 (rs:=[.tmp 4]) rfl (by simp) ?_);simp -implicitDefEqProofs (disch:=omega) only[Wz,seval];refine JF Jyl (JkK s (Jyw x) false h 88 [] [.ptr 0 0] ⟨[(0,[.lit (.int .i32 x)])],[],1⟩ Jym w1) ?_;rintro r h' ⟨rfl,rfl⟩;simp -implicitDefEqProofs (disch:=omega) only[Wz,seval];exact Jat (.lit _)
def JaB(op:Int):Gd->Bool
 | .mk o n name kids=>o.1==op || holdsVs op kids
where holdsVs (op:Int):List Gd->Bool
 | []=>false
 | g :: l=>JaB op g || holdsVs op l
theorem JmH(op:Int)(l:List Gd):JaB.holdsVs op l=l.any (JaB op):=by induction l with | nil=>rfl | cons x l ih=>simp[JaB.holdsVs,ih]
theorem JgE(op:Int)(g:Gd):JaB op g=(g.op.1==op || g.kids.any (JaB op)):=by
 obtain⟨o,n,name,kids⟩:=g;rw[JaB,JmH];rfl
def JlI (cs:List AV):Hp:=⟨[(0,cs)],[],1⟩
theorem Jie{cs:List AV}(h:∀ c∈cs,Ab.Pure c):Own (JlI cs):=⟨Jb ⟨by show 0<1;decide,RnL.pure h⟩ Jl,Jl⟩
theorem JoO(op:Int)(k:Gd)(ih:JaG Pg 97 [.ptr 0 0,.lit (.int .i8 op)] (JlI (JaU k)) (.lit (.bool (JaB op k)))) :
  JaG Pg 121 ([]++[.agg (JaU k)]++[.ptr 0 0]) (JlI [.lit (.int .i8 op)]) (.lit (.bool (JaB op k))):=by
 refine Jaj Tryz.func121 rfl Tryz.ntmps121 (rs:=[.tmp 3]) rfl (by simp) (N:=1) rfl ?_;simp -implicitDefEqProofs (disch:=omega) only[Wz,seval,JlI];refine JF Jop (JaG.sub (hs:=JlI (JaU k)) (r0:=.lit (.bool (JaB op k))) (av:=[.ptr 0 0,.lit (.int .i8 op)]) [1] rfl (by simp) (by simp) (.cons (.ptr (by show 0<1;decide) rfl) (.cons (.pure (.lit _)) .nil))
  (Jb ⟨by show 0<1;decide,_,rfl,RnL.pure (JN k)⟩ Jl) Jl (by intro k hk _;simp[lk]) ih (.pure (.lit _))) ?_
 rintro r h' ⟨rfl,rfl⟩;simp -implicitDefEqProofs (disch:=omega) only[Wz,seval];exact JoD 3 (Jie (Jb (.lit _) Jl)) rfl (by show 1<=2;decide) rfl (.pure (.lit _)) (Jb rfl Jl) Jl
theorem JoP(op:Int):∀ (m:Nat) (g:Gd),gsz g<=m->m<=2000000000->JaG Pg 97 [.ptr 0 0,.lit (.int .i8 op)] (JlI (JaU g)) (.lit (.bool (JaB op g)))
 | 0,g,h,_=>by have:=JcF g;omega
 | m+1,g,h,hm=>by
  have hl:=Jbv g;have ih:∀ k∈g.kids,JaG Pg 121 ([]++[.agg (JaU k)]++[.ptr 1 0]) ⟨[(0,[.lit (.int .i8 g.op.1),.lit (.int .i64 g.n),.lit (.string g.name),.vec (g.kids.map JaU) false]),(1,[.lit (.int .i8 op)])],[],2⟩ (.lit (.bool (JaB op k))):=fun k hk =>
   JaG.sub (hs:=JlI [.lit (.int .i8 op)]) (r0:=.lit (.bool (JaB op k))) (av:=[]++[.agg (JaU k)]++[.ptr 0 0]) [1] rfl (by simp) (by simp) (.cons (.pure (.agg (JN k))) (.cons (.ptr (by show 0<1;decide) rfl) .nil))
    (Jb ⟨by show 0<1;decide,_,rfl,RnL.pure (Jb (.lit _) Jl)⟩ Jl) Jl (by intro k hk _;simp[lk]) (JoO op k (JoP op m k (by have:=Jbg hk;omega) (by omega))) (.pure (.lit _))
  have own:=Jie (JN g);rw[Jw] at own;refine Jaj Tryz.func97 rfl Tryz.ntmps97 (rs:=[.tmp 4]) rfl (by simp) (N:=1) rfl ?_;simp -implicitDefEqProofs (disch:=omega) only[Wz,seval,JlI,Jw];refine Jba (n:=19) (σ':=⟨[(4,.lit (.bool (JaB op g)))],⟨[(0,[.lit (.int .i8 g.op.1),.lit (.int .i64 g.n),.lit (.string g.name),.vec (g.kids.map JaU) false])],[],2⟩,19⟩) 2 14 (.alt 14 .leaf .nil) rfl (by decide) (by decide) mixed (by kernel_rfl) (by decide) ?_ ?_
  ·rw[JgE];by_cases h1:g.op.1=op
   ·simp -implicitDefEqProofs (disch:=omega) only[Wz,seval,Bool.true_or];exact St.wk.cp (St.wk_slots1 (by simp[lk]) (by simp[lk]) (fun t=>rfl))
   ·simp -implicitDefEqProofs (disch:=omega) only[Wz,seval,Bool.false_or];refine Jcf Jgl (Jck g.kids (JaB op) false (by omega) 121 [] [.ptr 1 0] _ Jox ih) ?_;simp -implicitDefEqProofs (disch:=omega) only[Wz,seval];exact St.wk.cp (St.wk_slots1 (by simp[lk]) (by simp[lk]) (fun t=>rfl))
  ·simp -implicitDefEqProofs (disch:=omega) only[Wz,seval];exact JoD 4 own rfl (by show 1<=2;decide) rfl (.pure (.lit _)) (Jb rfl Jl) Jl
theorem JoQ(op:Int)(e:Ed)(h:gsz e.g<=2000000000):Ja3 Pg 97 [.pp (Jn e) 4,.lit (.int .i8 op)] (.lit (.bool (JaB op e.g))):=by
 have hl:=Jbv e.g;have ih:∀ k∈e.g.kids,JaG Pg 121 ([]++[.agg (JaU k)]++[.ptr 0 0]) (JlI [.lit (.int .i8 op)]) (.lit (.bool (JaB op k))):=fun k hk=>JoO op k (JoP op _ k (Nat.le_refl _) (by have:=Jbg hk;omega));refine J5 (JE Tryz.func97 rfl Tryz.ntmps97 (rs:=[.tmp 4]) rfl (by simp) ?_);simp -implicitDefEqProofs (disch:=omega) only[Wz,seval,Jn];refine Jba (n:=19) (σ':=⟨[(4,.lit (.bool (JaB op e.g)))],⟨[],[],1⟩,19⟩) 1 14 (.alt 14 .leaf .nil) rfl (by decide) (by decide) mixed (by kernel_rfl) (by decide) ?_ ?_
 ·rw[JgE];by_cases h1:e.g.op.1=op
  ·simp -implicitDefEqProofs (disch:=omega) only[Wz,seval,Bool.true_or];exact St.wk.cp (St.wk_slots1 (by simp[lk]) (by simp[lk]) (fun t=>rfl))
  ·simp -implicitDefEqProofs (disch:=omega) only[Wz,seval,Bool.false_or];refine Jcf Jgl (Jck e.g.kids (JaB op) false (by omega) 121 [] [.ptr 0 0] _ Jox ih) ?_;simp -implicitDefEqProofs (disch:=omega) only[Wz,seval];exact St.wk.cp (St.wk_slots1 (by simp[lk]) (by simp[lk]) (fun t=>rfl))
 ·simp -implicitDefEqProofs (disch:=omega) only[Wz,seval];exact Jat (.lit _)
def JjH(s:List (Int × Int)):Prop:=∀ r∈s,(-2147483648<=r.1/\r.1<=2147483647)/\(-2147483648<=r.2/\r.2<=2147483647)
def Jns (s:List (Int × Int))(i:Nat):Bool:=decide ((s.getD i default).1<=(s.getD i default).2/\(i=0\/(s.getD (i - 1) default).2+1<(s.getD i default).1))
def JmI (s:List (Int × Int)):Bool:=(List.range s.length).all (Jns s)
theorem Jaw{n:Nat}{p:Nat->Bool}(h:∀ j,j<n->p j=true):(List.range n).all p=true:=by
 rw[List.all_eq_true];intro j hj;exact h j (List.mem_range.1 hj)
theorem Jbh{n i:Nat}{p:Nat->Bool}(hi:i<n)(h:p i=false):(List.range n).all p=false:=by
 rw[List.all_eq_false];exact⟨i,List.mem_range.2 hi,by rw[h];decide⟩
theorem Jar{i:Nat}{p:Nat->Bool}(h:∀ j,j<i->p j=true)(hi:p i=true):∀ j,j<i+1->p j=true:=fun j hj=>by
 rcases Nat.lt_or_ge j i with h1 | h1
 ·exact h j h1
 ·have:j=i:=by omega
  rw[this];exact hi
theorem JkP(s:List (Int × Int))(h:s.length<=2000000000)(hs:JjH s):Ja3 Pg 81 [.vec (s.map Jbb) false] (.lit (.int .i64 (if JmI s then 0 else 2))):=by
 refine J5 (JE Tryz.func81 rfl Tryz.ntmps81 (rs:=[.tmp 2]) rfl (by simp) ?_);simp -implicitDefEqProofs (disch:=omega) only[Wz,seval];refine Jb5 s.length 0 (fun i (_:Unit)=>⟨[(7,.lit (.int .i64 (i:Int))),(6,.lit (.int .i64 (s.length:Int))),(5,.vec (s.map Jbb) false),(0,.vec (s.map Jbb) false)],.none,36⟩) (fun i _=>∀ j,j<i->Jns s j=true) (fun _ _=>rfl) () (St.wk_slots (by simp[lk])) (by simp) (fun i _ hlt hno=>?_) (fun _ hno=>?_)
 ·have key:Jns s i=decide ((s.getD i default).1<=(s.getD i default).2/\(i=0\/(s.getD (i - 1) default).2+1<(s.getD i default).1)):=rfl;have o1:=hs _ (Jt hlt);have o2:i≠0->_:=fun h=>hs _ (Jt (show i - 1<s.length by omega))
  have fin:Jns s i=false->Jd6 ⟨[(0,[.lit (.int .i32 (s.getD i default).1),.lit (.int .i32 (s.getD i default).2)])],[],1⟩ (.lit (.int .i64 2)) (.lit (.int .i64 (if JmI s then 0 else 2))):=fun h=>by
   have e:JmI s=false:=Jbh hlt h;rw[e];exact Jat (.lit _)
  have back:Jns s i=true->∀ sl:List (Nat × AV),lk sl 7=some (.lit (.int .i64 ((i+1:Nat):Int)))->lk sl 6=some (.lit (.int .i64 (s.length:Int)))->lk sl 5=some (.vec (s.map Jbb) false)->lk sl 0=some (.vec (s.map Jbb) false) ->
    ∃ x:Unit,(∀ j,j<i+1->Jns s j=true)/\St.cp 0 ⟨sl,⟨[(0,[.lit (.int .i32 (s.getD i default).1),.lit (.int .i32 (s.getD i default).2)])],[],1⟩,36⟩ ⟨[(7,.lit (.int .i64 ((i+1:Nat):Int))),(6,.lit (.int .i64 (s.length:Int))),(5,.vec (s.map Jbb) false),(0,.vec (s.map Jbb) false)],.none,36⟩:=fun h sl e1 e2 e3 e4 =>
   ⟨(),Jar hno h,Jbc (Nat.le_refl _) (Nat.zero_le _) rfl (Jb ⟨e1,.pure (.lit _)⟩ (Jb ⟨e2,.pure (.lit _)⟩ (Jb ⟨e3,.pure (.vec (Ji Jcj _))⟩ (Jb ⟨e4,.pure (.vec (Ji Jcj _))⟩ Jl)))) Jl Jl⟩
  by_cases h1:(s.getD i default).1<=(s.getD i default).2
  ·by_cases h2:i=0
   ·have hk:Jns s i=true:=by rw[key];exact decide_eq_true ⟨h1,.inl h2⟩
    simp -implicitDefEqProofs (disch:=omega) only[Wz,seval,Jbb];refine Jv (n:=36) rfl (by decide) mixed ?_;simp -implicitDefEqProofs (disch:=omega) only[Wz,seval];exact back hk _ rfl rfl rfl rfl
   ·have o3:=o2 h2;have i1:((i:Int) - 1).toNat=i - 1:=by omega
    have i2:IntKind.i64.wrap ((i:Int) - 1)=(i:Int) - 1:=Jdi (by omega) (by omega);by_cases h3:(s.getD (i - 1) default).2+1<(s.getD i default).1
    ·have hk:Jns s i=true:=by rw[key];exact decide_eq_true ⟨h1,.inr h3⟩
     simp -implicitDefEqProofs (disch:=omega) only[Wz,seval,Jbb];refine Jv (n:=36) rfl (by decide) mixed ?_;simp -implicitDefEqProofs (disch:=omega) only[Wz,seval,Jbb,i1,i2];exact back hk _ rfl rfl rfl rfl
    ·have hk:Jns s i=false:=by rw[key];exact decide_eq_false (by omega)
     simp -implicitDefEqProofs (disch:=omega) only[Wz,seval,Jbb];refine Jv (n:=36) rfl (by decide) mixed ?_;simp -implicitDefEqProofs (disch:=omega) only[Wz,seval,Jbb,i1,i2];exact fin hk
  ·have hk:Jns s i=false:=by rw[key];exact decide_eq_false (by omega)
   simp -implicitDefEqProofs (disch:=omega) only[Wz,seval,Jbb];refine Jv (n:=36) rfl (by decide) mixed ?_;simp -implicitDefEqProofs (disch:=omega) only[Wz,seval];exact fin hk
 ·have e:JmI s=true:=Jaw hno;rw[e];simp -implicitDefEqProofs (disch:=omega) only[Wz,seval];exact Jat (.lit _)
def JmK (n:Nt)(a:Int × Int):Bool:=if a.1=2 then decide (1<=a.2/\a.2<=(n.types.length:Int)) else if a.1=3 then decide (0<=a.2/\a.2<(n.channels.length:Int)) else if a.1=4\/a.1=5 then decide (0<=a.2/\a.2<(n.modes.length:Int))
 else if a.1=0\/a.1=1\/a.1=6 then decide (a.2=0) else false
theorem Jbd(n:Nt):Ab.Pure (.pp (Jh n) 0):=.pp (J6 n)
theorem Jqw(n:Nt)(a:Int × Int):JO Pg 104 [.pp (Jh n) 0,.agg (Jy a)] (.lit (.bool (JmK n a))):=by
 refine Jm Tryz.func104 rfl Tryz.ntmps104 (rs:=[.tmp 4]) rfl (by simp) ?_;have fin:∀ h (b:Bool),JcS h (.lit (.bool b)) (.lit (.bool b)):=fun h b=>Ja (.lit _);unfold JmK;by_cases h2:a.1=2
 ·by_cases k1:1<=a.2 <;> by_cases k2:a.2<=(n.types.length:Int)
  all_goals
   simp -implicitDefEqProofs (disch:=omega) only[Wz,seval,Jy,Jh,h2];refine Jba (n:=60) (σ':=⟨[(4,.lit (.bool (decide (1<=a.2/\a.2<=(n.types.length:Int)))))],⟨[],[],1⟩,60⟩) 1 13 (.alt 13 .leaf .nil) rfl (by decide) (by decide) mixed (by kernel_rfl) (by decide) ?_ ?_
   ·simp -implicitDefEqProofs (disch:=omega) only[Wz,seval];exact St.wk.cp (St.wk_slots1 (by simp[lk]) (by simp[lk]) (fun t=>rfl))
   ·simp -implicitDefEqProofs (disch:=omega) only[Wz,seval];exact fin _ _
 by_cases h3:a.1=3
 ·by_cases k1:0<=a.2 <;> by_cases k2:a.2<(n.channels.length:Int)
  all_goals
   simp -implicitDefEqProofs (disch:=omega) only[Wz,seval,Jy,Jh,h3];refine Jba (n:=60) (σ':=⟨[(4,.lit (.bool (decide (0<=a.2/\a.2<(n.channels.length:Int)))))],⟨[],[],1⟩,60⟩) 1 13 (.alt 13 .leaf .nil) rfl (by decide) (by decide) mixed (by kernel_rfl) (by decide) ?_ ?_
   ·simp -implicitDefEqProofs (disch:=omega) only[Wz,seval];exact St.wk.cp (St.wk_slots1 (by simp[lk]) (by simp[lk]) (fun t=>rfl))
   ·simp -implicitDefEqProofs (disch:=omega) only[Wz,seval];exact fin _ _
 by_cases h4:a.1=4
 ·by_cases k1:0<=a.2 <;> by_cases k2:a.2<(n.modes.length:Int)
  all_goals
   simp -implicitDefEqProofs (disch:=omega) only[Wz,seval,Jy,Jh,h4];refine Jba (n:=60) (σ':=⟨[(4,.lit (.bool (decide (0<=a.2/\a.2<(n.modes.length:Int)))))],⟨[],[],1⟩,60⟩) 1 13 (.alt 13 .leaf .nil) rfl (by decide) (by decide) mixed (by kernel_rfl) (by decide) ?_ ?_
   ·simp -implicitDefEqProofs (disch:=omega) only[Wz,seval];exact St.wk.cp (St.wk_slots1 (by simp[lk]) (by simp[lk]) (fun t=>rfl))
   ·simp -implicitDefEqProofs (disch:=omega) only[Wz,seval];exact fin _ _
 by_cases h5:a.1=5
 ·by_cases k1:0<=a.2 <;> by_cases k2:a.2<(n.modes.length:Int)
  all_goals
   simp -implicitDefEqProofs (disch:=omega) only[Wz,seval,Jy,Jh,h5];refine Jba (n:=60) (σ':=⟨[(4,.lit (.bool (decide (0<=a.2/\a.2<(n.modes.length:Int)))))],⟨[],[],1⟩,60⟩) 1 13 (.alt 13 .leaf .nil) rfl (by decide) (by decide) mixed (by kernel_rfl) (by decide) ?_ ?_
   ·simp -implicitDefEqProofs (disch:=omega) only[Wz,seval];exact St.wk.cp (St.wk_slots1 (by simp[lk]) (by simp[lk]) (fun t=>rfl))
   ·simp -implicitDefEqProofs (disch:=omega) only[Wz,seval];exact fin _ _
 by_cases h6:a.1=0\/a.1=1\/a.1=6
 ·by_cases k1:a.2=0;all_goals
   rcases h6 with h | h | h;all_goals
    simp -implicitDefEqProofs (disch:=omega) only[Wz,seval,Jy,Jh,h];exact fin _ _
 ·simp -implicitDefEqProofs (disch:=omega) only[Wz,seval,Jy,Jh];exact fin _ _
def Jc4 (n:Nt)(r:Nr)(no:Int)(e:Ed):List AV:=[.pp (Jh n) 0,.pp (Jc r) 0,.lit (.int .i64 no),.pp (Jn e) 0]
theorem JbS(n:Nt)(r:Nr)(no:Int)(e:Ed):∀ c∈Jc4 n r no e,Ab.Pure c:=by
 intro c hc;simp only[Jc4,List.mem_cons,List.not_mem_nil,or_false] at hc;rcases hc with rfl | rfl | rfl | rfl
 ·exact .pp (J6 n)
 ·exact .pp (Jbj r)
 ·exact .lit _
 ·exact .pp (JbQ e)
theorem gpK(n:Nt)(r:Nr)(no:Int)(e:Ed):GP (.agg (Jc4 n r no e)):=.of_pure (.agg (JbS n r no e))
def kd0 (e:Ed):Bool:=decide (e.n=0/\e.level=0)
def kd4 (e:Ed):Bool:=decide ((1<=e.n/\e.n<=64)/\e.level=0)
def kd5 (r:Nr)(e:Ed):Bool:=r.left && decide ((1<=e.n/\e.n<=64)/\1<=e.level/\e.level<=64)
def kd6 (r:Nr)(e:Ed):Bool:=r.left && decide (e.n=0/\e.level=0)
theorem Jqx(n:Nt)(r:Nr)(no:Int)(e:Ed):JO Pg 93 [.agg (Jc4 n r no e)] (.lit (.bool (kd0 e))):=by
 refine Jm Tryz.func93 rfl Tryz.ntmps93 (rs:=[.tmp 2]) rfl (by simp) ?_;unfold kd0;by_cases k1:e.n=0 <;> by_cases k2:e.level=0
 all_goals
  simp -implicitDefEqProofs (disch:=omega) only[Wz,seval,Jc4,Jn];exact Ja (.lit _)
theorem Jqy(n:Nt)(r:Nr)(no:Int)(e:Ed):JO Pg 98 [.agg (Jc4 n r no e)] (.lit (.bool (kd4 e))):=by
 refine Jm Tryz.func98 rfl Tryz.ntmps98 (rs:=[.tmp 2]) rfl (by simp) ?_;unfold kd4;by_cases k1:1<=e.n <;> by_cases k2:e.n<=64 <;> by_cases k3:e.level=0
 all_goals
  simp -implicitDefEqProofs (disch:=omega) only[Wz,seval,Jc4,Jn];exact Ja (.lit _)
theorem Jqz(n:Nt)(r:Nr)(no:Int)(e:Ed):JO Pg 99 [.agg (Jc4 n r no e)] (.lit (.bool (kd5 r e))):=by
 refine Jm Tryz.func99 rfl Tryz.ntmps99 (rs:=[.tmp 2]) rfl (by simp) ?_;unfold kd5;cases hl:r.left
 ·simp -implicitDefEqProofs (disch:=omega) only[Wz,seval,Jc4,Jn,Jc,hl,Bool.false_and];exact Ja (.lit _)
 by_cases k1:1<=e.n <;> by_cases k2:e.n<=64 <;> by_cases k3:1<=e.level <;> by_cases k4:e.level<=64
 all_goals
  simp -implicitDefEqProofs (disch:=omega) only[Wz,seval,Jc4,Jn,Jc,hl,Bool.true_and];exact Ja (.lit _)
theorem JqA(n:Nt)(r:Nr)(no:Int)(e:Ed):JO Pg 100 [.agg (Jc4 n r no e)] (.lit (.bool (kd6 r e))):=by
 refine Jm Tryz.func100 rfl Tryz.ntmps100 (rs:=[.tmp 2]) rfl (by simp) ?_;unfold kd6;cases hl:r.left
 ·simp -implicitDefEqProofs (disch:=omega) only[Wz,seval,Jc4,Jn,Jc,hl,Bool.false_and];exact Ja (.lit _)
 by_cases k1:e.n=0 <;> by_cases k2:e.level=0
 all_goals
  simp -implicitDefEqProofs (disch:=omega) only[Wz,seval,Jc4,Jn,Jc,hl,Bool.true_and];exact Ja (.lit _)
def kd3 (r:Nr)(e:Ed):Bool:=decide (e.n=0/\e.level=0) && (ckG e.g && (!(JaB 14 e.g) && (r.lexer || !(JaB 13 e.g))))
theorem JqB(n:Nt)(r:Nr)(no:Int)(e:Ed)(h:gsz e.g<=2000000000)(hok:Jnq e.g):Ja3 Pg 96 [.agg (Jc4 n r no e)] (.lit (.bool (kd3 r e))):=by
 refine J5 (JE Tryz.func96 rfl Tryz.ntmps96 (rs:=[.tmp 2]) rfl (by simp) ?_);have hg:=JgA e.g h hok;have gg:=gpG e.g;rw[Jw] at hg gg;have q1:=JoQ 14 e h;have q2:=JoQ 13 e h;have gp:GP (.pp (Jn e) 4):=.of_pure (.pp (JbQ e));simp only[Jn] at q1 q2 gp;unfold kd3;by_cases k1:e.n=0
 ·by_cases k2:e.level=0
  ·simp -implicitDefEqProofs (disch:=omega) only[Wz,seval,Jc4,Jn];refine JT JrY hg (Jb gg Jl) (.lit _) ?_;cases ckG e.g
   ·simp -implicitDefEqProofs (disch:=omega) only[Wz,seval,Bool.false_and,Bool.and_false,Bool.false_eq_true];exact Jat (.lit _)
   ·simp -implicitDefEqProofs (disch:=omega) only[Wz,seval,Bool.true_and,Bool.and_true];refine JT Jop q1 (Jb gp (Jb (.lit _) Jl)) (.lit _) ?_;cases JaB 14 e.g
    ·simp -implicitDefEqProofs (disch:=omega) only[Wz,seval,Bool.not_false,Bool.true_and,Jc];cases r.lexer
     ·simp -implicitDefEqProofs (disch:=omega) only[Wz,seval,Bool.false_or];refine JT Jop q2 (Jb gp (Jb (.lit _) Jl)) (.lit _) ?_;simp -implicitDefEqProofs (disch:=omega) only[Wz,seval];exact Jat (.lit _)
     ·simp -implicitDefEqProofs (disch:=omega) only[Wz,seval,Bool.true_or];exact Jat (.lit _)
    ·simp -implicitDefEqProofs (disch:=omega) only[Wz,seval,Bool.not_true,Bool.false_and];exact Jat (.lit _)
  ·simp -implicitDefEqProofs (disch:=omega) only[Wz,seval,Jc4,Jn,Bool.false_and];exact Jat (.lit _)
 ·simp -implicitDefEqProofs (disch:=omega) only[Wz,seval,Jc4,Jn,Bool.false_and];exact Jat (.lit _)
def kd7 (n:Nt)(r:Nr)(e:Ed):Bool:=r.lexer && (!r.frag && (decide (e.n=0/\e.level=0) && e.acts.all (JmK n)))
theorem JqC(n:Nt)(r:Nr)(no:Int)(e:Ed)(h:e.acts.length<=2000000000):Ja3 Pg 101 [.agg (Jc4 n r no e)] (.lit (.bool (kd7 n r e))):=by
 have hany:e.acts.all (JmK n) = !(e.acts.any fun a => !(JmK n a)):=by rw[List.not_any_eq_all_not];simp
 have own:Own (JlI (Jc4 n r no e)):=Jie (JbS n r no e);have w1:∀ a∈e.acts,JaG Pg 103 ([]++[.agg (Jy a)]++[.ptr 0 0]) (JlI (Jc4 n r no e)) (.lit (.bool (!(JmK n a)))):=fun a ha=>by
  refine Jaj Tryz.func103 rfl Tryz.ntmps103 (rs:=[.tmp 3]) rfl (by simp) (N:=1) rfl ?_;simp -implicitDefEqProofs (disch:=omega) only[Wz,seval,JlI,Jc4];refine Jf JsC (Jqw n a) (Jb (Jbd n) (Jb (.agg (JU a)) Jl)) (.lit _) ?_;simp -implicitDefEqProofs (disch:=omega) only[Wz,seval];exact JoD 3 own rfl (by show 1<=2;decide) rfl (.pure (.lit _)) (Jb rfl Jl) Jl
 refine J5 (JE Tryz.func101 rfl Tryz.ntmps101 (rs:=[.tmp 2]) rfl (by simp) ?_);unfold kd7;rw[hany];cases hl:r.lexer
 ·simp -implicitDefEqProofs (disch:=omega) only[Wz,seval,Jc4,Jn,Jc,hl,Bool.false_and];exact Jat (.lit _)
 cases hf:r.frag
 ·by_cases k1:e.n=0
  ·by_cases k2:e.level=0
   ·simp -implicitDefEqProofs (disch:=omega) only[Wz,seval,Jc4,Jn,Jc,hl,hf,Bool.not_false,Bool.true_and];have hc:=JjD e.acts (fun a => !(JmK n a)) false h 103 [] [.ptr 0 0] (JlI (Jc4 n r no e)) JsB w1;simp only[JlI,Jc4,Jn,Jc,hl,hf] at hc;refine JF JsA hc ?_;rintro r' h' ⟨rfl,rfl⟩;simp -implicitDefEqProofs (disch:=omega) only[Wz,seval];exact Jat (.lit _)
   ·simp -implicitDefEqProofs (disch:=omega) only[Wz,seval,Jc4,Jn,Jc,hl,hf,Bool.not_false,Bool.true_and,Bool.false_and];exact Jat (.lit _)
  ·simp -implicitDefEqProofs (disch:=omega) only[Wz,seval,Jc4,Jn,Jc,hl,hf,Bool.not_false,Bool.true_and,Bool.false_and];exact Jat (.lit _)
 ·simp -implicitDefEqProofs (disch:=omega) only[Wz,seval,Jc4,Jn,Jc,hl,hf,Bool.not_true,Bool.true_and,Bool.false_and];exact Jat (.lit _)
def kd2 (n:Nt)(r:Nr)(no:Int)(e:Ed):Bool:=decide (0<=e.n/\e.n<(n.rules.length:Int)) && ((n.rules.getD e.n.toNat default).lexer==r.lexer && (decide (0<=e.level/\e.level<=65) && (decide (e.level=0) || (decide (e.n=no) && r.left))))
theorem JqD(n:Nt)(r:Nr)(no:Int)(e:Ed)(h:n.rules.length<=2000000000):JO Pg 95 [.agg (Jc4 n r no e)] (.lit (.bool (kd2 n r no e))):=by
 refine Jm Tryz.func95 rfl Tryz.ntmps95 (rs:=[.tmp 2]) rfl (by simp) ?_;simp -implicitDefEqProofs (disch:=omega) only[Wz,seval,Jc4,Jn,Jc,Jh,Lx];refine Jba (n:=85) (σ':=⟨[(2,.lit (.bool (kd2 n r no e)))],⟨[],[],1⟩,85⟩) 1 82 (.alt 82 .leaf .nil) rfl (by decide) (by decide) mixed (by kernel_rfl) (by decide) ?_ ?_
 ·unfold kd2;by_cases k1:0<=e.n
  ·by_cases k2:e.n<(n.rules.length:Int)
   ·cases hx:((n.rules.getD e.n.toNat default).lexer==r.lexer)
    ·simp -implicitDefEqProofs (disch:=omega) only[Wz,seval,Jc,hx,Bool.true_and,Bool.false_and];exact St.wk.cp (St.wk_slots1 (by simp[lk]) (by simp[lk]) (fun t=>rfl))
    ·by_cases k3:0<=e.level
     ·by_cases k4:e.level<=65
      ·by_cases k5:e.level=0
       ·simp -implicitDefEqProofs (disch:=omega) only[Wz,seval,Jc,hx,Bool.true_and,Bool.false_and,Bool.true_or];exact St.wk.cp (St.wk_slots1 (by simp[lk]) (by simp[lk]) (fun t=>rfl))
       ·by_cases k6:e.n=no
        ·cases hl:r.left
         ·simp -implicitDefEqProofs (disch:=omega) only[Wz,seval,Jc,hx,Bool.true_and,Bool.false_and,hl,Bool.false_or,Bool.and_false,Bool.and_true];exact St.wk.cp (St.wk_slots1 (by simp[lk]) (by simp[lk]) (fun t=>rfl))
         ·simp -implicitDefEqProofs (disch:=omega) only[Wz,seval,Jc,hx,Bool.true_and,Bool.false_and,hl,Bool.false_or,Bool.and_false,Bool.and_true];exact St.wk.cp (St.wk_slots1 (by simp[lk]) (by simp[lk]) (fun t=>rfl))
        ·simp -implicitDefEqProofs (disch:=omega) only[Wz,seval,Jc,hx,Bool.true_and,Bool.false_and,Bool.false_or];exact St.wk.cp (St.wk_slots1 (by simp[lk]) (by simp[lk]) (fun t=>rfl))
      ·simp -implicitDefEqProofs (disch:=omega) only[Wz,seval,Jc,hx,Bool.true_and,Bool.false_and];exact St.wk.cp (St.wk_slots1 (by simp[lk]) (by simp[lk]) (fun t=>rfl))
     ·simp -implicitDefEqProofs (disch:=omega) only[Wz,seval,Jc,hx,Bool.true_and,Bool.false_and];exact St.wk.cp (St.wk_slots1 (by simp[lk]) (by simp[lk]) (fun t=>rfl))
   ·simp -implicitDefEqProofs (disch:=omega) only[Wz,seval,Bool.false_and];exact St.wk.cp (St.wk_slots1 (by simp[lk]) (by simp[lk]) (fun t=>rfl))
  ·simp -implicitDefEqProofs (disch:=omega) only[Wz,seval,Bool.false_and];exact St.wk.cp (St.wk_slots1 (by simp[lk]) (by simp[lk]) (fun t=>rfl))
 ·simp -implicitDefEqProofs (disch:=omega) only[Wz,seval];exact Ja (.lit _)
end Go.Proofs.Y
end
