/- Parts of the proof, laid together. -/
import Derived.Test.YtgbbhilflgekhaaGreatDoorVed
set_option linter.unusedVariables false
set_option linter.unusedSimpArgs false
set_option maxRecDepth 20000
set_option maxHeartbeats 16000000
section
namespace Go.Proofs.Y
open Go Go.Ab
open Go.Proofs.Tryz renaming prog->Pg
def ofN (n:Nt)(s r:Int):Bool:=decide (0<=s) && (decide (s<n.states.length) && ((n.states.getD s.toNat default).rule==r))
theorem Jht{T:Type}{l:List T}{p:T->Bool}{i:Nat}{x:T}(hx:l[i]? = some x)(hno:∀ y∈l.take i,p y=false)(h:p x=true):l.any p=true/\l.findIdx p=i:=by
 obtain⟨hi,rfl⟩:=List.getElem?_eq_some_iff.1 hx;refine⟨List.any_eq_true.2 ⟨_,List.getElem_mem hi,h⟩,?_⟩;rw[List.findIdx_eq hi];refine⟨h,fun j hj=>hno _ ?_⟩;rw[List.mem_take_iff_getElem];exact⟨j,by omega,rfl⟩
theorem Je9{T:Type}{l:List T}{p:T->Bool}{i:Nat}{x:T}(hx:l[i]? = some x)(hno:∀ y∈l.take i,p y=false)(h:p x=false):∀ y∈l.take (i+1),p y=false:=fun y hy=>by
 rw[List.take_add_one,hx] at hy;rcases List.mem_append.1 hy with hy | hy
 ·exact hno y hy
 ·simp at hy;rw[hy];exact h
theorem Jhu{T:Type}{l:List T}{p:T->Bool}(hno:∀ y∈l.take l.length,p y=false):l.any p=false:=by
 rw[List.take_length] at hno;rw[List.any_eq_false];intro x hx;simp[hno x hx]
def JdD {T:Type}(l:List T)(p:T->Bool):Int:=if l.any p then ((l.findIdx p:Nat):Int) else -1
theorem Jgw{T:Type}(l:List T)(p:T->Bool):decide (JdD l p >= 0)=l.any p:=by
 unfold JdD;cases l.any p with
 | true=>simp
 | false=>simp
theorem JoN(l:List (Int × Int))(p:(Int × Int)->Bool)(fl:Bool)(hs:l.length<=2000000000)(fn:Nat)(first cap:List AV)(h:Hp)(hc:Jg Pg fn)(hp:∀ t∈l,JaM Pg fn (first++[.agg (JA t)]++cap) h (.lit (.bool (p t)))) :
  JaM Pg 122 [.vec (l.map JA) fl,.fn (.func fn) first cap] h (.lit (.int .i64 (JdD l p))):=by
 refine JL Tryz.func122 rfl Tryz.ntmps122 (rs:=[.tmp 4]) rfl (by simp) ?_;simp (disch:=omega) only[Wz,seval];refine Jb7 l.length h.nx (fun i (_:Unit)=>⟨[(0,.vec (l.map JA) fl),(1,.fn (.func fn) first cap),(7,.lit (.int .i64 l.length)),(8,.lit (.int .i64 i))],h,19⟩) (fun i _=>∀ y∈l.take i,p y=false) (fun _ _=>rfl) () (St.wk_slots (by simp[lk])) (by simp) (fun i _ hlt hno=>?_) (fun _ hno=>?_)
 ·have hx:=List.getElem?_eq_getElem hlt;generalize l[i]=x at hx;have gx:(l.map JA).getD i []=JA x:=Jd6 JA hx;simp (disch:=omega) only[Wz,seval,gx,Jbw];refine JE hc (hp x (List.mem_of_getElem? hx)) ?_;rintro r h' ⟨rfl,rfl⟩;cases hpx:p x with
  | true =>
   obtain⟨e1,e2⟩:=Jht hx hno hpx;have eiv:JdD l p=(i:Int):=by unfold JdD;rw[e1,e2];rfl
   simp (disch:=omega) only[Wz,seval,eiv]
  | false =>
   simp (disch:=omega) only[Wz,seval];exact⟨(),Je9 hx hno hpx,St.wk.cp (St.wk_slots (by simp[lk]))⟩
 ·have eiv:JdD l p = -1:=by unfold JdD;rw[Jhu hno];rfl
  simp (disch:=omega) only[Wz,seval,eiv]
theorem Jqu(l:List Gd)(p:Gd->Bool)(fl:Bool)(hs:l.length<=2000000000)(fn:Nat)(first cap:List AV)(h:Hp)(hc:Jg Pg fn)(hp:∀ t∈l,JaM Pg fn (first++[.agg (JaZ t)]++cap) h (.lit (.bool (p t)))) :
  JaM Pg 126 [.vec (l.map JaZ) fl,.fn (.func fn) first cap] h (.lit (.int .i64 (JdD l p))):=by
 refine JL Tryz.func126 rfl Tryz.ntmps126 (rs:=[.tmp 4]) rfl (by simp) ?_;simp (disch:=omega) only[Wz,seval];refine Jb7 l.length h.nx (fun i (_:Unit)=>⟨[(0,.vec (l.map JaZ) fl),(1,.fn (.func fn) first cap),(7,.lit (.int .i64 l.length)),(8,.lit (.int .i64 i))],h,19⟩) (fun i _=>∀ y∈l.take i,p y=false) (fun _ _=>rfl) () (St.wk_slots (by simp[lk])) (by simp) (fun i _ hlt hno=>?_) (fun _ hno=>?_)
 ·have hx:=List.getElem?_eq_getElem hlt;generalize l[i]=x at hx;have gx:(l.map JaZ).getD i []=JaZ x:=Jd6 JaZ hx;simp (disch:=omega) only[Wz,seval,gx,Jeq];refine JE hc (hp x (List.mem_of_getElem? hx)) ?_;rintro r h' ⟨rfl,rfl⟩;cases hpx:p x with
  | true =>
   obtain⟨e1,e2⟩:=Jht hx hno hpx;have eiv:JdD l p=(i:Int):=by unfold JdD;rw[e1,e2];rfl
   simp (disch:=omega) only[Wz,seval,eiv]
  | false =>
   simp (disch:=omega) only[Wz,seval];exact⟨(),Je9 hx hno hpx,St.wk.cp (St.wk_slots (by simp[lk]))⟩
 ·have eiv:JdD l p = -1:=by unfold JdD;rw[Jhu hno];rfl
  simp (disch:=omega) only[Wz,seval,eiv]
theorem Jqv(l:List (Int × Int))(p:(Int × Int)->Bool)(fl:Bool)(hs:l.length<=2000000000)(fn:Nat)(first cap:List AV)(h:Hp)(hc:Jg Pg fn)(hp:∀ t∈l,JaM Pg fn (first++[.agg (Jbi t)]++cap) h (.lit (.bool (p t)))) :
  JaM Pg 109 [.vec (l.map Jbi) fl,.fn (.func fn) first cap] h (.lit (.int .i64 (JdD l p))):=by
 refine JL Tryz.func109 rfl Tryz.ntmps109 (rs:=[.tmp 4]) rfl (by simp) ?_;simp (disch:=omega) only[Wz,seval];refine Jb7 l.length h.nx (fun i (_:Unit)=>⟨[(0,.vec (l.map Jbi) fl),(1,.fn (.func fn) first cap),(7,.lit (.int .i64 l.length)),(8,.lit (.int .i64 i))],h,19⟩) (fun i _=>∀ y∈l.take i,p y=false) (fun _ _=>rfl) () (St.wk_slots (by simp[lk])) (by simp) (fun i _ hlt hno=>?_) (fun _ hno=>?_)
 ·have hx:=List.getElem?_eq_getElem hlt;generalize l[i]=x at hx;have gx:(l.map Jbi).getD i []=Jbi x:=Jd6 Jbi hx;simp (disch:=omega) only[Wz,seval,gx,Jes];refine JE hc (hp x (List.mem_of_getElem? hx)) ?_;rintro r h' ⟨rfl,rfl⟩;cases hpx:p x with
  | true =>
   obtain⟨e1,e2⟩:=Jht hx hno hpx;have eiv:JdD l p=(i:Int):=by unfold JdD;rw[e1,e2];rfl
   simp (disch:=omega) only[Wz,seval,eiv]
  | false =>
   simp (disch:=omega) only[Wz,seval];exact⟨(),Je9 hx hno hpx,St.wk.cp (St.wk_slots (by simp[lk]))⟩
 ·have eiv:JdD l p = -1:=by unfold JdD;rw[Jhu hno];rfl
  simp (disch:=omega) only[Wz,seval,eiv]
theorem JoO(l:List Orc)(p:Orc->Bool)(fl:Bool)(hs:l.length<=2000000000)(fn:Nat)(first cap:List AV)(h:Hp)(hc:Jg Pg fn)(hp:∀ t∈l,JaM Pg fn (first++[.agg (Jb9 t)]++cap) h (.lit (.bool (p t)))) :
  JaM Pg 113 [.vec (l.map Jb9) fl,.fn (.func fn) first cap] h (.lit (.int .i64 (JdD l p))):=by
 refine JL Tryz.func113 rfl Tryz.ntmps113 (rs:=[.tmp 4]) rfl (by simp) ?_;simp (disch:=omega) only[Wz,seval];refine Jb7 l.length h.nx (fun i (_:Unit)=>⟨[(0,.vec (l.map Jb9) fl),(1,.fn (.func fn) first cap),(7,.lit (.int .i64 l.length)),(8,.lit (.int .i64 i))],h,19⟩) (fun i _=>∀ y∈l.take i,p y=false) (fun _ _=>rfl) () (St.wk_slots (by simp[lk])) (by simp) (fun i _ hlt hno=>?_) (fun _ hno=>?_)
 ·have hx:=List.getElem?_eq_getElem hlt;generalize l[i]=x at hx;have gx:(l.map Jb9).getD i []=Jb9 x:=Jd6 Jb9 hx;simp (disch:=omega) only[Wz,seval,gx,Jer];refine JE hc (hp x (List.mem_of_getElem? hx)) ?_;rintro r h' ⟨rfl,rfl⟩;cases hpx:p x with
  | true =>
   obtain⟨e1,e2⟩:=Jht hx hno hpx;have eiv:JdD l p=(i:Int):=by unfold JdD;rw[e1,e2];rfl
   simp (disch:=omega) only[Wz,seval,eiv]
  | false =>
   simp (disch:=omega) only[Wz,seval];exact⟨(),Je9 hx hno hpx,St.wk.cp (St.wk_slots (by simp[lk]))⟩
 ·have eiv:JdD l p = -1:=by unfold JdD;rw[Jhu hno];rfl
  simp (disch:=omega) only[Wz,seval,eiv]
theorem JjO(l:List (Int × Int))(p:(Int × Int)->Bool)(fl:Bool)(hs:l.length<=2000000000)(fn:Nat)(first cap:List AV)(h:Hp)(hc:Jg Pg fn)(hp:∀ t∈l,JaM Pg fn (first++[.agg (JA t)]++cap) h (.lit (.bool (p t)))) :
  JaM Pg 102 [.vec (l.map JA) fl,.fn (.func fn) first cap] h (.lit (.bool (l.any p))):=by
 refine JL Tryz.func102 rfl Tryz.ntmps102 (rs:=[.tmp 4]) rfl (by simp) ?_;simp (disch:=omega) only[Wz,seval];refine JE JsR (JoN l p fl hs fn first cap h hc hp) ?_;rintro r h' ⟨rfl,rfl⟩;simp (disch:=omega) only[Wa,tyW,seval,Jgw]
theorem Jcm(l:List Gd)(p:Gd->Bool)(fl:Bool)(hs:l.length<=2000000000)(fn:Nat)(first cap:List AV)(h:Hp)(hc:Jg Pg fn)(hp:∀ t∈l,JaM Pg fn (first++[.agg (JaZ t)]++cap) h (.lit (.bool (p t)))) :
  JaM Pg 115 [.vec (l.map JaZ) fl,.fn (.func fn) first cap] h (.lit (.bool (l.any p))):=by
 refine JL Tryz.func115 rfl Tryz.ntmps115 (rs:=[.tmp 4]) rfl (by simp) ?_;simp (disch:=omega) only[Wz,seval];refine JE JsT (Jqu l p fl hs fn first cap h hc hp) ?_;rintro r h' ⟨rfl,rfl⟩;simp (disch:=omega) only[Wa,tyW,seval,Jgw]
theorem JkW(l:List (Int × Int))(p:(Int × Int)->Bool)(fl:Bool)(hs:l.length<=2000000000)(fn:Nat)(first cap:List AV)(h:Hp)(hc:Jg Pg fn)(hp:∀ t∈l,JaM Pg fn (first++[.agg (Jbi t)]++cap) h (.lit (.bool (p t)))) :
  JaM Pg 87 [.vec (l.map Jbi) fl,.fn (.func fn) first cap] h (.lit (.bool (l.any p))):=by
 refine JL Tryz.func87 rfl Tryz.ntmps87 (rs:=[.tmp 4]) rfl (by simp) ?_;simp (disch:=omega) only[Wz,seval];refine JE JsM (Jqv l p fl hs fn first cap h hc hp) ?_;rintro r h' ⟨rfl,rfl⟩;simp (disch:=omega) only[Wa,tyW,seval,Jgw]
def Jr(b:Bool):List AV:=[.lit (.bool b)]
theorem Jad(p:Bool):∀ c∈Jr p,Ab.Pure c:=Jau (by simp[Jr])
theorem Js8(l:List Bool)(v:Bool)(fl:Bool)(hs:l.length<=2000000000):JR Pg 105 ([.vec (l.map Jr) fl]++Jr v) (.lit (.int .i64 (JdD l fun x:Bool=>v==x))):=by
 refine Jn Tryz.func105 rfl Tryz.ntmps105 (rs:=[.tmp 4]) rfl (by simp[Jr]) ?_;simp (disch:=omega) only[Wz,seval,Jr];refine Jb7 l.length 0 (fun i (_:Unit)=>⟨[(0,.vec (l.map Jr) fl),(7,.lit (.int .i64 l.length)),(8,.lit (.int .i64 i))]++(Jr v).map (fun c=>(1,c)),.none,19⟩) (fun i _=>∀ x∈l.take i,(v==x)=false) (fun _ _=>rfl) () (St.wk_slots (by simp[lk,Jr])) (by simp) (fun i _ hlt hno=>?_) (fun _ hno=>?_)
 ·have hx:=List.getElem?_eq_getElem hlt;generalize l[i]=x at hx;have gx:(l.map Jr).getD i []=Jr x:=Jd6 Jr hx;simp (disch:=omega) only[Wz,seval,gx,Jr];cases hpx:(v==x) with
  | true =>
   obtain⟨e1,e2⟩:=Jht (p:=fun x:Bool=>v==x) hx hno hpx;have eiv:JdD l (fun x:Bool=>v==x)=(i:Int):=by unfold JdD;rw[e1,e2];rfl
   simp (disch:=omega) only[Wz,seval,eiv];exact Ja (.lit _)
  | false =>
   simp (disch:=omega) only[Wz,seval];exact⟨(),Je9 (p:=fun x:Bool=>v==x) hx hno hpx,St.wk.cp (St.wk_slots (by simp[lk,Jr]))⟩
 ·have eiv:JdD l (fun x:Bool=>v==x) = -1:=by unfold JdD;rw[Jhu (p:=fun x:Bool=>v==x) hno];rfl
  simp (disch:=omega) only[Wz,seval,eiv,Jr];exact Ja (.lit _)
theorem JmE(l:List Bool)(v:Bool)(fl:Bool)(hs:l.length<=2000000000):JR Pg 83 ([.vec (l.map Jr) fl]++Jr v) (.lit (.bool (l.any fun x:Bool=>v==x))):=by
 refine Jn Tryz.func83 rfl Tryz.ntmps83 (rs:=[.tmp 4]) rfl (by simp[Jr]) ?_;simp (disch:=omega) only[Wz,seval,Jr];refine Je JsL (Js8 l v fl hs) (Jb (.vec (Ji Jad _)) (Jb (.lit _) Jl)) (.lit _) ?_;simp (disch:=omega) only[Wa,tyW,seval,Jgw];exact Ja (.lit _)
theorem Jqw(l:List ByteArray)(v:ByteArray)(fl:Bool)(hs:l.length<=2000000000):JR Pg 139 ([.vec (l.map JaG) fl]++JaG v) (.lit (.int .i64 (JdD l fun x:ByteArray=>v.toList==x.toList))):=by
 refine Jn Tryz.func139 rfl Tryz.ntmps139 (rs:=[.tmp 4]) rfl (by simp[JaG]) ?_;simp (disch:=omega) only[Wz,seval,JaG];refine Jb7 l.length 0 (fun i (_:Unit)=>⟨[(0,.vec (l.map JaG) fl),(7,.lit (.int .i64 l.length)),(8,.lit (.int .i64 i))]++(JaG v).map (fun c=>(1,c)),.none,19⟩) (fun i _=>∀ x∈l.take i,(v.toList==x.toList)=false) (fun _ _=>rfl) () (St.wk_slots (by simp[lk,JaG])) (by simp) (fun i _ hlt hno=>?_) (fun _ hno=>?_)
 ·have hx:=List.getElem?_eq_getElem hlt;generalize l[i]=x at hx;have gx:(l.map JaG).getD i []=JaG x:=Jd6 JaG hx;simp (disch:=omega) only[Wz,seval,gx,JaG];cases hpx:(v.toList==x.toList) with
  | true =>
   obtain⟨e1,e2⟩:=Jht (p:=fun x:ByteArray=>v.toList==x.toList) hx hno hpx;have eiv:JdD l (fun x:ByteArray=>v.toList==x.toList)=(i:Int):=by unfold JdD;rw[e1,e2];rfl
   simp (disch:=omega) only[Wz,seval,eiv];exact Ja (.lit _)
  | false =>
   simp (disch:=omega) only[Wz,seval];exact⟨(),Je9 (p:=fun x:ByteArray=>v.toList==x.toList) hx hno hpx,St.wk.cp (St.wk_slots (by simp[lk,JaG]))⟩
 ·have eiv:JdD l (fun x:ByteArray=>v.toList==x.toList) = -1:=by unfold JdD;rw[Jhu (p:=fun x:ByteArray=>v.toList==x.toList) hno];rfl
  simp (disch:=omega) only[Wz,seval,eiv,JaG];exact Ja (.lit _)
theorem JkX(l:List ByteArray)(v:ByteArray)(fl:Bool)(hs:l.length<=2000000000):JR Pg 136 ([.vec (l.map JaG) fl]++JaG v) (.lit (.bool (l.any fun x:ByteArray=>v.toList==x.toList))):=by
 refine Jn Tryz.func136 rfl Tryz.ntmps136 (rs:=[.tmp 4]) rfl (by simp[JaG]) ?_;simp (disch:=omega) only[Wz,seval,JaG];refine Je Js4 (Jqw l v fl hs) (Jb (.vec (Ji Jao _)) (Jb (.lit _) Jl)) (.lit _) ?_;simp (disch:=omega) only[Wa,tyW,seval,Jgw];exact Ja (.lit _)
def Jcn(c:Int):Bool:=(decide (c >= 97) && decide (c<=122)) || (decide (c >= 65) && decide (c<=90))
def Jgx(c:Int):Bool:=decide (c >= 48) && decide (c<=57)
def Jb0(c:Int):Bool:=Jcn c || (Jgx c || c==95)
theorem Jgy(c:Int):JR Pg 133 [.lit (.int .u8 c)] (.lit (.bool (Jcn c))):=by
  refine Jn Tryz.func133 rfl Tryz.ntmps133 (rs:=[.tmp 2]) rfl (by simp) ?_;unfold Jcn;by_cases h1:c >= 97 <;> by_cases h2:c<=122 <;> by_cases h3:c >= 65 <;> by_cases h4:c<=90 <;> first
    | omega
    | (simp (disch:=omega) only[Wz,seval,Bool.and_true,Bool.true_and,Bool.or_true,Bool.true_or,Bool.false_or,Bool.or_false,Bool.and_false,Bool.false_and]
       exact Ja (.lit _))
theorem JmF(c:Int):JR Pg 138 [.lit (.int .u8 c)] (.lit (.bool (Jgx c))):=by
  refine Jn Tryz.func138 rfl Tryz.ntmps138 (rs:=[.tmp 2]) rfl (by simp) ?_;unfold Jgx;by_cases h1:c >= 48 <;> by_cases h2:c<=57 <;> first
    | omega
    | (simp (disch:=omega) only[Wz,seval,Bool.and_true,Bool.true_and,Bool.or_true,Bool.true_or,Bool.false_or,Bool.or_false,Bool.and_false,Bool.false_and]
       exact Ja (.lit _))
theorem JkY(c:Int):JR Pg 135 [.lit (.int .u8 c)] (.lit (.bool (Jb0 c))):=by
 refine Jn Tryz.func135 rfl Tryz.ntmps135 (rs:=[.tmp 2]) rfl (by simp) ?_;unfold Jb0;simp (disch:=omega) only[Wz,seval];refine Je JoK (Jgy c) (Jb (.lit _) Jl) (.lit _) ?_;cases Jcn c with
 | true =>
  simp (disch:=omega) only[Wz,seval,Bool.true_or];exact Ja (.lit _)
 | false =>
  simp (disch:=omega) only[Wz,seval];refine Je Js3 (JmF c) (Jb (.lit _) Jl) (.lit _) ?_;cases Jgx c with
  | true =>
   simp (disch:=omega) only[Wz,seval,Bool.true_or,Bool.or_true,Bool.false_or];exact Ja (.lit _)
  | false =>
   simp (disch:=omega) only[Wz,seval,Bool.false_or];exact Ja (.lit _)
def Jc3(s:ByteArray)(i:Nat):Int:=((s.data.getD i 0).toNat:Int)
def JcE(s:ByteArray)(p:Int->Bool):Nat:=(s.data.toList.takeWhile fun b=>p (b.toNat:Int)).length
theorem Jfw{l:List UInt8}{p:Int->Bool}{i:Nat}(h:i<=(l.takeWhile fun b=>p (b.toNat:Int)).length):(if hi:i<l.length then p ((l[i]).toNat:Int) else false)=decide (i<(l.takeWhile fun b=>p (b.toNat:Int)).length):=by
 induction l generalizing i with
 | nil=>simp
 | cons b l ih =>
  by_cases hb:p (b.toNat:Int)=true
  ·rw[List.takeWhile_cons_of_pos (by simpa using hb)] at h ⊢;cases i with
   | zero=>simp[hb]
   | succ i =>
    have:=ih (i:=i) (by simpa using h);simp only[List.length_cons,Nat.add_lt_add_iff_right,List.getElem_cons_succ];exact this
  ·rw[List.takeWhile_cons_of_neg (by simpa using hb)] at h ⊢;have:i=0:=by simpa using h
   subst this;simp at hb;simp[hb]
theorem JmG(s:ByteArray)(p:Int->Bool)(hs:s.size<=9000000000000000000)(fn:Nat)(hc:Jg Pg fn)(hp:∀ c,JR Pg fn [.lit (.int .u8 c)] (.lit (.bool (p c)))) :
  JR Pg 134 [.lit (.string s),.fn (.func fn) [] []] (.lit (.int .i64 (JcE s p))):=by
 refine Jn Tryz.func134 rfl Tryz.ntmps134 (rs:=[.tmp 4]) rfl (by simp) ?_;simp (disch:=omega) only[Wz,seval];have hle:JcE s p<=s.size:=by unfold JcE;exact Nat.le_trans (List.takeWhile_sublist _).length_le (by rw[Array.length_toList];exact Nat.le_refl _)
 refine Jb7 (JcE s p) 0 (fun i (_:Unit)=>⟨[(5,.lit (.int .i64 i)),(0,.lit (.string s)),(1,.fn (.func fn) [] [])],.none,20⟩) (fun _ _=>True) (fun _ _=>rfl) () (St.wk_slots (by simp[lk])) trivial (fun i _ hlt _=>?_) (fun _ _=>?_)
 ·have hi:i<s.size:=by omega
  have gb:s[i]? = some s[i]:=getElem?_pos s i hi;have pb:p ((s[i]).toNat:Int)=true:=by
   have:=Jfw (l:=s.data.toList) (p:=p) (i:=i) (Nat.le_of_lt hlt);rw[dif_pos (by rw[Array.length_toList];exact hi)] at this;have e:s.data.toList[i]'(by rw[Array.length_toList];exact hi)=s[i]:=by rw[Array.getElem_toList];rfl
   rw[e] at this;rw[this];exact decide_eq_true hlt
  simp (disch:=omega) only[Wz,seval,gb];refine Je hc (hp _) (Jb (.lit _) Jl) (.lit _) ?_;simp (disch:=omega) only[Wz,seval,pb];exact⟨(),St.wk.cp (St.wk_slots (by simp[lk]))⟩
 ·by_cases hi:JcE s p<s.size
  ·have gb:s[JcE s p]? = some s[JcE s p]:=getElem?_pos s _ hi;have pb:p ((s[JcE s p]).toNat:Int)=false:=by
    have:=Jfw (l:=s.data.toList) (p:=p) (i:=JcE s p) (Nat.le_refl _);rw[dif_pos (by rw[Array.length_toList];exact hi)] at this;have e:s.data.toList[JcE s p]'(by rw[Array.length_toList];exact hi)=s[JcE s p]:=by rw[Array.getElem_toList];rfl
    rw[e] at this;rw[this];exact decide_eq_false (Nat.lt_irrefl _)
   simp (disch:=omega) only[Wz,seval,gb];refine Je hc (hp _) (Jb (.lit _) Jl) (.lit _) ?_;simp (disch:=omega) only[Wz,seval,pb];exact Ja (.lit _)
  ·simp (disch:=omega) only[Wz,seval];exact Ja (.lit _)
def Jhv:List AV:=[.lit (.string ⟨#[]⟩),.lit (.string ⟨#[]⟩),.lit (.string ⟨#[]⟩),.lit (.string ⟨#[]⟩),.lit (.string ⟨#[]⟩),.lit (.string ⟨#[]⟩),.lit (.string ⟨#[]⟩),.lit (.string ⟨#[]⟩),.lit (.string ⟨#[]⟩),.lit (.string ⟨#[]⟩),
 .lit (.string ⟨#[105,110,100,101,120]⟩),.lit (.string ⟨#[99,111,108,117,109,110]⟩),.lit (.string ⟨#[108,97]⟩),.lit (.string ⟨#[109,111,100,101]⟩),.lit (.string ⟨#[]⟩)]
def JmH:List ByteArray:=[⟨#[105,110,100,101,120]⟩,⟨#[99,111,108,117,109,110]⟩,⟨#[108,97]⟩,⟨#[109,111,100,101]⟩]
theorem Jgz:∀ c∈Jhv,Ab.Pure c:=Jau (by simp[Jhv])
theorem JmI:JR Pg 140 [] (.agg Jhv):=by
 refine Jn Tryz.func140 rfl Tryz.ntmps140 (rs:=[.cell 0 224]) rfl (by simp) ?_;simp (disch:=omega) only[Wz,seval];exact Ja (.agg Jgz)
theorem JoP:JR Pg 137 [] (.vec (JmH.map JaG) false):=by
 refine Jn Tryz.func137 rfl Tryz.ntmps137 (rs:=[.tmp 0]) rfl (by simp) ?_;simp (disch:=omega) only[Wz,seval];refine Je Js5 JmI Jl (.agg Jgz) ?_;simp (disch:=omega) only[Wz,seval,Jhv];refine Jss (σ':=⟨[(1,.np Jhv),(0,.vec [] true)],⟨[],[],1⟩,4⟩) (St.wk_box (id:=0) (cs:=Jhv) rfl rfl rfl (fun g g' x c p hp=>?_) (fun g g' x c p hp=>by cases hp) (fun g p hp=>by cases hp)) (Jjk (v:=.vec (JmH.map JaG) false) ?_ ?_)
 ·simp only[List.mem_cons,List.not_mem_nil,or_false] at hp;rcases hp with rfl | rfl
  ·exact⟨_,rfl,c⟩
  ·exact⟨_,rfl,JF x _⟩
 ·rfl
 ·simp (disch:=omega) only[Wz,seval];exact Ja (.vec (Ji Jao _))
def JlP (op:Int):AV:=if op=5 then .fn (.func 127) [] [] else if op=6 then .fn (.func 128) [] [] else if op=7 then .fn (.func 129) [] [] else .lit .nilFunc
theorem JgA(op:Int):Ab.Pure (JlP op):=by
 unfold JlP;split
 ·exact .fn Jl Jl
 ·split
  ·exact .fn Jl Jl
  ·split
   ·exact .fn Jl Jl
   ·exact .lit _
theorem JeP(op:Int)(lo : -128<=op)(hi:op<=127):JR Pg 118 [.lit (.int .i8 op)] (JlP op):=by
 refine Jn Tryz.func118 rfl Tryz.ntmps118 (rs:=[.tmp 2]) rfl (by simp) ?_;simp (disch:=omega) only[Wz,seval];by_cases h0:op<0
 ·have e:JlP op = .lit .nilFunc:=by unfold JlP;rw[if_neg (by omega),if_neg (by omega),if_neg (by omega)]
  simp (disch:=omega) only[Wz,seval,e];exact Ja (.lit _)
 ·by_cases h8:op >= 8
  ·have e:JlP op = .lit .nilFunc:=by unfold JlP;rw[if_neg (by omega),if_neg (by omega),if_neg (by omega)]
   simp (disch:=omega) only[Wz,seval,e];exact Ja (.lit _)
  ·rcases(by omega:op=0\/op=1\/op=2\/op=3\/op=4\/op=5\/op=6\/op=7) with rfl | rfl | rfl | rfl | rfl | rfl | rfl | rfl;all_goals
    simp (disch:=omega) only[Wz,seval];have key:∀ h op,JcV h (JlP op) (JlP op):=fun h op=>Ja (JgA op);first | exact key _ 0 | exact key _ 5 | exact key _ 6 | exact key _ 7
def sEq (a b:ByteArray):Bool:=a.toList==b.toList
def Jqx(s:ByteArray):Bool:=sEq s ⟨#[116,114,117,101]⟩ || (sEq s ⟨#[102,97,108,115,101]⟩ || sEq s ⟨#[111,114,97,99,108,101]⟩)
def Jhw(s:ByteArray):Bool:=if s.size=0 then false else if s.size > 40 then false else if Jcn (Jc3 s 0)=false then false else if JcE s Jb0<s.size then false else if Jqx s then false else !(JmH.any fun x=>s.toList==x.toList)
theorem JbU{s:ByteArray}:(s.toList==(⟨#[]⟩:ByteArray).toList)=decide (s.size=0):=by
 rw[<- beq_toListBytes,Bool.eq_iff_iff,decide_eq_true_iff];constructor
 ·intro h;rw[JB h];rfl
 ·intro h;have:s=⟨#[]⟩:=by
   obtain⟨d⟩:=s;have h:d.size=0:=h;rw[Array.size_eq_zero_iff] at h;rw[h]
  rw[this];exact Jhi _
theorem JmK(s:ByteArray)(hs:s.size<=9000000000000000000):JR Pg 132 [.lit (.string s)] (.lit (.bool (Jhw s))):=by
 refine Jn Tryz.func132 rfl Tryz.ntmps132 (rs:=[.tmp 2]) rfl (by simp) ?_;simp (disch:=omega) only[Wz,seval,JbU];unfold Jhw;by_cases h0:s.size=0
 ·simp (disch:=omega) only[Wz,seval];exact Ja (.lit _)
 have gb:s[0]? = some s[0]:=getElem?_pos s 0 (by omega);have eb:((s[0]).toNat:Int)=Jc3 s 0:=by unfold Jc3;rw[Array.getD_eq_getD_getElem?,Array.getElem?_eq_getElem (show 0<s.data.size from Nat.pos_of_ne_zero h0)];rfl
 have gb':(s[Int.toNat 0]?)=some s[0]:=gb;by_cases h1:s.size > 40
 ·simp (disch:=omega) only[Wz,seval];exact Ja (.lit _)
 simp (disch:=omega) only[Wz,seval,gb',gb];refine Je JoK (Jgy _) (Jb (.lit _) Jl) (.lit _) ?_;rw[eb];cases hlt:Jcn (Jc3 s 0) with
 | false =>
  simp (disch:=omega) only[Wz,seval];exact Ja (.lit _)
 | true =>
  simp (disch:=omega) only[Wz,seval];refine Je JsZ (JmG s Jb0 hs 135 Js0 JkY) (Jb (.lit _) (Jb (.fn Jl Jl) Jl)) (.lit _) ?_;by_cases hw:JcE s Jb0<s.size
  ·simp (disch:=omega) only[Wz,seval];exact Ja (.lit _)
  simp (disch:=omega) only[Wz,seval];unfold Jqx sEq;generalize hb1:(s.toList==(⟨#[116,114,117,101]⟩:ByteArray).toList)=b1;generalize hb2:(s.toList==(⟨#[102,97,108,115,101]⟩:ByteArray).toList)=b2;generalize hb3:(s.toList==(⟨#[111,114,97,99,108,101]⟩:ByteArray).toList)=b3;have fin:∀ b:Bool,JcV ⟨[],[],0⟩ (.lit (.bool b)) (.lit (.bool b)):=fun b=>Ja (.lit _);cases b1 <;> cases b2 <;> cases b3
  case false.false.false =>
   simp (disch:=omega) only[Wz,seval,hb1,hb2,hb3,Bool.false_or,Bool.false_eq_true];refine Je Js2 JoP Jl (.vec (Ji Jao _)) ?_;simp (disch:=omega) only[Wz,seval];refine Je Js1 (JkX JmH s false (by decide)) (Jb (.vec (Ji Jao _)) (Jb (.lit _) Jl)) (.lit _) ?_;simp (disch:=omega) only[Wz,seval];exact fin _
  all_goals
   simp (disch:=omega) only[Wz,seval,hb1,hb2,hb3,Bool.false_or,Bool.true_or,Bool.false_eq_true];exact fin _
mutual
def JcB:Gd->Int
 | .mk _ _ _ kids=>sizeGs 1 kids
def sizeGs:Int->List Gd->Int
 | n,[]=>n
 | n,k :: l=>sizeGs (min (n+JcB k) 2147483647) l
end
def JjP (g:Gd):Bool:=if g.kids.length > 0 then false else if g.op.1<9 then false else if g.op.1 > 14 then false else
 if g.op.1=9 then sEq g.name ⟨#[]⟩ && (decide (g.n<1000000000000000000) && decide (g.n > -1000000000000000000)) else if g.op.1=14 then decide (g.n=0) && Jhw g.name else sEq g.name ⟨#[]⟩ && decide (g.n=0)
theorem JkZ(g:Gd)(hs:g.name.size<=9000000000000000000)(hg:g.kids.length<=2000000000):JR Pg 125 [.agg (JaZ g)] (.lit (.bool (JjP g))):=by
 refine Jn Tryz.func125 rfl Tryz.ntmps125 (rs:=[.tmp 2]) rfl (by simp) ?_;simp (disch:=omega) only[Wz,seval,Jy];unfold JjP;by_cases h1:g.kids.length > 0
 ·simp (disch:=omega) only[Wz,seval];exact Ja (.lit _)
 by_cases h2:g.op.1<9
 ·simp (disch:=omega) only[Wz,seval];exact Ja (.lit _)
 by_cases h3:g.op.1 > 14
 ·simp (disch:=omega) only[Wz,seval];exact Ja (.lit _)
 have fin:∀ h (b:Bool),JcV h (.lit (.bool b)) (.lit (.bool b)):=fun h b=>Ja (.lit _);by_cases h4:g.op.1=9
 ·simp (disch:=omega) only[Wz,seval];unfold sEq;generalize (g.name.toList==(⟨#[]⟩:ByteArray).toList)=b1;by_cases h5:g.n<1000000000000000000 <;> by_cases h6:g.n > -1000000000000000000 <;> cases b1
  all_goals
   simp (disch:=omega) only[Wz,seval,Bx];exact fin _ _
 by_cases h5:g.op.1=14
 ·by_cases h6:g.n=0
  ·simp (disch:=omega) only[Wz,seval,Bool.true_and];refine Je JsY (JmK g.name hs) (Jb (.lit _) Jl) (.lit _) ?_;simp (disch:=omega) only[Wz,seval];exact fin _ _
  ·simp (disch:=omega) only[Wz,seval,Bool.false_and];exact fin _ _
 simp (disch:=omega) only[Wz,seval];unfold sEq;generalize (g.name.toList==(⟨#[]⟩:ByteArray).toList)=b1;by_cases h6:g.n=0 <;> cases b1
 all_goals
  simp (disch:=omega) only[Wz,seval,Bx];exact fin _ _
theorem JoQ(g:Gd)(hs:g.name.size<=9000000000000000000)(hg:g.kids.length<=2000000000):Ja9 Pg 125 [.agg (JaZ g)] (.lit (.bool (JjP g))):=.of_pure (JkZ g hs hg) (Jb (.agg (JQ g)) Jl) (.lit _)
theorem JgB:∀ (g:Gd),1<=JcB g/\JcB g<=2147483647:=fun g=>by
 have main:∀ (l:List Gd) (n:Int),(∀ k∈l,1<=JcB k)->1<=n->n<=2147483647->1<=sizeGs n l/\sizeGs n l<=2147483647:=by
  intro l;induction l with
  | nil=>intro n _ h1 h2;exact⟨h1,h2⟩
  | cons k l ih =>
   intro n hk h1 h2;simp only[sizeGs];have:=hk k (by simp);exact ih _ (fun x hx=>hk x (by simp[hx])) (by omega) (by omega)
 have pos:∀ (m:Nat) (g:Gd),gsz g<=m->1<=JcB g:=by
  intro m;induction m with
  | zero=>intro g h;have:=JcI g;omega
  | succ m ih =>
   intro g h;obtain⟨op,n,nm,kids⟩:=g;simp only[JcB];exact(main kids 1 (fun k hk=>ih k (by have:=Jbm (g:=.mk op n nm kids) (k:=k) hk;omega)) (by decide) (by decide)).1
 obtain⟨op,n,nm,kids⟩:=g;simp only[JcB];exact main kids 1 (fun k hk=>pos _ k (Nat.le_refl _)) (by decide) (by decide)
theorem JgC(l:List Gd)(n:Int)(k:Gd):sizeGs n (l++[k])=min (sizeGs n l+JcB k) 2147483647:=by
 induction l generalizing n with
 | nil=>rfl
 | cons x l ih=>simp only[List.cons_append,sizeGs];exact ih _
theorem JlQ(g:Gd):JcB g=sizeGs 1 g.kids:=by cases g;rfl
theorem Jhx(l:List Gd):1<=sizeGs 1 l/\sizeGs 1 l<=2147483647:=JgB (.mk default 0 ⟨#[]⟩ l)
def szS (g:Gd)(i:Nat)(_:Unit):St:=⟨[(9,.lit (.int .i64 (i:Int))),(8,.lit (.int .i64 (g.kids.length:Int))),(7,.vec (g.kids.map JaZ) false),(3,.lit (.int .i64 (sizeGs 1 (g.kids.take i))))],⟨[],[],1⟩,20⟩
theorem JjQ:∀ (m:Nat) (g:Gd),gsz g<=m->m<=2000000000->JR Pg 110 [.agg (JaZ g)] (.lit (.int .i64 (JcB g)))
 | 0,g,h,_=>by have:=JcI g;omega
 | m+1,g,h,hm=>by
  have hl:=Jby g;refine Jn Tryz.func110 rfl Tryz.ntmps110 (rs:=[.tmp 2]) rfl (by simp) ?_;simp (disch:=omega) only[Wz,seval,Jy];refine Jb7 g.kids.length 1 (szS g) (fun _ _=>True) (fun _ _=>rfl) () (St.wk_slots1 (by simp[lk,sizeGs]) (by simp[lk]) (by simp[lk])) trivial (fun i _ hlt _=>?_) (fun _ _=>?_)
  ·have hk:=Ju (l:=g.kids) hlt;have ih:=JjQ m (g.kids.getD i default) (by have:=Jbm hk;omega) (by omega);have r1:=JgB (g.kids.getD i default);have r2:=Jhx (g.kids.take i);have nx:sizeGs 1 (g.kids.take (i+1))=min (sizeGs 1 (g.kids.take i)+JcB (g.kids.getD i default)) 2147483647:=by
    rw[List.take_add_one,JfS hlt,Option.toList_some,JgC]
   have mn:(if (2147483647:Int)<sizeGs 1 (g.kids.take i)+JcB (g.kids.getD i default) then 2147483647 else sizeGs 1 (g.kids.take i)+JcB (g.kids.getD i default))=min (sizeGs 1 (g.kids.take i)+JcB (g.kids.getD i default)) 2147483647:=by omega
   simp (disch:=omega) only[Wz,seval,szS];refine Je JoA ih (Jb (.agg (JQ _)) Jl) (.lit _) ?_;simp (disch:=omega) only[Wa,tyW,seval,tyW,Jdy,mn];refine⟨(),?_⟩;rw[<- nx];exact Jbj (Nat.le_refl _) (by show 1<=2;decide) rfl (Jb ⟨by simp[lk],.pure (.lit _)⟩ (Jb ⟨by simp[lk],.pure (.lit _)⟩ (Jb ⟨by simp[lk],.pure (.vec (Ji JQ _))⟩ (Jb ⟨by simp[lk],.pure (.lit _)⟩ Jl)))) Jl Jl
  ·simp (disch:=omega) only[Wz,seval,szS,List.take_length];rw[<- JlQ];exact Ja (.lit _)
mutual
def JaR:Gd->Bool
 | .mk op n name kids =>
  if sEq name ⟨#[]⟩=false then false else if op.1≠8/\n≠0 then false
  else if op.1=0\/op.1=1 then decide (kids.length=0)
  else if op.1=8 then decide (kids.length=0) && (decide (n<1000000000000000000) && decide (n > -1000000000000000000))
  else if op.1=2 then decide (kids.length=1) && condGs kids
  else if op.1=3\/op.1=4 then decide (kids.length >= 2) && condGs kids
  else decide (5<=op.1/\op.1<=7) && (decide (kids.length=2) && kids.all JjP)
def condGs:List Gd->Bool
 | []=>true
 | g :: l=>JaR g && condGs l
end
theorem JoR(l:List Gd):condGs l=l.all JaR:=by induction l with | nil=>rfl | cons x l ih=>simp[condGs,ih]
theorem Jim(g:Gd):JaR g=if sEq g.name ⟨#[]⟩=false then false else if g.op.1≠8/\g.n≠0 then false
  else if g.op.1=0\/g.op.1=1 then decide (g.kids.length=0)
  else if g.op.1=8 then decide (g.kids.length=0) && (decide (g.n<1000000000000000000) && decide (g.n > -1000000000000000000))
  else if g.op.1=2 then decide (g.kids.length=1) && g.kids.all JaR
  else if g.op.1=3\/g.op.1=4 then decide (g.kids.length >= 2) && g.kids.all JaR
  else decide (5<=g.op.1/\g.op.1<=7) && (decide (g.kids.length=2) && g.kids.all JjP):=by
 obtain⟨op,n,name,kids⟩:=g;rw[JaR,JoR];rfl
inductive Jnu:Gd->Prop
 | mk {g:Gd}:g.name.size<=9000000000000000000->(∀ k∈g.kids,Jnu k)->Jnu g
theorem Jej:∀ (m:Nat) (g:Gd),gsz g<=m->m<=2000000000->Jnu g->Ja9 Pg 111 [.agg (JaZ g)] (.lit (.bool (JaR g)))
  | 0,g,h,_,_=>by have:=JcI g;omega
  | m+1,g,h,hm,hok=>by
    have hl:=Jby g;have ih:∀ k∈g.kids,Ja9 Pg 111 [.agg (JaZ k)] (.lit (.bool (JaR k))):=fun k hk=>Jej m k (by have:=Jbm hk;omega) (by omega) (by cases hok with | mk _ h2=>exact h2 k hk);have gpk:∀ k,∀ v∈[AV.agg (JaZ k)],GP v:=fun k=>Jb (.of_pure (.agg (JQ k))) Jl;have w1:∀ k∈g.kids,Ja9 Pg 124 [.agg (JaZ k)] (.lit (.bool !(JaR k))):=fun k hk=>by
      refine Jaa (JL Tryz.func124 rfl Tryz.ntmps124 (rs:=[.tmp 2]) rfl (by simp) ?_);simp (disch:=omega) only[Wz,seval];refine JV JoB (ih k hk) (gpk k) (.lit _) ?_;simp (disch:=omega) only[Wz,seval];exact Jaw (.lit _)
    refine Jaa (JL Tryz.func111 rfl Tryz.ntmps111 (rs:=[.tmp 2]) rfl (by simp) ?_);simp (disch:=omega) only[Wz,seval,Jy];rw[Jim];have fin:∀ h (b:Bool),Jec h (.lit (.bool b)) (.lit (.bool b)):=fun h b=>Jaw (.lit _);have hsE:(g.name.toList==(⟨#[]⟩:ByteArray).toList)=sEq g.name ⟨#[]⟩:=rfl;cases hE:sEq g.name ⟨#[]⟩ with
    | false =>
      simp (disch:=omega) only[Wz,seval,hsE,hE];exact fin _ _
    | true =>
    by_cases h1:g.op.1≠8/\g.n≠0
    · simp (disch:=omega) only[Wz,seval,hsE,hE]
      exact fin _ _
    have bools:∀ b:Bool,(b && true)=b/\(true && b)=b/\(b && false)=false/\(false && b)=false:=fun b=>by cases b <;> decide
    by_cases h2:g.op.1=8
    · by_cases h3:g.kids.length=0 <;> by_cases h4:g.n<1000000000000000000 <;> by_cases h5:g.n > -1000000000000000000
      all_goals first
        | omega
        | (simp (disch:=omega) only[Wz,seval,hsE,hE,bools]
           exact fin _ _)
    by_cases h3:g.op.1=0
    · by_cases h4:g.kids.length=0
      all_goals
        simp (disch:=omega) only[Wz,seval,hsE,hE,bools];exact fin _ _
    by_cases h4:g.op.1=1
    · by_cases h4:g.kids.length=0
      all_goals
        simp (disch:=omega) only[Wz,seval,hsE,hE,bools];exact fin _ _
    by_cases h5:g.op.1=2
    · by_cases h6:g.kids.length=1
      · obtain⟨k,hk⟩:∃ k,g.kids=[k]:=by
          match hq:g.kids,h6 with
          | [k],_=>exact⟨k,rfl⟩
        have hkm:k∈g.kids:=by rw[hk];simp
        have gk:g.kids.getD 0 default=k:=by rw[hk];rfl
        have ea:g.kids.all JaR=JaR k:=by rw[hk];simp
        rw[ea];simp (disch:=omega) only[Wz,seval,hsE,hE,bools,gk];refine JV JoG (w1 k hkm) (gpk k) (.lit _) ?_;cases JaR k;all_goals
          simp (disch:=omega) only[Wz,seval,bools];exact fin _ _
      · simp (disch:=omega) only[Wz,seval,hsE,hE,bools]
        exact fin _ _
    have hany:(g.kids.any fun k => !(JaR k)) = !(g.kids.all JaR):=by rw[List.not_all_eq_any_not]
    by_cases h6:g.op.1=3\/g.op.1=4
    · by_cases h7:g.kids.length >= 2
      · have hct:=Jcm g.kids (fun k => !(JaR k)) false (by omega) 124 [] [] ⟨[(0,[.lit (.int .i8 g.op.1),.lit (.int .i64 g.n),.lit (.string g.name),.vec (g.kids.map JaZ) false])],[],1⟩ JoG (fun k hk=>(w1 k hk).at (gpk k) (.lit _) _)
        rw[hany] at hct;rcases h6 with h6 | h6
        all_goals
          simp (disch:=omega) only[Wz,seval,hsE,hE,bools];refine JE Jgn hct ?_;rintro r h' ⟨rfl,rfl⟩;cases g.kids.all JaR;all_goals
            simp (disch:=omega) only[Wz,seval,bools];exact fin _ _
      · rcases h6 with h6 | h6
        all_goals
          simp (disch:=omega) only[Wz,seval,hsE,hE,bools];exact fin _ _
    simp (disch:=omega) only[Wz,seval,hsE,hE,bools];refine Je JoD (JeP g.op.1 g.op.lo g.op.hi) (Jb (.lit _) Jl) (JgA _) ?_;by_cases h7:5<=g.op.1/\g.op.1<=7
    · obtain⟨fid,hf⟩:∃ fid,JlP g.op.1 = .fn (.func fid) [] []:=by
        unfold JlP;rcases(by omega:g.op.1=5\/g.op.1=6\/g.op.1=7) with h | h | h <;> rw[h] <;> exact⟨_,rfl⟩
      rw[hf];have ok2:∀ k∈g.kids,k.name.size<=9000000000000000000:=fun k hk=>by cases hok with | mk _ h2=>cases h2 k hk with | mk h3 _=>exact h3
      by_cases h8:g.kids.length=2
      · obtain⟨k,j,hk⟩:∃ k j,g.kids=[k,j]:=by
          match hq:g.kids,h8 with
          | [k,j],_=>exact⟨k,j,rfl⟩
        have hkm:k∈g.kids:=by rw[hk];simp
        have hjm:j∈g.kids:=by rw[hk];simp
        have gk:g.kids.getD 0 default=k:=by rw[hk];rfl
        have gj:g.kids.getD 1 default=j:=by rw[hk];rfl
        have ea:g.kids.all JjP=(JjP k && JjP j):=by rw[hk];simp
        have nk:=JoQ k (ok2 k hkm) (by have:=Jbm hkm;have:=Jby k;omega);have nj:=JoQ j (ok2 j hjm) (by have:=Jbm hjm;have:=Jby j;omega);rw[ea];simp (disch:=omega) only[Wz,seval,bools,gk];refine JV JoH nk (gpk k) (.lit _) ?_;cases JjP k with
        | false =>
          simp (disch:=omega) only[Wz,seval,bools];exact fin _ _
        | true =>
          simp (disch:=omega) only[Wz,seval,bools,gj];refine JV JoH nj (gpk j) (.lit _) ?_;cases JjP j;all_goals
            simp (disch:=omega) only[Wz,seval,bools];exact fin _ _
      · simp (disch:=omega) only[Wz,seval,bools]
        exact fin _ _
    · have e:JlP g.op.1 = .lit .nilFunc:=by unfold JlP;rw[if_neg (by omega),if_neg (by omega),if_neg (by omega)]
      rw[e];simp (disch:=omega) only[Wz,seval,bools];exact fin _ _
def ckG (g:Gd):Bool:=decide (JcB g<=64) && JaR g
theorem gpG(k:Gd):GP (.agg (JaZ k)):=.of_pure (.agg (JQ k))
theorem JgD(g:Gd)(h:gsz g<=2000000000)(hok:Jnu g):Ja9 Pg 89 [.agg (JaZ g)] (.lit (.int .i64 (if ckG g then 0 else 40))):=by
 refine Jaa (JL Tryz.func89 rfl Tryz.ntmps89 (rs:=[.tmp 2]) rfl (by simp) ?_);simp (disch:=omega) only[Wz,seval];refine JV JoA (.of_pure (JjQ _ g (Nat.le_refl _) h) (Jb (.agg (JQ g)) Jl) (.lit _)) (Jb (gpG g) Jl) (.lit _) ?_;unfold ckG;by_cases h1:JcB g<=64
 ·simp (disch:=omega) only[Wz,seval,Bool.true_and];refine JV JoB (Jej _ g (Nat.le_refl _) h hok) (Jb (gpG g) Jl) (.lit _) ?_;cases JaR g;all_goals
   simp (disch:=omega) only[Wz,seval,Bool.false_eq_true];exact Jaw (.lit _)
 ·simp (disch:=omega) only[Wz,seval,Bool.false_and,Bool.false_eq_true];exact Jaw (.lit _)
structure Pl where
 index:Int
 column:Int
 la:Int
 mode:Int
def JaI(p:Pl):List AV:=[.lit (.int .i64 p.index),.lit (.int .i64 p.column),.lit (.int .i64 p.la),.lit (.int .i64 p.mode)]
theorem JaU(p:Pl):∀ c∈JaI p,Ab.Pure c:=Jau (by simp[JaI])
def JmL (g:Gd)(p:Pl):Int:=if g.op.1=9 then g.n else if g.op.1=10 then p.index else if g.op.1=11 then p.column else if g.op.1=12 then p.la else if g.op.1=13 then p.mode else 0
theorem JgE(g:Gd)(p:Pl):JR Pg 117 [.agg (JaZ g),.agg (JaI p)] (.tup [.lit (.int .i64 (JmL g p)),.lit (.bool (decide (9<=g.op.1/\g.op.1<=14)))]):=by
 refine Jn Tryz.func117 rfl Tryz.ntmps117 (rs:=[.tmp 4,.tmp 5]) rfl (by simp) ?_;unfold JmL;have fin:∀ h (n:Int) (b:Bool),JcV h (.tup [.lit (.int .i64 n),.lit (.bool b)]) (.tup [.lit (.int .i64 n),.lit (.bool b)]):=fun h n b=>Ja (.tup (Jb (.lit _) (Jb (.lit _) Jl)));by_cases h1:g.op.1<9
 ·simp (disch:=omega) only[Wz,seval,Jy,JaI];exact fin _ _ _
 by_cases h2:g.op.1 > 14
 ·simp (disch:=omega) only[Wz,seval,Jy,JaI];exact fin _ _ _
 rcases(by omega:g.op.1=9\/g.op.1=10\/g.op.1=11\/g.op.1=12\/g.op.1=13\/g.op.1=14) with h | h | h | h | h | h;all_goals
  simp (disch:=omega) only[Wz,seval,Jy,JaI,h];exact fin _ _ _
theorem JoS(x y:Int):JR Pg 127 [.lit (.int .i64 x),.lit (.int .i64 y)] (.lit (.bool (decide (x<y)))):=by
 refine Jn Tryz.func127 rfl Tryz.ntmps127 (rs:=[.tmp 4]) rfl (by simp) ?_;simp only[Wa,tyW,seval];exact Ja (.lit _)
theorem JoT(x y:Int):JR Pg 128 [.lit (.int .i64 x),.lit (.int .i64 y)] (.lit (.bool (decide (x<=y)))):=by
 refine Jn Tryz.func128 rfl Tryz.ntmps128 (rs:=[.tmp 4]) rfl (by simp) ?_;simp only[Wa,tyW,seval];exact Ja (.lit _)
theorem JoU(x y:Int):JR Pg 129 [.lit (.int .i64 x),.lit (.int .i64 y)] (.lit (.bool (x==y))):=by
 refine Jn Tryz.func129 rfl Tryz.ntmps129 (rs:=[.tmp 4]) rfl (by simp) ?_;simp only[Wa,tyW,seval];exact Ja (.lit _)
def Jzw (op x y:Int):Bool:=if op=5 then decide (x<y) else if op=6 then decide (x<=y) else x==y
def Jqy (o:List Orc)(n index:Int):Bool:=match o.find? fun x=>x.id==n && x.index==index with | some x=>x.says | none=>false
mutual
def JaN(p:Pl)(o:List Orc):Gd->Bool
 | .mk op n name kids =>
  if op.1=0 then true else if op.1=1 then false else if op.1=8 then Jqy o n p.index
  else if op.1=2 then !(saysAnd p o kids) else if op.1=4 then saysOr p o kids else if op.1=3 then saysAnd p o kids
  else Jzw op.1 (JmL (kids.getD 0 default) p) (JmL (kids.getD 1 default) p)
def saysAnd(p:Pl)(o:List Orc):List Gd->Bool
 | []=>true
 | g :: l=>JaN p o g && saysAnd p o l
def saysOr(p:Pl)(o:List Orc):List Gd->Bool
 | []=>false
 | g :: l=>JaN p o g || saysOr p o l
end
theorem JmM(p:Pl)(o:List Orc)(l:List Gd):saysAnd p o l=l.all (JaN p o):=by induction l with | nil=>rfl | cons x l ih=>simp[saysAnd,ih]
theorem JoV(p:Pl)(o:List Orc)(l:List Gd):saysOr p o l=l.any (JaN p o):=by induction l with | nil=>rfl | cons x l ih=>simp[saysOr,ih]
theorem JlR(p:Pl)(o:List Orc)(g:Gd):JaN p o g=if g.op.1=0 then true else if g.op.1=1 then false else if g.op.1=8 then Jqy o g.n p.index
  else if g.op.1=2 then !(g.kids.all (JaN p o)) else if g.op.1=4 then g.kids.any (JaN p o) else if g.op.1=3 then g.kids.all (JaN p o)
  else Jzw g.op.1 (JmL (g.kids.getD 0 default) p) (JmL (g.kids.getD 1 default) p):=by
 obtain⟨op,n,name,kids⟩:=g;rw[JaN,JmM,JoV];rfl
def Jkt (p:Pl)(o:List Orc)(g:Gd)(ext:List (Nat × List AV))(n:Nat):Hp:=⟨(0,[.lit (.int .i8 g.op.1),.lit (.int .i64 g.n),.lit (.string g.name),.vec (g.kids.map JaZ) false]) :: (1,[.lit (.int .i64 p.index),.lit (.int .i64 p.column),.lit (.int .i64 p.la),.lit (.int .i64 p.mode)]) :: (2,[.vec (o.map Jb9) false]) :: (3,[.fn (.func 112) [] [.ptr 1 0,.ptr 2 0]]) :: ext,[],n⟩
def Jk0 (p:Pl)(o:List Orc)(g:Gd):Hp:=Jkt p o g [] 4
theorem Jin(p:Pl)(o:List Orc)(g:Gd)(ext:List (Nat × List AV))(n:Nat)(hn:4<=n)(he:∀ b∈ext,b.1<n/\∀ c∈b.2,Ab.Pure c):Own (Jkt p o g ext n) :=
 ⟨Jb ⟨by show 0<n;omega,.cons (.pure (.lit _)) (.cons (.pure (.lit _)) (.cons (.pure (.lit _)) (.cons (.pure (.vec (Ji JQ _))) .nil)))⟩
  (Jb ⟨by show 1<n;omega,.cons (.pure (.lit _)) (.cons (.pure (.lit _)) (.cons (.pure (.lit _)) (.cons (.pure (.lit _)) .nil)))⟩
  (Jb ⟨by show 2<n;omega,.cons (.pure (.vec (Ji Jbx _))) .nil⟩
  (Jb ⟨by show 3<n;omega,.cons (.fn .nil (.cons (.ptr (by show 1<n;omega) rfl) (.cons (.ptr (by show 2<n;omega) rfl) .nil))) .nil⟩ fun b hb=>⟨(he b hb).1,RnL.pure (he b hb).2⟩))),Jl⟩
theorem Jio(p:Pl)(o:List Orc)(g:Gd):Own (Jk0 p o g):=Jin p o g [] 4 (Nat.le_refl _) Jl
theorem Jqz{T:Type}[Inhabited T]{l:List T}{q:T->Bool}(h:l.any q=true):l.findIdx q<l.length/\l.find? q=some (l.getD (l.findIdx q) default):=by
 have hlt:l.findIdx q<l.length:=List.findIdx_lt_length.2 (List.any_eq_true.1 h);refine⟨hlt,?_⟩;rw[List.getD_eq_getElem?_getD,List.getElem?_eq_getElem hlt,Option.getD_some];rw[List.find?_eq_some_iff_getElem];exact⟨List.findIdx_getElem (w:=hlt),_,hlt,rfl,fun j hj=>by simpa using List.not_of_lt_findIdx hj⟩
theorem Js9{T:Type}{l:List T}{q:T->Bool}(h:l.any q=false):l.find? q=none:=by
 rw[List.find?_eq_none];intro x hx;rw[List.any_eq_false] at h;exact h x hx
theorem JgF{g:Gd}(h:JaR g=true):(g.op.1=2->g.kids.length=1)/\(2<=g.op.1->g.op.1<=4->∀ k∈g.kids,JaR k=true)/\(g.op.1≠0->g.op.1≠1->g.op.1≠8->g.op.1≠2->g.op.1≠3->g.op.1≠4->(5<=g.op.1/\g.op.1<=7)/\g.kids.length=2):=by
 rw[Jim] at h;refine⟨fun e=>?_,fun e1 e2=>?_,fun e1 e2 e3 e4 e5 e6=>?_⟩
 ·simp[e] at h;exact h.2.2.1
 ·rcases(by omega:g.op.1=2\/g.op.1=3\/g.op.1=4) with e | e | e <;> simp[e] at h <;> exact h.2.2.2
 ·simp[e1,e2,e3,e4,e5,e6] at h;exact⟨⟨h.2.2.1.1,h.2.2.1.2⟩,h.2.2.2.1⟩
theorem JgG(p:Pl)(o:List Orc)(ho:o.length<=2000000000):∀ (m:Nat) (g:Gd),gsz g<=m->m<=2000000000->JaR g=true->Ja9 Pg 90 [.agg (JaZ g),.agg (JaI p),.vec (o.map Jb9) false] (.lit (.bool (JaN p o g)))
 | 0,g,h,_,_=>by have:=JcI g;omega
 | m+1,g,h,hm,hok=>by
  have hl:=Jby g;have gpp:GP (.agg (JaI p)):=.of_pure (.agg (JaU p));have gpo:GP (.vec (o.map Jb9) false):=.of_pure (.vec (Ji Jbx _));have w1:∀ k∈g.kids,JaR k=true->JaM Pg 112 ([]++[.agg (JaZ k)]++[.ptr 1 0,.ptr 2 0]) (Jkt p o g ([]) 4) (.lit (.bool (JaN p o k))):=fun k hk hc=>by
   have ih:=JgG p o ho m k (by have:=Jbm hk;omega) (by omega) hc;have own:Own (Jkt p o g ([]) 4):=Jin p o g ([]) 4 (by decide) (by first | exact Jl | exact Jb ⟨by show 4<5;decide,JQ k⟩ Jl);refine Jan Tryz.func112 rfl Tryz.ntmps112 (rs:=[.tmp 4]) rfl (by simp) (N:=4) rfl ?_;simp (disch:=omega) only[Wz,seval,Jkt];refine JV Jow ih (Jb (gpG k) (Jb gpp (Jb gpo Jl))) (.lit _) ?_;simp (disch:=omega) only[Wz,seval];exact JoM 4 own rfl (by show 4<=5;decide) rfl (.pure (.lit _)) (by first | exact Jb rfl (Jb rfl (Jb rfl (Jb rfl Jl))) | exact Jb rfl (Jb rfl (Jb rfl (Jb rfl (Jb rfl Jl))))) Jl
  have w1b:∀ k∈g.kids,JaR k=true->JaM Pg 112 ([]++[.agg (JaZ k)]++[.ptr 1 0,.ptr 2 0]) (Jkt p o g ([(4,JaZ k)]) 5) (.lit (.bool (JaN p o k))):=fun k hk hc=>by
   have ih:=JgG p o ho m k (by have:=Jbm hk;omega) (by omega) hc;have own:Own (Jkt p o g ([(4,JaZ k)]) 5):=Jin p o g ([(4,JaZ k)]) 5 (by decide) (by first | exact Jl | exact Jb ⟨by show 4<5;decide,JQ k⟩ Jl);refine Jan Tryz.func112 rfl Tryz.ntmps112 (rs:=[.tmp 4]) rfl (by simp) (N:=5) rfl ?_;simp (disch:=omega) only[Wz,seval,Jkt];refine JV Jow ih (Jb (gpG k) (Jb gpp (Jb gpo Jl))) (.lit _) ?_;simp (disch:=omega) only[Wz,seval];exact JoM 4 own rfl (by show 5<=6;decide) rfl (.pure (.lit _)) (by first | exact Jb rfl (Jb rfl (Jb rfl (Jb rfl Jl))) | exact Jb rfl (Jb rfl (Jb rfl (Jb rfl (Jb rfl Jl))))) Jl
  have w2:∀ x∈o,JaM Pg 114 ([]++[.agg (Jb9 x)]++[.ptr 0 0,.ptr 1 0]) (Jk0 p o g) (.lit (.bool (x.id==g.n && x.index==p.index))):=fun x hx=>by
   refine Jan Tryz.func114 rfl Tryz.ntmps114 (rs:=[.tmp 4]) rfl (by simp) (N:=4) rfl ?_;by_cases hx1:x.id=g.n
   ·simp (disch:=omega) only[Wz,seval,Jk0,Jkt,Jb9];exact JoM 4 (Jio p o g) rfl (by show 4<=5;decide) rfl (.pure (.lit _)) (Jb rfl (Jb rfl (Jb rfl (Jb rfl Jl)))) Jl
   ·simp (disch:=omega) only[Wz,seval,Jk0,Jkt,Jb9];exact JoM 4 (Jio p o g) rfl (by show 4<=5;decide) rfl (.pure (.lit _)) (Jb rfl (Jb rfl (Jb rfl (Jb rfl Jl)))) Jl
  have w3:∀ k∈g.kids,JaR k=true->JaM Pg 116 ([]++[.agg (JaZ k)]++[.ptr 3 0]) (Jk0 p o g) (.lit (.bool !(JaN p o k))):=fun k hk hc=>by
   refine Jan Tryz.func116 rfl Tryz.ntmps116 (rs:=[.tmp 3]) rfl (by simp) (N:=4) rfl ?_;simp (disch:=omega) only[Wz,seval,Jk0,Jkt];refine JE JkU (w1b k hk hc) ?_;rintro r h' ⟨rfl,rfl⟩;simp (disch:=omega) only[Wz,seval,Jk0];exact JoM 3 (Jio p o g) rfl (by show 4<=5;decide) rfl (.pure (.lit _)) (Jb rfl (Jb rfl (Jb rfl (Jb rfl Jl)))) Jl
  refine Jaa (JL Tryz.func90 rfl Tryz.ntmps90 (rs:=[.tmp 6]) rfl (by simp) ?_);obtain⟨c1,c2,c3⟩:=JgF hok;rw[JlR];have fin:∀ h (b:Bool),Jec h (.lit (.bool b)) (.lit (.bool b)):=fun h b=>Jaw (.lit _);by_cases h0:g.op.1=0
  ·simp (disch:=omega) only[Wz,seval,Jy,JaI];exact fin _ _
  by_cases h1:g.op.1=1
  ·simp (disch:=omega) only[Wz,seval,Jy,JaI];exact fin _ _
  by_cases h8:g.op.1=8
  ·simp (disch:=omega) only[Wz,seval,Jy,JaI];refine JE JsN (JoO o (fun x=>x.id==g.n && x.index==p.index) false (by omega) 114 [] [.ptr 0 0,.ptr 1 0] (Jk0 p o g) JsO w2) ?_;rintro r h' ⟨rfl,rfl⟩;unfold Jqy;cases ha:o.any (fun x=>x.id==g.n && x.index==p.index) with
   | true =>
    obtain⟨f1,f2⟩:=Jqz ha;rw[f2];have e1:JdD o (fun x=>x.id==g.n && x.index==p.index)=((o.findIdx (fun x=>x.id==g.n && x.index==p.index):Nat):Int):=by unfold JdD;rw[ha];rfl
    rw[e1];generalize o.findIdx (fun x=>x.id==g.n && x.index==p.index)=i at f1;simp (disch:=omega) only[Wz,seval,Jk0,Jkt,Jb9];exact fin _ _
   | false =>
    rw[Js9 ha];have e1:JdD o (fun x=>x.id==g.n && x.index==p.index) = -1:=by unfold JdD;rw[ha];rfl
    rw[e1];simp (disch:=omega) only[Wz,seval,Jk0,Jkt];exact fin _ _
  have gm:∀ i:Nat,i<g.kids.length->g.kids.getD i default∈g.kids:=fun i hi=>Ju hi
  by_cases h2:g.op.1=2
  ·have l1:=c1 h2;have ck:=c2 (by omega) (by omega);obtain⟨k,hk⟩:∃ k,g.kids=[k]:=by
    match hq:g.kids,l1 with
    | [k],_=>exact⟨k,rfl⟩
   have hkm:k∈g.kids:=by rw[hk];simp
   have gk:g.kids.getD 0 default=k:=by rw[hk];rfl
   have ea:g.kids.all (JaN p o)=JaN p o k:=by rw[hk];simp
   rw[ea];simp (disch:=omega) only[Wz,seval,Jy,JaI,gk];refine Jbg (n:=82) (σ':=⟨[(6,.lit (.bool (!(JaN p o k))))],⟨[],[],4⟩,82⟩) 4 7 (.alt 7 .leaf .nil) rfl (by decide) (by decide) mixed (by kernel_rfl) (by decide) ?_ ?_
   ·simp (disch:=omega) only[Wz,seval,gk];refine Jch JkU (w1 k hkm (ck k hkm)) ?_;simp (disch:=omega) only[Wz,seval,Jk0,Jkt];exact St.wk.cp (St.wk_slots1 (by simp[lk]) (by simp[lk]) (fun t=>rfl))
   ·simp (disch:=omega) only[Wz,seval];exact fin _ _
  by_cases h4:g.op.1=4
  ·have ck:=c2 (by omega) (by omega);simp (disch:=omega) only[Wz,seval,Jy,JaI];refine JE Jgn (Jcm g.kids (JaN p o) false (by omega) 112 [] [.ptr 1 0,.ptr 2 0] (Jk0 p o g) JkU (fun k hk=>w1 k hk (ck k hk))) ?_;rintro r h' ⟨rfl,rfl⟩;simp (disch:=omega) only[Wz,seval,Jk0,Jkt];exact fin _ _
  by_cases h3:g.op.1=3
  ·have ck:=c2 (by omega) (by omega);have hany:g.kids.all (JaN p o) = !(g.kids.any fun k => !(JaN p o k)):=by rw[List.not_any_eq_all_not];simp
   rw[hany];simp (disch:=omega) only[Wz,seval,Jy,JaI];refine JE Jgn (Jcm g.kids (fun k => !(JaN p o k)) false (by omega) 116 [] [.ptr 3 0] (Jk0 p o g) JsP (fun k hk=>w3 k hk (ck k hk))) ?_;rintro r h' ⟨rfl,rfl⟩;simp (disch:=omega) only[Wz,seval,Jk0,Jkt];exact fin _ _
  obtain⟨c4,c5⟩:=c3 h0 h1 h8 h2 h3 h4;obtain⟨k,j,hk⟩:∃ k j,g.kids=[k,j]:=by
   match hq:g.kids,c5 with
   | [k,j],_=>exact⟨k,j,rfl⟩
  have gk:g.kids.getD 0 default=k:=by rw[hk];rfl
  have gj:g.kids.getD 1 default=j:=by rw[hk];rfl
  rw[gk,gj];simp (disch:=omega) only[Wz,seval,Jy,JaI,gk,gj];refine Jbg (n:=82) (σ':=⟨[(9,.lit (.int .i64 (JmL k p))),(3,.ptr 0 0),(4,.ptr 1 0)],⟨[(0,[.lit (.int .i8 g.op.1),.lit (.int .i64 g.n),.lit (.string g.name),.vec (g.kids.map JaZ) false]),(1,[.lit (.int .i64 p.index),.lit (.int .i64 p.column),.lit (.int .i64 p.la),.lit (.int .i64 p.mode)])],[],4⟩,82⟩) 4 10 (.alt 10 .leaf .nil) rfl (by decide) (by decide) mixed (by kernel_rfl) (by decide) ?_ ?_
  ·simp (disch:=omega) only[Wz,seval,gk,gj];refine Jac JoC (JgE k p) (Jb (.agg (JQ k)) (Jb (.agg (JaU p)) Jl)) (.tup (Jb (.lit _) (Jb (.lit _) Jl))) ?_;simp (disch:=omega) only[Wz,seval];exact St.wk.cp (St.wk_slots1 (by simp[lk]) (by simp[lk]) (fun t=>rfl))
  simp (disch:=omega) only[Wz,seval];refine Jbg (n:=82) (σ':=⟨[(11,.lit (.int .i64 (JmL j p))),(9,.lit (.int .i64 (JmL k p))),(3,.ptr 0 0)],⟨[(0,[.lit (.int .i8 g.op.1),.lit (.int .i64 g.n),.lit (.string g.name),.vec (g.kids.map JaZ) false])],[],4⟩,82⟩) 4 10 (.alt 10 .leaf .nil) rfl (by decide) (by decide) mixed (by kernel_rfl) (by decide) ?_ ?_
  ·simp (disch:=omega) only[Wz,seval,gk,gj];refine Jac JoC (JgE j p) (Jb (.agg (JQ j)) (Jb (.agg (JaU p)) Jl)) (.tup (Jb (.lit _) (Jb (.lit _) Jl))) ?_;simp (disch:=omega) only[Wz,seval];exact St.wk.cp (St.wk_slots1 (by simp[lk]) (by simp[lk]) (fun t=>rfl))
  simp (disch:=omega) only[Wz,seval];refine Je JoD (JeP g.op.1 g.op.lo g.op.hi) (Jb (.lit _) Jl) (JgA _) ?_;unfold Jzw JlP;rcases(by omega:g.op.1=5\/g.op.1=6\/g.op.1=7) with h | h | h
  ·simp (disch:=omega) only[Wz,seval,h];refine Je JsU (JoS _ _) (Jb (.lit _) (Jb (.lit _) Jl)) (.lit _) ?_;simp (disch:=omega) only[Wz,seval];exact fin _ _
  ·simp (disch:=omega) only[Wz,seval,h];refine Je JsV (JoT _ _) (Jb (.lit _) (Jb (.lit _) Jl)) (.lit _) ?_;simp (disch:=omega) only[Wz,seval];exact fin _ _
  ·simp (disch:=omega) only[Wz,seval,h];refine Je JsW (JoU _ _) (Jb (.lit _) (Jb (.lit _) Jl)) (.lit _) ?_;simp (disch:=omega) only[Wz,seval];exact fin _ _
theorem JjR(p:Pl):(JaI p).length=4:=rfl
theorem JmN(p:Pl):(JaI p).take 4=JaI p:=rfl
theorem JmO(g:Gd)(p:Pl)(o:List Orc)(h:gsz g<=2000000000)(hok:Jnu g)(ho:o.length<=2000000000) :
  Ja9 Pg 71 [.agg (JaZ g),.agg (JaI p),.vec (o.map Jb9) false] (.lit (.bool (ckG g && JaN p o g))):=by
 refine Jaa (JL Tryz.func71 rfl Tryz.ntmps71 (rs:=[.tmp 6]) rfl (by simp) ?_);simp (disch:=omega) only[Wz,seval];refine JV Jr5 (JgD g h hok) (Jb (gpG g) Jl) (.lit _) ?_;cases hc:ckG g with
 | true =>
  have hcond:JaR g=true:=by unfold ckG at hc;simp at hc;exact hc.2
  simp (disch:=omega) only[Wz,seval,Bool.true_and,JjR,JmN];refine JV Jow (JgG p o ho _ g (Nat.le_refl _) h hcond) (Jb (gpG g) (Jb (.of_pure (.agg (JaU p))) (Jb (.of_pure (.vec (Ji Jbx _))) Jl))) (.lit _) ?_;simp (disch:=omega) only[Wz,seval];exact Jaw (.lit _)
 | false =>
  simp (disch:=omega) only[Wz,seval,Bool.false_and,Bool.false_eq_true];exact Jaw (.lit _)
def JyC (x:Int)(r:Int × Int):Bool:=decide (r.1<=x/\x<=r.2)
def Jnv (s:List (Int × Int))(x:Int):Bool:=s.any (JyC x)
theorem JqA(s:List (Int × Int))(x:Int)(h:s.length<=2000000000):Ja9 Pg 70 [.vec (s.map Jbi) false,.lit (.int .i32 x)] (.lit (.bool (Jnv s x))):=by
 have w1:∀ r∈s,JaM Pg 88 ([]++[.agg (Jbi r)]++[.ptr 0 0]) ⟨[(0,[.lit (.int .i32 x)])],[],1⟩ (.lit (.bool (JyC x r))):=fun r hr=>by
  refine Jan Tryz.func88 rfl Tryz.ntmps88 (rs:=[.tmp 3]) rfl (by simp) (N:=1) rfl ?_;unfold JyC;have own:Own ⟨[(0,[.lit (.int .i32 x)])],[],1⟩:=⟨Jb ⟨by show 0<1;decide,.cons (.pure (.lit _)) .nil⟩ Jl,Jl⟩;by_cases h1:r.1<=x
  ·by_cases h2:x<=r.2;all_goals
    simp (disch:=omega) only[Wz,seval,Jbi];exact JoM 3 own rfl (by show 1<=2;decide) rfl (.pure (.lit _)) (Jb rfl Jl) Jl
  ·simp (disch:=omega) only[Wz,seval,Jbi];exact JoM 3 own rfl (by show 1<=2;decide) rfl (.pure (.lit _)) (Jb rfl Jl) Jl
 refine Jaa (JL Tryz.func70 rfl Tryz.ntmps70 (rs:=[.tmp 4]) rfl (by simp) ?_);simp (disch:=omega) only[Wz,seval];refine JE Jyr (JkW s (JyC x) false h 88 [] [.ptr 0 0] ⟨[(0,[.lit (.int .i32 x)])],[],1⟩ Jys w1) ?_;rintro r h' ⟨rfl,rfl⟩;simp (disch:=omega) only[Wz,seval];exact Jaw (.lit _)
def JaF(op:Int):Gd->Bool
 | .mk o n name kids=>o.1==op || holdsVs op kids
where holdsVs (op:Int):List Gd->Bool
 | []=>false
 | g :: l=>JaF op g || holdsVs op l
theorem JmP(op:Int)(l:List Gd):JaF.holdsVs op l=l.any (JaF op):=by induction l with | nil=>rfl | cons x l ih=>simp[JaF.holdsVs,ih]
theorem JgH(op:Int)(g:Gd):JaF op g=(g.op.1==op || g.kids.any (JaF op)):=by
 obtain⟨o,n,name,kids⟩:=g;rw[JaF,JmP];rfl
def JlS (cs:List AV):Hp:=⟨[(0,cs)],[],1⟩
theorem Jip{cs:List AV}(h:∀ c∈cs,Ab.Pure c):Own (JlS cs):=⟨Jb ⟨by show 0<1;decide,RnL.pure h⟩ Jl,Jl⟩
theorem JoW(op:Int)(k:Gd)(ih:JaM Pg 97 [.ptr 0 0,.lit (.int .i8 op)] (JlS (JaZ k)) (.lit (.bool (JaF op k)))) :
  JaM Pg 121 ([]++[.agg (JaZ k)]++[.ptr 0 0]) (JlS [.lit (.int .i8 op)]) (.lit (.bool (JaF op k))):=by
 refine Jan Tryz.func121 rfl Tryz.ntmps121 (rs:=[.tmp 3]) rfl (by simp) (N:=1) rfl ?_;simp (disch:=omega) only[Wz,seval,JlS];refine JE Jox (JaM.sub (hs:=JlS (JaZ k)) (r0:=.lit (.bool (JaF op k))) (av:=[.ptr 0 0,.lit (.int .i8 op)]) [1] rfl (by simp) (by simp) (.cons (.ptr (by show 0<1;decide) rfl) (.cons (.pure (.lit _)) .nil))
  (Jb ⟨by show 0<1;decide,_,rfl,RnL.pure (JQ k)⟩ Jl) Jl (by intro k hk _;simp[lk]) ih (.pure (.lit _))) ?_
 rintro r h' ⟨rfl,rfl⟩;simp (disch:=omega) only[Wz,seval];exact JoM 3 (Jip (Jb (.lit _) Jl)) rfl (by show 1<=2;decide) rfl (.pure (.lit _)) (Jb rfl Jl) Jl
theorem JoX(op:Int):∀ (m:Nat) (g:Gd),gsz g<=m->m<=2000000000->JaM Pg 97 [.ptr 0 0,.lit (.int .i8 op)] (JlS (JaZ g)) (.lit (.bool (JaF op g)))
 | 0,g,h,_=>by have:=JcI g;omega
 | m+1,g,h,hm=>by
  have hl:=Jby g;have ih:∀ k∈g.kids,JaM Pg 121 ([]++[.agg (JaZ k)]++[.ptr 1 0]) ⟨[(0,[.lit (.int .i8 g.op.1),.lit (.int .i64 g.n),.lit (.string g.name),.vec (g.kids.map JaZ) false]),(1,[.lit (.int .i8 op)])],[],2⟩ (.lit (.bool (JaF op k))):=fun k hk =>
   JaM.sub (hs:=JlS [.lit (.int .i8 op)]) (r0:=.lit (.bool (JaF op k))) (av:=[]++[.agg (JaZ k)]++[.ptr 0 0]) [1] rfl (by simp) (by simp) (.cons (.pure (.agg (JQ k))) (.cons (.ptr (by show 0<1;decide) rfl) .nil))
    (Jb ⟨by show 0<1;decide,_,rfl,RnL.pure (Jb (.lit _) Jl)⟩ Jl) Jl (by intro k hk _;simp[lk]) (JoW op k (JoX op m k (by have:=Jbm hk;omega) (by omega))) (.pure (.lit _))
  have own:=Jip (JQ g);rw[Jy] at own;refine Jan Tryz.func97 rfl Tryz.ntmps97 (rs:=[.tmp 4]) rfl (by simp) (N:=1) rfl ?_;simp (disch:=omega) only[Wz,seval,JlS,Jy];refine Jbg (n:=19) (σ':=⟨[(4,.lit (.bool (JaF op g)))],⟨[(0,[.lit (.int .i8 g.op.1),.lit (.int .i64 g.n),.lit (.string g.name),.vec (g.kids.map JaZ) false])],[],2⟩,19⟩) 2 14 (.alt 14 .leaf .nil) rfl (by decide) (by decide) mixed (by kernel_rfl) (by decide) ?_ ?_
  ·rw[JgH];by_cases h1:g.op.1=op
   ·simp (disch:=omega) only[Wz,seval,Bool.true_or];exact St.wk.cp (St.wk_slots1 (by simp[lk]) (by simp[lk]) (fun t=>rfl))
   ·simp (disch:=omega) only[Wz,seval,Bool.false_or];refine Jch Jgn (Jcm g.kids (JaF op) false (by omega) 121 [] [.ptr 1 0] _ JoF ih) ?_;simp (disch:=omega) only[Wz,seval];exact St.wk.cp (St.wk_slots1 (by simp[lk]) (by simp[lk]) (fun t=>rfl))
  ·simp (disch:=omega) only[Wz,seval];exact JoM 4 own rfl (by show 1<=2;decide) rfl (.pure (.lit _)) (Jb rfl Jl) Jl
theorem JoY(op:Int)(e:Ed)(h:gsz e.g<=2000000000):Ja9 Pg 97 [.pp (Jo e) 4,.lit (.int .i8 op)] (.lit (.bool (JaF op e.g))):=by
 have hl:=Jby e.g;have ih:∀ k∈e.g.kids,JaM Pg 121 ([]++[.agg (JaZ k)]++[.ptr 0 0]) (JlS [.lit (.int .i8 op)]) (.lit (.bool (JaF op k))):=fun k hk=>JoW op k (JoX op _ k (Nat.le_refl _) (by have:=Jbm hk;omega));refine Jaa (JL Tryz.func97 rfl Tryz.ntmps97 (rs:=[.tmp 4]) rfl (by simp) ?_);simp (disch:=omega) only[Wz,seval,Jo];refine Jbg (n:=19) (σ':=⟨[(4,.lit (.bool (JaF op e.g)))],⟨[],[],1⟩,19⟩) 1 14 (.alt 14 .leaf .nil) rfl (by decide) (by decide) mixed (by kernel_rfl) (by decide) ?_ ?_
 ·rw[JgH];by_cases h1:e.g.op.1=op
  ·simp (disch:=omega) only[Wz,seval,Bool.true_or];exact St.wk.cp (St.wk_slots1 (by simp[lk]) (by simp[lk]) (fun t=>rfl))
  ·simp (disch:=omega) only[Wz,seval,Bool.false_or];refine Jch Jgn (Jcm e.g.kids (JaF op) false (by omega) 121 [] [.ptr 0 0] _ JoF ih) ?_;simp (disch:=omega) only[Wz,seval];exact St.wk.cp (St.wk_slots1 (by simp[lk]) (by simp[lk]) (fun t=>rfl))
 ·simp (disch:=omega) only[Wz,seval];exact Jaw (.lit _)
def JjS(s:List (Int × Int)):Prop:=∀ r∈s,(-2147483648<=r.1/\r.1<=2147483647)/\(-2147483648<=r.2/\r.2<=2147483647)
def Jnw (s:List (Int × Int))(i:Nat):Bool:=decide ((s.getD i default).1<=(s.getD i default).2/\(i=0\/(s.getD (i - 1) default).2+1<(s.getD i default).1))
def JmQ (s:List (Int × Int)):Bool:=(List.range s.length).all (Jnw s)
theorem Jaz{n:Nat}{p:Nat->Bool}(h:∀ j,j<n->p j=true):(List.range n).all p=true:=by
 rw[List.all_eq_true];intro j hj;exact h j (List.mem_range.1 hj)
theorem Jbn{n i:Nat}{p:Nat->Bool}(hi:i<n)(h:p i=false):(List.range n).all p=false:=by
 rw[List.all_eq_false];exact⟨i,List.mem_range.2 hi,by rw[h];decide⟩
theorem Jav{i:Nat}{p:Nat->Bool}(h:∀ j,j<i->p j=true)(hi:p i=true):∀ j,j<i+1->p j=true:=fun j hj=>by
 rcases Nat.lt_or_ge j i with h1 | h1
 ·exact h j h1
 ·have:j=i:=by omega
  rw[this];exact hi
theorem Jk1(s:List (Int × Int))(h:s.length<=2000000000)(hs:JjS s):Ja9 Pg 81 [.vec (s.map Jbi) false] (.lit (.int .i64 (if JmQ s then 0 else 2))):=by
 refine Jaa (JL Tryz.func81 rfl Tryz.ntmps81 (rs:=[.tmp 2]) rfl (by simp) ?_);simp (disch:=omega) only[Wz,seval];refine Jb7 s.length 0 (fun i (_:Unit)=>⟨[(7,.lit (.int .i64 (i:Int))),(6,.lit (.int .i64 (s.length:Int))),(5,.vec (s.map Jbi) false),(0,.vec (s.map Jbi) false)],.none,36⟩) (fun i _=>∀ j,j<i->Jnw s j=true) (fun _ _=>rfl) () (St.wk_slots (by simp[lk])) (by simp) (fun i _ hlt hno=>?_) (fun _ hno=>?_)
 ·have key:Jnw s i=decide ((s.getD i default).1<=(s.getD i default).2/\(i=0\/(s.getD (i - 1) default).2+1<(s.getD i default).1)):=rfl;have o1:=hs _ (Ju hlt);have o2:i≠0->_:=fun h=>hs _ (Ju (show i - 1<s.length by omega))
  have fin:Jnw s i=false->Jec ⟨[(0,[.lit (.int .i32 (s.getD i default).1),.lit (.int .i32 (s.getD i default).2)])],[],1⟩ (.lit (.int .i64 2)) (.lit (.int .i64 (if JmQ s then 0 else 2))):=fun h=>by
   have e:JmQ s=false:=Jbn hlt h;rw[e];exact Jaw (.lit _)
  have back:Jnw s i=true->∀ sl:List (Nat × AV),lk sl 7=some (.lit (.int .i64 ((i+1:Nat):Int)))->lk sl 6=some (.lit (.int .i64 (s.length:Int)))->lk sl 5=some (.vec (s.map Jbi) false)->lk sl 0=some (.vec (s.map Jbi) false) ->
    ∃ x:Unit,(∀ j,j<i+1->Jnw s j=true)/\St.cp 0 ⟨sl,⟨[(0,[.lit (.int .i32 (s.getD i default).1),.lit (.int .i32 (s.getD i default).2)])],[],1⟩,36⟩ ⟨[(7,.lit (.int .i64 ((i+1:Nat):Int))),(6,.lit (.int .i64 (s.length:Int))),(5,.vec (s.map Jbi) false),(0,.vec (s.map Jbi) false)],.none,36⟩:=fun h sl e1 e2 e3 e4 =>
   ⟨(),Jav hno h,Jbj (Nat.le_refl _) (Nat.zero_le _) rfl (Jb ⟨e1,.pure (.lit _)⟩ (Jb ⟨e2,.pure (.lit _)⟩ (Jb ⟨e3,.pure (.vec (Ji Jcl _))⟩ (Jb ⟨e4,.pure (.vec (Ji Jcl _))⟩ Jl)))) Jl Jl⟩
  by_cases h1:(s.getD i default).1<=(s.getD i default).2
  ·by_cases h2:i=0
   ·have hk:Jnw s i=true:=by rw[key];exact decide_eq_true ⟨h1,.inl h2⟩
    simp (disch:=omega) only[Wz,seval,Jbi];refine Jx (n:=36) rfl (by decide) mixed ?_;simp (disch:=omega) only[Wz,seval];exact back hk _ rfl rfl rfl rfl
   ·have o3:=o2 h2;have i1:((i:Int) - 1).toNat=i - 1:=by omega
    have i2:IntKind.i64.wrap ((i:Int) - 1)=(i:Int) - 1:=Jdy (by omega) (by omega);by_cases h3:(s.getD (i - 1) default).2+1<(s.getD i default).1
    ·have hk:Jnw s i=true:=by rw[key];exact decide_eq_true ⟨h1,.inr h3⟩
     simp (disch:=omega) only[Wz,seval,Jbi];refine Jx (n:=36) rfl (by decide) mixed ?_;simp (disch:=omega) only[Wz,seval,Jbi,i1,i2];exact back hk _ rfl rfl rfl rfl
    ·have hk:Jnw s i=false:=by rw[key];exact decide_eq_false (by omega)
     simp (disch:=omega) only[Wz,seval,Jbi];refine Jx (n:=36) rfl (by decide) mixed ?_;simp (disch:=omega) only[Wz,seval,Jbi,i1,i2];exact fin hk
  ·have hk:Jnw s i=false:=by rw[key];exact decide_eq_false (by omega)
   simp (disch:=omega) only[Wz,seval,Jbi];refine Jx (n:=36) rfl (by decide) mixed ?_;simp (disch:=omega) only[Wz,seval];exact fin hk
 ·have e:JmQ s=true:=Jaz hno;rw[e];simp (disch:=omega) only[Wz,seval];exact Jaw (.lit _)
def JmR (n:Nt)(a:Int × Int):Bool:=if a.1=2 then decide (1<=a.2/\a.2<=(n.types.length:Int)) else if a.1=3 then decide (0<=a.2/\a.2<(n.channels.length:Int)) else if a.1=4\/a.1=5 then decide (0<=a.2/\a.2<(n.modes.length:Int))
 else if a.1=0\/a.1=1\/a.1=6 then decide (a.2=0) else false
theorem Jbk(n:Nt):Ab.Pure (.pp (Jh n) 0):=.pp (Jab n)
theorem JqB(n:Nt)(a:Int × Int):JR Pg 104 [.pp (Jh n) 0,.agg (JA a)] (.lit (.bool (JmR n a))):=by
 refine Jn Tryz.func104 rfl Tryz.ntmps104 (rs:=[.tmp 4]) rfl (by simp) ?_;have fin:∀ h (b:Bool),JcV h (.lit (.bool b)) (.lit (.bool b)):=fun h b=>Ja (.lit _);unfold JmR;by_cases h2:a.1=2
 ·by_cases k1:1<=a.2 <;> by_cases k2:a.2<=(n.types.length:Int)
  all_goals
   simp (disch:=omega) only[Wz,seval,JA,Jh,h2];refine Jbg (n:=60) (σ':=⟨[(4,.lit (.bool (decide (1<=a.2/\a.2<=(n.types.length:Int)))))],⟨[],[],1⟩,60⟩) 1 13 (.alt 13 .leaf .nil) rfl (by decide) (by decide) mixed (by kernel_rfl) (by decide) ?_ ?_
   ·simp (disch:=omega) only[Wz,seval];exact St.wk.cp (St.wk_slots1 (by simp[lk]) (by simp[lk]) (fun t=>rfl))
   ·simp (disch:=omega) only[Wz,seval];exact fin _ _
 by_cases h3:a.1=3
 ·by_cases k1:0<=a.2 <;> by_cases k2:a.2<(n.channels.length:Int)
  all_goals
   simp (disch:=omega) only[Wz,seval,JA,Jh,h3];refine Jbg (n:=60) (σ':=⟨[(4,.lit (.bool (decide (0<=a.2/\a.2<(n.channels.length:Int)))))],⟨[],[],1⟩,60⟩) 1 13 (.alt 13 .leaf .nil) rfl (by decide) (by decide) mixed (by kernel_rfl) (by decide) ?_ ?_
   ·simp (disch:=omega) only[Wz,seval];exact St.wk.cp (St.wk_slots1 (by simp[lk]) (by simp[lk]) (fun t=>rfl))
   ·simp (disch:=omega) only[Wz,seval];exact fin _ _
 by_cases h4:a.1=4
 ·by_cases k1:0<=a.2 <;> by_cases k2:a.2<(n.modes.length:Int)
  all_goals
   simp (disch:=omega) only[Wz,seval,JA,Jh,h4];refine Jbg (n:=60) (σ':=⟨[(4,.lit (.bool (decide (0<=a.2/\a.2<(n.modes.length:Int)))))],⟨[],[],1⟩,60⟩) 1 13 (.alt 13 .leaf .nil) rfl (by decide) (by decide) mixed (by kernel_rfl) (by decide) ?_ ?_
   ·simp (disch:=omega) only[Wz,seval];exact St.wk.cp (St.wk_slots1 (by simp[lk]) (by simp[lk]) (fun t=>rfl))
   ·simp (disch:=omega) only[Wz,seval];exact fin _ _
 by_cases h5:a.1=5
 ·by_cases k1:0<=a.2 <;> by_cases k2:a.2<(n.modes.length:Int)
  all_goals
   simp (disch:=omega) only[Wz,seval,JA,Jh,h5];refine Jbg (n:=60) (σ':=⟨[(4,.lit (.bool (decide (0<=a.2/\a.2<(n.modes.length:Int)))))],⟨[],[],1⟩,60⟩) 1 13 (.alt 13 .leaf .nil) rfl (by decide) (by decide) mixed (by kernel_rfl) (by decide) ?_ ?_
   ·simp (disch:=omega) only[Wz,seval];exact St.wk.cp (St.wk_slots1 (by simp[lk]) (by simp[lk]) (fun t=>rfl))
   ·simp (disch:=omega) only[Wz,seval];exact fin _ _
 by_cases h6:a.1=0\/a.1=1\/a.1=6
 ·by_cases k1:a.2=0;all_goals
   rcases h6 with h | h | h;all_goals
    simp (disch:=omega) only[Wz,seval,JA,Jh,h];exact fin _ _
 ·simp (disch:=omega) only[Wz,seval,JA,Jh];exact fin _ _
def Jc8 (n:Nt)(r:Nr)(no:Int)(e:Ed):List AV:=[.pp (Jh n) 0,.pp (Jc r) 0,.lit (.int .i64 no),.pp (Jo e) 0]
theorem JbV(n:Nt)(r:Nr)(no:Int)(e:Ed):∀ c∈Jc8 n r no e,Ab.Pure c:=by
 intro c hc;simp only[Jc8,List.mem_cons,List.not_mem_nil,or_false] at hc;rcases hc with rfl | rfl | rfl | rfl
 ·exact .pp (Jab n)
 ·exact .pp (Jbp r)
 ·exact .lit _
 ·exact .pp (JbT e)
theorem gpK(n:Nt)(r:Nr)(no:Int)(e:Ed):GP (.agg (Jc8 n r no e)):=.of_pure (.agg (JbV n r no e))
def kd0 (e:Ed):Bool:=decide (e.n=0/\e.level=0)
def kd4 (e:Ed):Bool:=decide ((1<=e.n/\e.n<=64)/\e.level=0)
def kd5 (r:Nr)(e:Ed):Bool:=r.left && decide ((1<=e.n/\e.n<=64)/\1<=e.level/\e.level<=64)
def kd6 (r:Nr)(e:Ed):Bool:=r.left && decide (e.n=0/\e.level=0)
theorem JqC(n:Nt)(r:Nr)(no:Int)(e:Ed):JR Pg 93 [.agg (Jc8 n r no e)] (.lit (.bool (kd0 e))):=by
 refine Jn Tryz.func93 rfl Tryz.ntmps93 (rs:=[.tmp 2]) rfl (by simp) ?_;unfold kd0;by_cases k1:e.n=0 <;> by_cases k2:e.level=0
 all_goals
  simp (disch:=omega) only[Wz,seval,Jc8,Jo];exact Ja (.lit _)
theorem JqD(n:Nt)(r:Nr)(no:Int)(e:Ed):JR Pg 98 [.agg (Jc8 n r no e)] (.lit (.bool (kd4 e))):=by
 refine Jn Tryz.func98 rfl Tryz.ntmps98 (rs:=[.tmp 2]) rfl (by simp) ?_;unfold kd4;by_cases k1:1<=e.n <;> by_cases k2:e.n<=64 <;> by_cases k3:e.level=0
 all_goals
  simp (disch:=omega) only[Wz,seval,Jc8,Jo];exact Ja (.lit _)
theorem JqE(n:Nt)(r:Nr)(no:Int)(e:Ed):JR Pg 99 [.agg (Jc8 n r no e)] (.lit (.bool (kd5 r e))):=by
 refine Jn Tryz.func99 rfl Tryz.ntmps99 (rs:=[.tmp 2]) rfl (by simp) ?_;unfold kd5;cases hl:r.left
 ·simp (disch:=omega) only[Wz,seval,Jc8,Jo,Jc,hl,Bool.false_and];exact Ja (.lit _)
 by_cases k1:1<=e.n <;> by_cases k2:e.n<=64 <;> by_cases k3:1<=e.level <;> by_cases k4:e.level<=64
 all_goals
  simp (disch:=omega) only[Wz,seval,Jc8,Jo,Jc,hl,Bool.true_and];exact Ja (.lit _)
theorem JqF(n:Nt)(r:Nr)(no:Int)(e:Ed):JR Pg 100 [.agg (Jc8 n r no e)] (.lit (.bool (kd6 r e))):=by
 refine Jn Tryz.func100 rfl Tryz.ntmps100 (rs:=[.tmp 2]) rfl (by simp) ?_;unfold kd6;cases hl:r.left
 ·simp (disch:=omega) only[Wz,seval,Jc8,Jo,Jc,hl,Bool.false_and];exact Ja (.lit _)
 by_cases k1:e.n=0 <;> by_cases k2:e.level=0
 all_goals
  simp (disch:=omega) only[Wz,seval,Jc8,Jo,Jc,hl,Bool.true_and];exact Ja (.lit _)
def kd3 (r:Nr)(e:Ed):Bool:=decide (e.n=0/\e.level=0) && (ckG e.g && (!(JaF 14 e.g) && (r.lexer || !(JaF 13 e.g))))
theorem JqG(n:Nt)(r:Nr)(no:Int)(e:Ed)(h:gsz e.g<=2000000000)(hok:Jnu e.g):Ja9 Pg 96 [.agg (Jc8 n r no e)] (.lit (.bool (kd3 r e))):=by
 refine Jaa (JL Tryz.func96 rfl Tryz.ntmps96 (rs:=[.tmp 2]) rfl (by simp) ?_);have hg:=JgD e.g h hok;have gg:=gpG e.g;rw[Jy] at hg gg;have q1:=JoY 14 e h;have q2:=JoY 13 e h;have gp:GP (.pp (Jo e) 4):=.of_pure (.pp (JbT e));simp only[Jo] at q1 q2 gp;unfold kd3;by_cases k1:e.n=0
 ·by_cases k2:e.level=0
  ·simp (disch:=omega) only[Wz,seval,Jc8,Jo];refine JV Jr5 hg (Jb gg Jl) (.lit _) ?_;cases ckG e.g
   ·simp (disch:=omega) only[Wz,seval,Bool.false_and,Bool.and_false,Bool.false_eq_true];exact Jaw (.lit _)
   ·simp (disch:=omega) only[Wz,seval,Bool.true_and,Bool.and_true];refine JV Jox q1 (Jb gp (Jb (.lit _) Jl)) (.lit _) ?_;cases JaF 14 e.g
    ·simp (disch:=omega) only[Wz,seval,Bool.true_and,Jc];cases r.lexer
     ·simp (disch:=omega) only[Wz,seval,Bool.false_or];refine JV Jox q2 (Jb gp (Jb (.lit _) Jl)) (.lit _) ?_;simp (disch:=omega) only[Wz,seval];exact Jaw (.lit _)
     ·simp (disch:=omega) only[Wz,seval,Bool.true_or];exact Jaw (.lit _)
    ·simp (disch:=omega) only[Wz,seval,Bool.false_and];exact Jaw (.lit _)
  ·simp (disch:=omega) only[Wz,seval,Jc8,Jo,Bool.false_and];exact Jaw (.lit _)
 ·simp (disch:=omega) only[Wz,seval,Jc8,Jo,Bool.false_and];exact Jaw (.lit _)
def kd7 (n:Nt)(r:Nr)(e:Ed):Bool:=r.lexer && (!r.frag && (decide (e.n=0/\e.level=0) && e.acts.all (JmR n)))
theorem JqH(n:Nt)(r:Nr)(no:Int)(e:Ed)(h:e.acts.length<=2000000000):Ja9 Pg 101 [.agg (Jc8 n r no e)] (.lit (.bool (kd7 n r e))):=by
 have hany:e.acts.all (JmR n) = !(e.acts.any fun a => !(JmR n a)):=by rw[List.not_any_eq_all_not];simp
 have own:Own (JlS (Jc8 n r no e)):=Jip (JbV n r no e);have w1:∀ a∈e.acts,JaM Pg 103 ([]++[.agg (JA a)]++[.ptr 0 0]) (JlS (Jc8 n r no e)) (.lit (.bool (!(JmR n a)))):=fun a ha=>by
  refine Jan Tryz.func103 rfl Tryz.ntmps103 (rs:=[.tmp 3]) rfl (by simp) (N:=1) rfl ?_;simp (disch:=omega) only[Wz,seval,JlS,Jc8];refine Je JsK (JqB n a) (Jb (Jbk n) (Jb (.agg (J7 a)) Jl)) (.lit _) ?_;simp (disch:=omega) only[Wz,seval];exact JoM 3 own rfl (by show 1<=2;decide) rfl (.pure (.lit _)) (Jb rfl Jl) Jl
 refine Jaa (JL Tryz.func101 rfl Tryz.ntmps101 (rs:=[.tmp 2]) rfl (by simp) ?_);unfold kd7;rw[hany];cases hl:r.lexer
 ·simp (disch:=omega) only[Wz,seval,Jc8,Jo,Jc,hl,Bool.false_and];exact Jaw (.lit _)
 cases hf:r.frag
 ·by_cases k1:e.n=0
  ·by_cases k2:e.level=0
   ·simp (disch:=omega) only[Wz,seval,Jc8,Jo,Jc,hl,hf,Bool.true_and];have hc:=JjO e.acts (fun a => !(JmR n a)) false h 103 [] [.ptr 0 0] (JlS (Jc8 n r no e)) JsI w1;simp only[JlS,Jc8,Jo,Jc,hl,hf] at hc;refine JE JsH hc ?_;rintro r' h' ⟨rfl,rfl⟩;simp (disch:=omega) only[Wz,seval];exact Jaw (.lit _)
   ·simp (disch:=omega) only[Wz,seval,Jc8,Jo,Jc,hl,hf,Bool.true_and,Bool.false_and];exact Jaw (.lit _)
  ·simp (disch:=omega) only[Wz,seval,Jc8,Jo,Jc,hl,hf,Bool.true_and,Bool.false_and];exact Jaw (.lit _)
 ·simp (disch:=omega) only[Wz,seval,Jc8,Jo,Jc,hl,hf,Bool.true_and,Bool.false_and];exact Jaw (.lit _)
def kd2 (n:Nt)(r:Nr)(no:Int)(e:Ed):Bool:=decide (0<=e.n/\e.n<(n.rules.length:Int)) && ((n.rules.getD e.n.toNat default).lexer==r.lexer && (decide (0<=e.level/\e.level<=65) && (decide (e.level=0) || (decide (e.n=no) && r.left))))
theorem JqI(n:Nt)(r:Nr)(no:Int)(e:Ed)(h:n.rules.length<=2000000000):JR Pg 95 [.agg (Jc8 n r no e)] (.lit (.bool (kd2 n r no e))):=by
 refine Jn Tryz.func95 rfl Tryz.ntmps95 (rs:=[.tmp 2]) rfl (by simp) ?_;simp (disch:=omega) only[Wz,seval,Jc8,Jo,Jc,Jh,Lx];refine Jbg (n:=85) (σ':=⟨[(2,.lit (.bool (kd2 n r no e)))],⟨[],[],1⟩,85⟩) 1 82 (.alt 82 .leaf .nil) rfl (by decide) (by decide) mixed (by kernel_rfl) (by decide) ?_ ?_
 ·unfold kd2;by_cases k1:0<=e.n
  ·by_cases k2:e.n<(n.rules.length:Int)
   ·cases hx:((n.rules.getD e.n.toNat default).lexer==r.lexer)
    ·simp (disch:=omega) only[Wz,seval,Jc,hx,Bool.true_and,Bool.false_and];exact St.wk.cp (St.wk_slots1 (by simp[lk]) (by simp[lk]) (fun t=>rfl))
    ·by_cases k3:0<=e.level
     ·by_cases k4:e.level<=65
      ·by_cases k5:e.level=0
       ·simp (disch:=omega) only[Wz,seval,Jc,hx,Bool.true_and,Bool.false_and,Bool.true_or];exact St.wk.cp (St.wk_slots1 (by simp[lk]) (by simp[lk]) (fun t=>rfl))
       ·by_cases k6:e.n=no
        ·cases hl:r.left
         ·simp (disch:=omega) only[Wz,seval,Jc,hx,Bool.true_and,Bool.false_and,hl,Bool.false_or,Bool.and_false,Bool.and_true];exact St.wk.cp (St.wk_slots1 (by simp[lk]) (by simp[lk]) (fun t=>rfl))
         ·simp (disch:=omega) only[Wz,seval,Jc,hx,Bool.true_and,Bool.false_and,hl,Bool.false_or,Bool.and_false,Bool.and_true];exact St.wk.cp (St.wk_slots1 (by simp[lk]) (by simp[lk]) (fun t=>rfl))
        ·simp (disch:=omega) only[Wz,seval,Jc,hx,Bool.true_and,Bool.false_and,Bool.false_or];exact St.wk.cp (St.wk_slots1 (by simp[lk]) (by simp[lk]) (fun t=>rfl))
      ·simp (disch:=omega) only[Wz,seval,Jc,hx,Bool.true_and,Bool.false_and];exact St.wk.cp (St.wk_slots1 (by simp[lk]) (by simp[lk]) (fun t=>rfl))
     ·simp (disch:=omega) only[Wz,seval,Jc,hx,Bool.true_and,Bool.false_and];exact St.wk.cp (St.wk_slots1 (by simp[lk]) (by simp[lk]) (fun t=>rfl))
   ·simp (disch:=omega) only[Wz,seval,Bool.false_and];exact St.wk.cp (St.wk_slots1 (by simp[lk]) (by simp[lk]) (fun t=>rfl))
  ·simp (disch:=omega) only[Wz,seval,Bool.false_and];exact St.wk.cp (St.wk_slots1 (by simp[lk]) (by simp[lk]) (fun t=>rfl))
 ·simp (disch:=omega) only[Wz,seval];exact Ja (.lit _)
end Go.Proofs.Y
end
