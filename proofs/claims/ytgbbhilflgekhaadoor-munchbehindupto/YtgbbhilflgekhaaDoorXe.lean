/- What the claim wants of the machine, the contracts and the law, laid together. -/
import Derived.Test.YtgbbhilflgekhaaDoorXd
set_option linter.unusedVariables false
set_option linter.unusedSimpArgs false
section
namespace Go.Proofs.YtgbbhilflgekhaaDoor
open Go Go.Ab
set_option maxRecDepth 20000
set_option maxHeartbeats 16000000
def ofN (n:Nt)(s r:Int):Bool:=decide (0≤s) && (decide (s<n.states.length) && ((n.states.getD s.toNat default).rule==r))
theorem idx_at{T:Type}{l:List T}{p:T→Bool}{i:Nat}{x:T}(hx:l[i]? = some x)(hno:∀ y∈l.take i,p y=false)(h:p x=true):l.any p=true∧l.findIdx p=i:=by
 obtain⟨hi,rfl⟩:=List.getElem?_eq_some_iff.1 hx
 refine⟨List.any_eq_true.2 ⟨_,List.getElem_mem hi,h⟩,?_⟩
 rw[List.findIdx_eq hi]
 refine⟨h,fun j hj=>hno _ ?_⟩
 rw[List.mem_take_iff_getElem]
 exact⟨j,by omega,rfl⟩
theorem take_no{T:Type}{l:List T}{p:T→Bool}{i:Nat}{x:T}(hx:l[i]? = some x)(hno:∀ y∈l.take i,p y=false)(h:p x=false):∀ y∈l.take (i+1),p y=false:=fun y hy=>by
 rw[List.take_add_one,hx] at hy
 rcases List.mem_append.1 hy with hy | hy
 ·exact hno y hy
 ·simp at hy;rw[hy];exact h
theorem any_no{T:Type}{l:List T}{p:T→Bool}(hno:∀ y∈l.take l.length,p y=false):l.any p=false:=by
 rw[List.take_length] at hno
 rw[List.any_eq_false]
 intro x hx
 simp[hno x hx]
def idxV {T:Type}(l:List T)(p:T→Bool):Int:=if l.any p then ((l.findIdx p:Nat):Int) else -1
theorem idxV_ge{T:Type}(l:List T)(p:T→Bool):decide (idxV l p ≥ 0)=l.any p:=by
 unfold idxV
 cases l.any p with
 | true=>simp
 | false=>simp
theorem index_Act(l:List (Int × Int))(p:(Int × Int)→Bool)(fl:Bool)(hs:l.length≤2000000000)(fn:Nat)(first cap:List AV)(h:Hp)(hc:Callable Tryd.prog fn)(hp:∀ t∈l,QCall Tryd.prog fn (first++[.agg (encAct t)]++cap) h (.lit (.bool (p t)))) :
  QCall Tryd.prog 82 [.vec (l.map encAct) fl,.fn (.func fn) first cap] h (.lit (.int .i64 (idxV l p))):=by
 refine SCall_intro Tryd.func82 rfl Tryd.ntmps82 (rs:=[.tmp 4]) rfl (by simp) ?_
 simp -implicitDefEqProofs (disch:=omega) only[Wz,seval]
 refine aw_for l.length h.nx (fun i (_:Unit)=>⟨[(0,.vec (l.map encAct) fl),(1,.fn (.func fn) first cap),(7,.lit (.int .i64 l.length)),(8,.lit (.int .i64 i))],h,19⟩) (fun i _=>∀ y∈l.take i,p y=false) (fun _ _=>rfl) () (St.wk_slots (by simp[lk])) (by simp) (fun i _ hlt hno=>?_) (fun _ hno=>?_)
 ·have hx:=List.getElem?_eq_getElem hlt
  generalize l[i]=x at hx
  have gx:(l.map encAct).getD i []=encAct x:=map_getD encAct hx
  simp -implicitDefEqProofs (disch:=omega) only[Wz,seval,gx,encAct_length]
  refine CallK_of hc (hp x (List.mem_of_getElem? hx)) ?_
  rintro r h' ⟨rfl,rfl⟩
  cases hpx:p x with
  | true =>
   obtain⟨e1,e2⟩:=idx_at hx hno hpx
   have eiv:idxV l p=(i:Int):=by unfold idxV;rw[e1,e2];rfl
   simp -implicitDefEqProofs (disch:=omega) only[Wz,seval,eiv]
  | false =>
   simp -implicitDefEqProofs (disch:=omega) only[Wz,seval]
   exact⟨(),take_no hx hno hpx,St.wk.cp (St.wk_slots (by simp[lk]))⟩
 ·have eiv:idxV l p = -1:=by unfold idxV;rw[any_no hno];rfl
  simp -implicitDefEqProofs (disch:=omega) only[Wz,seval,eiv]
theorem index_Gd(l:List Gd)(p:Gd→Bool)(fl:Bool)(hs:l.length≤2000000000)(fn:Nat)(first cap:List AV)(h:Hp)(hc:Callable Tryd.prog fn)(hp:∀ t∈l,QCall Tryd.prog fn (first++[.agg (encG t)]++cap) h (.lit (.bool (p t)))) :
  QCall Tryd.prog 85 [.vec (l.map encG) fl,.fn (.func fn) first cap] h (.lit (.int .i64 (idxV l p))):=by
 refine SCall_intro Tryd.func85 rfl Tryd.ntmps85 (rs:=[.tmp 4]) rfl (by simp) ?_
 simp -implicitDefEqProofs (disch:=omega) only[Wz,seval]
 refine aw_for l.length h.nx (fun i (_:Unit)=>⟨[(0,.vec (l.map encG) fl),(1,.fn (.func fn) first cap),(7,.lit (.int .i64 l.length)),(8,.lit (.int .i64 i))],h,19⟩) (fun i _=>∀ y∈l.take i,p y=false) (fun _ _=>rfl) () (St.wk_slots (by simp[lk])) (by simp) (fun i _ hlt hno=>?_) (fun _ hno=>?_)
 ·have hx:=List.getElem?_eq_getElem hlt
  generalize l[i]=x at hx
  have gx:(l.map encG).getD i []=encG x:=map_getD encG hx
  simp -implicitDefEqProofs (disch:=omega) only[Wz,seval,gx,encG_length]
  refine CallK_of hc (hp x (List.mem_of_getElem? hx)) ?_
  rintro r h' ⟨rfl,rfl⟩
  cases hpx:p x with
  | true =>
   obtain⟨e1,e2⟩:=idx_at hx hno hpx
   have eiv:idxV l p=(i:Int):=by unfold idxV;rw[e1,e2];rfl
   simp -implicitDefEqProofs (disch:=omega) only[Wz,seval,eiv]
  | false =>
   simp -implicitDefEqProofs (disch:=omega) only[Wz,seval]
   exact⟨(),take_no hx hno hpx,St.wk.cp (St.wk_slots (by simp[lk]))⟩
 ·have eiv:idxV l p = -1:=by unfold idxV;rw[any_no hno];rfl
  simp -implicitDefEqProofs (disch:=omega) only[Wz,seval,eiv]
theorem index_Rg(l:List (Int × Int))(p:(Int × Int)→Bool)(fl:Bool)(hs:l.length≤2000000000)(fn:Nat)(first cap:List AV)(h:Hp)(hc:Callable Tryd.prog fn)(hp:∀ t∈l,QCall Tryd.prog fn (first++[.agg (encR t)]++cap) h (.lit (.bool (p t)))) :
  QCall Tryd.prog 71 [.vec (l.map encR) fl,.fn (.func fn) first cap] h (.lit (.int .i64 (idxV l p))):=by
 refine SCall_intro Tryd.func71 rfl Tryd.ntmps71 (rs:=[.tmp 4]) rfl (by simp) ?_
 simp -implicitDefEqProofs (disch:=omega) only[Wz,seval]
 refine aw_for l.length h.nx (fun i (_:Unit)=>⟨[(0,.vec (l.map encR) fl),(1,.fn (.func fn) first cap),(7,.lit (.int .i64 l.length)),(8,.lit (.int .i64 i))],h,19⟩) (fun i _=>∀ y∈l.take i,p y=false) (fun _ _=>rfl) () (St.wk_slots (by simp[lk])) (by simp) (fun i _ hlt hno=>?_) (fun _ hno=>?_)
 ·have hx:=List.getElem?_eq_getElem hlt
  generalize l[i]=x at hx
  have gx:(l.map encR).getD i []=encR x:=map_getD encR hx
  simp -implicitDefEqProofs (disch:=omega) only[Wz,seval,gx,encR_length]
  refine CallK_of hc (hp x (List.mem_of_getElem? hx)) ?_
  rintro r h' ⟨rfl,rfl⟩
  cases hpx:p x with
  | true =>
   obtain⟨e1,e2⟩:=idx_at hx hno hpx
   have eiv:idxV l p=(i:Int):=by unfold idxV;rw[e1,e2];rfl
   simp -implicitDefEqProofs (disch:=omega) only[Wz,seval,eiv]
  | false =>
   simp -implicitDefEqProofs (disch:=omega) only[Wz,seval]
   exact⟨(),take_no hx hno hpx,St.wk.cp (St.wk_slots (by simp[lk]))⟩
 ·have eiv:idxV l p = -1:=by unfold idxV;rw[any_no hno];rfl
  simp -implicitDefEqProofs (disch:=omega) only[Wz,seval,eiv]
theorem index_Orc(l:List Orc)(p:Orc→Bool)(fl:Bool)(hs:l.length≤2000000000)(fn:Nat)(first cap:List AV)(h:Hp)(hc:Callable Tryd.prog fn)(hp:∀ t∈l,QCall Tryd.prog fn (first++[.agg (encO t)]++cap) h (.lit (.bool (p t)))) :
  QCall Tryd.prog 75 [.vec (l.map encO) fl,.fn (.func fn) first cap] h (.lit (.int .i64 (idxV l p))):=by
 refine SCall_intro Tryd.func75 rfl Tryd.ntmps75 (rs:=[.tmp 4]) rfl (by simp) ?_
 simp -implicitDefEqProofs (disch:=omega) only[Wz,seval]
 refine aw_for l.length h.nx (fun i (_:Unit)=>⟨[(0,.vec (l.map encO) fl),(1,.fn (.func fn) first cap),(7,.lit (.int .i64 l.length)),(8,.lit (.int .i64 i))],h,19⟩) (fun i _=>∀ y∈l.take i,p y=false) (fun _ _=>rfl) () (St.wk_slots (by simp[lk])) (by simp) (fun i _ hlt hno=>?_) (fun _ hno=>?_)
 ·have hx:=List.getElem?_eq_getElem hlt
  generalize l[i]=x at hx
  have gx:(l.map encO).getD i []=encO x:=map_getD encO hx
  simp -implicitDefEqProofs (disch:=omega) only[Wz,seval,gx,encO_length]
  refine CallK_of hc (hp x (List.mem_of_getElem? hx)) ?_
  rintro r h' ⟨rfl,rfl⟩
  cases hpx:p x with
  | true =>
   obtain⟨e1,e2⟩:=idx_at hx hno hpx
   have eiv:idxV l p=(i:Int):=by unfold idxV;rw[e1,e2];rfl
   simp -implicitDefEqProofs (disch:=omega) only[Wz,seval,eiv]
  | false =>
   simp -implicitDefEqProofs (disch:=omega) only[Wz,seval]
   exact⟨(),take_no hx hno hpx,St.wk.cp (St.wk_slots (by simp[lk]))⟩
 ·have eiv:idxV l p = -1:=by unfold idxV;rw[any_no hno];rfl
  simp -implicitDefEqProofs (disch:=omega) only[Wz,seval,eiv]
theorem contains_Act(l:List (Int × Int))(p:(Int × Int)→Bool)(fl:Bool)(hs:l.length≤2000000000)(fn:Nat)(first cap:List AV)(h:Hp)(hc:Callable Tryd.prog fn)(hp:∀ t∈l,QCall Tryd.prog fn (first++[.agg (encAct t)]++cap) h (.lit (.bool (p t)))) :
  QCall Tryd.prog 66 [.vec (l.map encAct) fl,.fn (.func fn) first cap] h (.lit (.bool (l.any p))):=by
 refine SCall_intro Tryd.func66 rfl Tryd.ntmps66 (rs:=[.tmp 4]) rfl (by simp) ?_
 simp -implicitDefEqProofs (disch:=omega) only[Wz,seval]
 refine CallK_of call82 (index_Act l p fl hs fn first cap h hc hp) ?_
 rintro r h' ⟨rfl,rfl⟩
 simp -implicitDefEqProofs (disch:=omega) only[Wa,tyW,seval,idxV_ge]
theorem contains_Gd(l:List Gd)(p:Gd→Bool)(fl:Bool)(hs:l.length≤2000000000)(fn:Nat)(first cap:List AV)(h:Hp)(hc:Callable Tryd.prog fn)(hp:∀ t∈l,QCall Tryd.prog fn (first++[.agg (encG t)]++cap) h (.lit (.bool (p t)))) :
  QCall Tryd.prog 77 [.vec (l.map encG) fl,.fn (.func fn) first cap] h (.lit (.bool (l.any p))):=by
 refine SCall_intro Tryd.func77 rfl Tryd.ntmps77 (rs:=[.tmp 4]) rfl (by simp) ?_
 simp -implicitDefEqProofs (disch:=omega) only[Wz,seval]
 refine CallK_of call85 (index_Gd l p fl hs fn first cap h hc hp) ?_
 rintro r h' ⟨rfl,rfl⟩
 simp -implicitDefEqProofs (disch:=omega) only[Wa,tyW,seval,idxV_ge]
theorem contains_Rg(l:List (Int × Int))(p:(Int × Int)→Bool)(fl:Bool)(hs:l.length≤2000000000)(fn:Nat)(first cap:List AV)(h:Hp)(hc:Callable Tryd.prog fn)(hp:∀ t∈l,QCall Tryd.prog fn (first++[.agg (encR t)]++cap) h (.lit (.bool (p t)))) :
  QCall Tryd.prog 52 [.vec (l.map encR) fl,.fn (.func fn) first cap] h (.lit (.bool (l.any p))):=by
 refine SCall_intro Tryd.func52 rfl Tryd.ntmps52 (rs:=[.tmp 4]) rfl (by simp) ?_
 simp -implicitDefEqProofs (disch:=omega) only[Wz,seval]
 refine CallK_of call71 (index_Rg l p fl hs fn first cap h hc hp) ?_
 rintro r h' ⟨rfl,rfl⟩
 simp -implicitDefEqProofs (disch:=omega) only[Wa,tyW,seval,idxV_ge]
def encBo(b:Bool):List AV:=[.lit (.bool b)]
theorem pure_encBo(p:Bool):∀ c∈encBo p,Ab.Pure c:=pure_lits (by simp[encBo])
theorem indexBo(l:List Bool)(v:Bool)(fl:Bool)(hs:l.length≤2000000000):PCall Tryd.prog 69 ([.vec (l.map encBo) fl]++encBo v) (.lit (.int .i64 (idxV l fun x:Bool=>v==x))):=by
 refine PCall_intro Tryd.func69 rfl Tryd.ntmps69 (rs:=[.tmp 4]) rfl (by simp[encBo]) ?_
 simp -implicitDefEqProofs (disch:=omega) only[Wz,seval,encBo]
 refine aw_for l.length 0 (fun i (_:Unit)=>⟨[(0,.vec (l.map encBo) fl),(7,.lit (.int .i64 l.length)),(8,.lit (.int .i64 i))]++(encBo v).map (fun c=>(1,c)),.none,19⟩) (fun i _=>∀ x∈l.take i,(v==x)=false) (fun _ _=>rfl) () (St.wk_slots (by simp[lk,encBo])) (by simp) (fun i _ hlt hno=>?_) (fun _ hno=>?_)
 ·have hx:=List.getElem?_eq_getElem hlt
  generalize l[i]=x at hx
  have gx:(l.map encBo).getD i []=encBo x:=map_getD encBo hx
  simp -implicitDefEqProofs (disch:=omega) only[Wz,seval,gx,encBo]
  cases hpx:(v==x) with
  | true =>
   obtain⟨e1,e2⟩:=idx_at (p:=fun x:Bool=>v==x) hx hno hpx
   have eiv:idxV l (fun x:Bool=>v==x)=(i:Int):=by unfold idxV;rw[e1,e2];rfl
   simp -implicitDefEqProofs (disch:=omega) only[Wz,seval,eiv]
   exact expo_pure (.lit _)
  | false =>
   simp -implicitDefEqProofs (disch:=omega) only[Wz,seval]
   exact⟨(),take_no (p:=fun x:Bool=>v==x) hx hno hpx,St.wk.cp (St.wk_slots (by simp[lk,encBo]))⟩
 ·have eiv:idxV l (fun x:Bool=>v==x) = -1:=by unfold idxV;rw[any_no (p:=fun x:Bool=>v==x) hno];rfl
  simp -implicitDefEqProofs (disch:=omega) only[Wz,seval,eiv,encBo]
  exact expo_pure (.lit _)
theorem containsBo(l:List Bool)(v:Bool)(fl:Bool)(hs:l.length≤2000000000):PCall Tryd.prog 50 ([.vec (l.map encBo) fl]++encBo v) (.lit (.bool (l.any fun x:Bool=>v==x))):=by
 refine PCall_intro Tryd.func50 rfl Tryd.ntmps50 (rs:=[.tmp 4]) rfl (by simp[encBo]) ?_
 simp -implicitDefEqProofs (disch:=omega) only[Wz,seval,encBo]
 refine CallK_pure call69 (indexBo l v fl hs) (allc (.vec (pure_rows pure_encBo _)) (allc (.lit _) alln)) (.lit _) ?_
 simp -implicitDefEqProofs (disch:=omega) only[Wa,tyW,seval,idxV_ge]
 exact expo_pure (.lit _)
theorem indexStr(l:List ByteArray)(v:ByteArray)(fl:Bool)(hs:l.length≤2000000000):PCall Tryd.prog 96 ([.vec (l.map encB) fl]++encB v) (.lit (.int .i64 (idxV l fun x:ByteArray=>v.toList==x.toList))):=by
 refine PCall_intro Tryd.func96 rfl Tryd.ntmps96 (rs:=[.tmp 4]) rfl (by simp[encB]) ?_
 simp -implicitDefEqProofs (disch:=omega) only[Wz,seval,encB]
 refine aw_for l.length 0 (fun i (_:Unit)=>⟨[(0,.vec (l.map encB) fl),(7,.lit (.int .i64 l.length)),(8,.lit (.int .i64 i))]++(encB v).map (fun c=>(1,c)),.none,19⟩) (fun i _=>∀ x∈l.take i,(v.toList==x.toList)=false) (fun _ _=>rfl) () (St.wk_slots (by simp[lk,encB])) (by simp) (fun i _ hlt hno=>?_) (fun _ hno=>?_)
 ·have hx:=List.getElem?_eq_getElem hlt
  generalize l[i]=x at hx
  have gx:(l.map encB).getD i []=encB x:=map_getD encB hx
  simp -implicitDefEqProofs (disch:=omega) only[Wz,seval,gx,encB]
  cases hpx:(v.toList==x.toList) with
  | true =>
   obtain⟨e1,e2⟩:=idx_at (p:=fun x:ByteArray=>v.toList==x.toList) hx hno hpx
   have eiv:idxV l (fun x:ByteArray=>v.toList==x.toList)=(i:Int):=by unfold idxV;rw[e1,e2];rfl
   simp -implicitDefEqProofs (disch:=omega) only[Wz,seval,eiv]
   exact expo_pure (.lit _)
  | false =>
   simp -implicitDefEqProofs (disch:=omega) only[Wz,seval]
   exact⟨(),take_no (p:=fun x:ByteArray=>v.toList==x.toList) hx hno hpx,St.wk.cp (St.wk_slots (by simp[lk,encB]))⟩
 ·have eiv:idxV l (fun x:ByteArray=>v.toList==x.toList) = -1:=by unfold idxV;rw[any_no (p:=fun x:ByteArray=>v.toList==x.toList) hno];rfl
  simp -implicitDefEqProofs (disch:=omega) only[Wz,seval,eiv,encB]
  exact expo_pure (.lit _)
theorem containsStr(l:List ByteArray)(v:ByteArray)(fl:Bool)(hs:l.length≤2000000000):PCall Tryd.prog 93 ([.vec (l.map encB) fl]++encB v) (.lit (.bool (l.any fun x:ByteArray=>v.toList==x.toList))):=by
 refine PCall_intro Tryd.func93 rfl Tryd.ntmps93 (rs:=[.tmp 4]) rfl (by simp[encB]) ?_
 simp -implicitDefEqProofs (disch:=omega) only[Wz,seval,encB]
 refine CallK_pure call96 (indexStr l v fl hs) (allc (.vec (pure_rows pure_encB _)) (allc (.lit _) alln)) (.lit _) ?_
 simp -implicitDefEqProofs (disch:=omega) only[Wa,tyW,seval,idxV_ge]
 exact expo_pure (.lit _)
def letterB(c:Int):Bool:=(decide (c ≥ 97) && decide (c≤122)) || (decide (c ≥ 65) && decide (c≤90))
def digitB(c:Int):Bool:=decide (c ≥ 48) && decide (c≤57)
def inNameB(c:Int):Bool:=letterB c || (digitB c || c==95)
theorem letter_spec(c:Int):PCall Tryd.prog 90 [.lit (.int .u8 c)] (.lit (.bool (letterB c))):=by
  refine PCall_intro Tryd.func90 rfl Tryd.ntmps90 (rs:=[.tmp 2]) rfl (by simp) ?_
  unfold letterB
  by_cases h1:c ≥ 97 <;> by_cases h2:c≤122 <;> by_cases h3:c ≥ 65 <;> by_cases h4:c≤90 <;> first
    | omega
    | (simp -implicitDefEqProofs (disch:=omega) only[Wz,seval,Bool.and_true,Bool.true_and,Bool.or_true,Bool.true_or,Bool.false_or,Bool.or_false,Bool.and_false,Bool.false_and]
       exact expo_pure (.lit _))
theorem digit_spec(c:Int):PCall Tryd.prog 95 [.lit (.int .u8 c)] (.lit (.bool (digitB c))):=by
  refine PCall_intro Tryd.func95 rfl Tryd.ntmps95 (rs:=[.tmp 2]) rfl (by simp) ?_
  unfold digitB
  by_cases h1:c ≥ 48 <;> by_cases h2:c≤57 <;> first
    | omega
    | (simp -implicitDefEqProofs (disch:=omega) only[Wz,seval,Bool.and_true,Bool.true_and,Bool.or_true,Bool.true_or,Bool.false_or,Bool.or_false,Bool.and_false,Bool.false_and]
       exact expo_pure (.lit _))
theorem inName_spec(c:Int):PCall Tryd.prog 92 [.lit (.int .u8 c)] (.lit (.bool (inNameB c))):=by
 refine PCall_intro Tryd.func92 rfl Tryd.ntmps92 (rs:=[.tmp 2]) rfl (by simp) ?_
 unfold inNameB
 simp -implicitDefEqProofs (disch:=omega) only[Wz,seval]
 refine CallK_pure call90 (letter_spec c) (allc (.lit _) alln) (.lit _) ?_
 cases letterB c with
 | true =>
  simp -implicitDefEqProofs (disch:=omega) only[Wz,seval,Bool.true_or]
  exact expo_pure (.lit _)
 | false =>
  simp -implicitDefEqProofs (disch:=omega) only[Wz,seval]
  refine CallK_pure call95 (digit_spec c) (allc (.lit _) alln) (.lit _) ?_
  cases digitB c with
  | true =>
   simp -implicitDefEqProofs (disch:=omega) only[Wz,seval,Bool.true_or,Bool.or_true,Bool.false_or]
   exact expo_pure (.lit _)
  | false =>
   simp -implicitDefEqProofs (disch:=omega) only[Wz,seval,Bool.false_or]
   exact expo_pure (.lit _)
def byteAt(s:ByteArray)(i:Nat):Int:=((s.data.getD i 0).toNat:Int)
def whileN(s:ByteArray)(p:Int→Bool):Nat:=(s.data.toList.takeWhile fun b=>p (b.toNat:Int)).length
theorem takeWhile_at{l:List UInt8}{p:Int→Bool}{i:Nat}(h:i≤(l.takeWhile fun b=>p (b.toNat:Int)).length):(if hi:i<l.length then p ((l[i]).toNat:Int) else false)=decide (i<(l.takeWhile fun b=>p (b.toNat:Int)).length):=by
 induction l generalizing i with
 | nil=>simp
 | cons b l ih =>
  by_cases hb:p (b.toNat:Int)=true
  ·rw[List.takeWhile_cons_of_pos (by simpa using hb)] at h ⊢
   cases i with
   | zero=>simp[hb]
   | succ i =>
    have:=ih (i:=i) (by simpa using h)
    simp only[List.length_cons,Nat.add_lt_add_iff_right,List.getElem_cons_succ]
    exact this
  ·rw[List.takeWhile_cons_of_neg (by simpa using hb)] at h ⊢
   have:i=0:=by simpa using h
   subst this
   simp at hb
   simp[hb]
theorem while_spec(s:ByteArray)(p:Int→Bool)(hs:s.size≤9000000000000000000)(fn:Nat)(hc:Callable Tryd.prog fn)(hp:∀ c,PCall Tryd.prog fn [.lit (.int .u8 c)] (.lit (.bool (p c)))) :
  PCall Tryd.prog 91 [.lit (.string s),.fn (.func fn) [] []] (.lit (.int .i64 (whileN s p))):=by
 refine PCall_intro Tryd.func91 rfl Tryd.ntmps91 (rs:=[.tmp 4]) rfl (by simp) ?_
 simp -implicitDefEqProofs (disch:=omega) only[Wz,seval]
 have hle:whileN s p≤s.size:=by unfold whileN;exact Nat.le_trans (List.takeWhile_sublist _).length_le (by rw[Array.length_toList];exact Nat.le_refl _)
 refine aw_for (whileN s p) 0 (fun i (_:Unit)=>⟨[(5,.lit (.int .i64 i)),(0,.lit (.string s)),(1,.fn (.func fn) [] [])],.none,20⟩) (fun _ _=>True) (fun _ _=>rfl) () (St.wk_slots (by simp[lk])) trivial (fun i _ hlt _=>?_) (fun _ _=>?_)
 ·have hi:i<s.size:=by omega
  have gb:s[i]? = some s[i]:=getElem?_pos s i hi
  have pb:p ((s[i]).toNat:Int)=true:=by
   have:=takeWhile_at (l:=s.data.toList) (p:=p) (i:=i) (Nat.le_of_lt hlt)
   rw[dif_pos (by rw[Array.length_toList];exact hi)] at this
   have e:s.data.toList[i]'(by rw[Array.length_toList];exact hi)=s[i]:=by rw[Array.getElem_toList];rfl
   rw[e] at this
   rw[this]
   exact decide_eq_true hlt
  simp -implicitDefEqProofs (disch:=omega) only[Wz,seval,gb]
  refine CallK_pure hc (hp _) (allc (.lit _) alln) (.lit _) ?_
  simp -implicitDefEqProofs (disch:=omega) only[Wz,seval,pb]
  exact⟨(),St.wk.cp (St.wk_slots (by simp[lk]))⟩
 ·by_cases hi:whileN s p<s.size
  ·have gb:s[whileN s p]? = some s[whileN s p]:=getElem?_pos s _ hi
   have pb:p ((s[whileN s p]).toNat:Int)=false:=by
    have:=takeWhile_at (l:=s.data.toList) (p:=p) (i:=whileN s p) (Nat.le_refl _)
    rw[dif_pos (by rw[Array.length_toList];exact hi)] at this
    have e:s.data.toList[whileN s p]'(by rw[Array.length_toList];exact hi)=s[whileN s p]:=by rw[Array.getElem_toList];rfl
    rw[e] at this
    rw[this]
    exact decide_eq_false (Nat.lt_irrefl _)
   simp -implicitDefEqProofs (disch:=omega) only[Wz,seval,gb]
   refine CallK_pure hc (hp _) (allc (.lit _) alln) (.lit _) ?_
   simp -implicitDefEqProofs (disch:=omega) only[Wz,seval,pb]
   exact expo_pure (.lit _)
  ·simp -implicitDefEqProofs (disch:=omega) only[Wz,seval]
   exact expo_pure (.lit _)
def wordsL:List AV:=[.lit (.string ⟨#[]⟩),.lit (.string ⟨#[]⟩),.lit (.string ⟨#[]⟩),.lit (.string ⟨#[]⟩),.lit (.string ⟨#[]⟩),.lit (.string ⟨#[]⟩),.lit (.string ⟨#[]⟩),.lit (.string ⟨#[]⟩),.lit (.string ⟨#[]⟩),.lit (.string ⟨#[]⟩),
 .lit (.string ⟨#[105,110,100,101,120]⟩),.lit (.string ⟨#[99,111,108,117,109,110]⟩),.lit (.string ⟨#[108,97]⟩),.lit (.string ⟨#[109,111,100,101]⟩),.lit (.string ⟨#[]⟩)]
def listL:List ByteArray:=[⟨#[105,110,100,101,120]⟩,⟨#[99,111,108,117,109,110]⟩,⟨#[108,97]⟩,⟨#[109,111,100,101]⟩]
theorem pure_wordsL:∀ c∈wordsL,Ab.Pure c:=pure_lits (by simp[wordsL])
theorem words_spec:PCall Tryd.prog 97 [] (.agg wordsL):=by
 refine PCall_intro Tryd.func97 rfl Tryd.ntmps97 (rs:=[.cell 0 183]) rfl (by simp) ?_
 simp -implicitDefEqProofs (disch:=omega) only[Wz,seval]
 exact expo_pure (.agg pure_wordsL)
theorem list_spec:PCall Tryd.prog 94 [] (.vec (listL.map encB) false):=by
 refine PCall_intro Tryd.func94 rfl Tryd.ntmps94 (rs:=[.tmp 0]) rfl (by simp) ?_
 simp -implicitDefEqProofs (disch:=omega) only[Wz,seval]
 refine CallK_pure call97 words_spec alln (.agg pure_wordsL) ?_
 simp -implicitDefEqProofs (disch:=omega) only[Wz,seval,wordsL]
 refine awop_wk (σ':=⟨[(1,.np wordsL),(0,.vec [] true)],⟨[],[],1⟩,4⟩) (St.wk_box (id:=0) (cs:=wordsL) rfl rfl rfl (fun g g' x c p hp=>?_) (fun g g' x c p hp=>by cases hp) (fun g p hp=>by cases hp)) (awop_pure (v:=.vec (listL.map encB) false) ?_ ?_)
 ·simp only[List.mem_cons,List.not_mem_nil,or_false] at hp
  rcases hp with rfl | rfl
  ·exact⟨_,rfl,c⟩
  ·exact⟨_,rfl,cv_refl x _⟩
 ·rfl
 ·simp -implicitDefEqProofs (disch:=omega) only[Wz,seval]
  exact expo_pure (.vec (pure_rows pure_encB _))
def cmpA (op:Int):AV:=if op=5 then .fn (.func 86) [] [] else if op=6 then .fn (.func 87) [] [] else if op=7 then .fn (.func 88) [] [] else .lit .nilFunc
theorem pure_cmpA(op:Int):Ab.Pure (cmpA op):=by
 unfold cmpA
 split
 ·exact .fn alln alln
 ·split
  ·exact .fn alln alln
  ·split
   ·exact .fn alln alln
   ·exact .lit _
theorem compares_spec(op:Int)(lo : -128≤op)(hi:op≤127):PCall Tryd.prog 80 [.lit (.int .i8 op)] (cmpA op):=by
 refine PCall_intro Tryd.func80 rfl Tryd.ntmps80 (rs:=[.tmp 2]) rfl (by simp) ?_
 simp -implicitDefEqProofs (disch:=omega) only[Wz,seval]
 by_cases h0:op<0
 ·have e:cmpA op = .lit .nilFunc:=by unfold cmpA;rw[if_neg (by omega),if_neg (by omega),if_neg (by omega)]
  simp -implicitDefEqProofs (disch:=omega) only[Wz,seval,e]
  exact expo_pure (.lit _)
 ·by_cases h8:op ≥ 8
  ·have e:cmpA op = .lit .nilFunc:=by unfold cmpA;rw[if_neg (by omega),if_neg (by omega),if_neg (by omega)]
   simp -implicitDefEqProofs (disch:=omega) only[Wz,seval,e]
   exact expo_pure (.lit _)
  ·rcases(by omega:op=0∨op=1∨op=2∨op=3∨op=4∨op=5∨op=6∨op=7) with rfl | rfl | rfl | rfl | rfl | rfl | rfl | rfl
   all_goals
    simp -implicitDefEqProofs (disch:=omega) only[Wz,seval]
    have key:∀ h op,Expo h (cmpA op) (cmpA op):=fun h op=>expo_pure (pure_cmpA op)
    first | exact key _ 0 | exact key _ 5 | exact key _ 6 | exact key _ 7
def sEq (a b:ByteArray):Bool:=a.toList==b.toList
def nameW(s:ByteArray):Bool:=sEq s ⟨#[116,114,117,101]⟩ || (sEq s ⟨#[102,97,108,115,101]⟩ || sEq s ⟨#[111,114,97,99,108,101]⟩)
def namedB(s:ByteArray):Bool:=if s.size=0 then false else if s.size > 40 then false else if letterB (byteAt s 0)=false then false else if whileN s inNameB<s.size then false else if nameW s then false else !(listL.any fun x=>s.toList==x.toList)
theorem empty_toList{s:ByteArray}:(s.toList==(⟨#[]⟩:ByteArray).toList)=decide (s.size=0):=by
 rw[← beq_toListBytes,Bool.eq_iff_iff,decide_eq_true_iff]
 constructor
 ·intro h;rw[bytes_eq h];rfl
 ·intro h
  have:s=⟨#[]⟩:=by
   obtain⟨d⟩:=s
   have h:d.size=0:=h
   rw[Array.size_eq_zero_iff] at h
   rw[h]
  rw[this];exact bytes_refl _
theorem named_spec(s:ByteArray)(hs:s.size≤9000000000000000000):PCall Tryd.prog 89 [.lit (.string s)] (.lit (.bool (namedB s))):=by
 refine PCall_intro Tryd.func89 rfl Tryd.ntmps89 (rs:=[.tmp 2]) rfl (by simp) ?_
 simp -implicitDefEqProofs (disch:=omega) only[Wz,seval,empty_toList]
 unfold namedB
 by_cases h0:s.size=0
 ·simp -implicitDefEqProofs (disch:=omega) only[Wz,seval]
  exact expo_pure (.lit _)
 have gb:s[0]? = some s[0]:=getElem?_pos s 0 (by omega)
 have eb:((s[0]).toNat:Int)=byteAt s 0:=by unfold byteAt;rw[Array.getD_eq_getD_getElem?,Array.getElem?_eq_getElem (show 0<s.data.size from Nat.pos_of_ne_zero h0)];rfl
 have gb':(s[Int.toNat 0]?)=some s[0]:=gb
 by_cases h1:s.size > 40
 ·simp -implicitDefEqProofs (disch:=omega) only[Wz,seval]
  exact expo_pure (.lit _)
 simp -implicitDefEqProofs (disch:=omega) only[Wz,seval,gb',gb]
 refine CallK_pure call90 (letter_spec _) (allc (.lit _) alln) (.lit _) ?_
 rw[eb]
 cases hlt:letterB (byteAt s 0) with
 | false =>
  simp -implicitDefEqProofs (disch:=omega) only[Wz,seval]
  exact expo_pure (.lit _)
 | true =>
  simp -implicitDefEqProofs (disch:=omega) only[Wz,seval]
  refine CallK_pure call91 (while_spec s inNameB hs 92 call92 inName_spec) (allc (.lit _) (allc (.fn alln alln) alln)) (.lit _) ?_
  by_cases hw:whileN s inNameB<s.size
  ·simp -implicitDefEqProofs (disch:=omega) only[Wz,seval]
   exact expo_pure (.lit _)
  simp -implicitDefEqProofs (disch:=omega) only[Wz,seval]
  unfold nameW sEq
  generalize hb1:(s.toList==(⟨#[116,114,117,101]⟩:ByteArray).toList)=b1
  generalize hb2:(s.toList==(⟨#[102,97,108,115,101]⟩:ByteArray).toList)=b2
  generalize hb3:(s.toList==(⟨#[111,114,97,99,108,101]⟩:ByteArray).toList)=b3
  have fin:∀ b:Bool,Expo ⟨[],[],0⟩ (.lit (.bool b)) (.lit (.bool b)):=fun b=>expo_pure (.lit _)
  cases b1 <;> cases b2 <;> cases b3
  case false.false.false =>
   simp -implicitDefEqProofs (disch:=omega) only[Wz,seval,hb1,hb2,hb3,Bool.false_or,Bool.false_eq_true]
   refine CallK_pure call94 list_spec alln (.vec (pure_rows pure_encB _)) ?_
   simp -implicitDefEqProofs (disch:=omega) only[Wz,seval]
   refine CallK_pure call93 (containsStr listL s false (by decide)) (allc (.vec (pure_rows pure_encB _)) (allc (.lit _) alln)) (.lit _) ?_
   simp -implicitDefEqProofs (disch:=omega) only[Wz,seval]
   exact fin _
  all_goals
   simp -implicitDefEqProofs (disch:=omega) only[Wz,seval,hb1,hb2,hb3,Bool.false_or,Bool.true_or,Bool.false_eq_true]
   exact fin _
mutual
def sizeG:Gd→Int
 | .mk _ _ _ kids=>sizeGs 1 kids
def sizeGs:Int→List Gd→Int
 | n,[]=>n
 | n,k :: l=>sizeGs (min (n+sizeG k) 2147483647) l
end
def numB (g:Gd):Bool:=if g.kids.length > 0 then false else if g.op.1<9 then false else if g.op.1 > 14 then false else
 if g.op.1=9 then sEq g.name ⟨#[]⟩ && (decide (g.n<1000000000000000000) && decide (g.n > -1000000000000000000)) else if g.op.1=14 then decide (g.n=0) && namedB g.name else sEq g.name ⟨#[]⟩ && decide (g.n=0)
theorem number_spec(g:Gd)(hs:g.name.size≤9000000000000000000)(hg:g.kids.length≤2000000000):PCall Tryd.prog 84 [.agg (encG g)] (.lit (.bool (numB g))):=by
 refine PCall_intro Tryd.func84 rfl Tryd.ntmps84 (rs:=[.tmp 2]) rfl (by simp) ?_
 simp -implicitDefEqProofs (disch:=omega) only[Wz,seval,encG_eq]
 unfold numB
 by_cases h1:g.kids.length > 0
 ·simp -implicitDefEqProofs (disch:=omega) only[Wz,seval]
  exact expo_pure (.lit _)
 by_cases h2:g.op.1<9
 ·simp -implicitDefEqProofs (disch:=omega) only[Wz,seval]
  exact expo_pure (.lit _)
 by_cases h3:g.op.1 > 14
 ·simp -implicitDefEqProofs (disch:=omega) only[Wz,seval]
  exact expo_pure (.lit _)
 have fin:∀ h (b:Bool),Expo h (.lit (.bool b)) (.lit (.bool b)):=fun h b=>expo_pure (.lit _)
 by_cases h4:g.op.1=9
 ·simp -implicitDefEqProofs (disch:=omega) only[Wz,seval]
  unfold sEq
  generalize (g.name.toList==(⟨#[]⟩:ByteArray).toList)=b1
  by_cases h5:g.n<1000000000000000000 <;> by_cases h6:g.n > -1000000000000000000 <;> cases b1
  all_goals
   simp -implicitDefEqProofs (disch:=omega) only[Wz,seval,Bool.true_and,Bool.false_and,Bool.and_true,Bool.and_false]
   exact fin _ _
 by_cases h5:g.op.1=14
 ·by_cases h6:g.n=0
  ·simp -implicitDefEqProofs (disch:=omega) only[Wz,seval,Bool.true_and]
   refine CallK_pure call89 (named_spec g.name hs) (allc (.lit _) alln) (.lit _) ?_
   simp -implicitDefEqProofs (disch:=omega) only[Wz,seval]
   exact fin _ _
  ·simp -implicitDefEqProofs (disch:=omega) only[Wz,seval,Bool.false_and]
   exact fin _ _
 simp -implicitDefEqProofs (disch:=omega) only[Wz,seval]
 unfold sEq
 generalize (g.name.toList==(⟨#[]⟩:ByteArray).toList)=b1
 by_cases h6:g.n=0 <;> cases b1
 all_goals
  simp -implicitDefEqProofs (disch:=omega) only[Wz,seval,Bool.true_and,Bool.false_and,Bool.and_true,Bool.and_false]
  exact fin _ _
theorem numberK(g:Gd)(hs:g.name.size≤9000000000000000000)(hg:g.kids.length≤2000000000):KCall Tryd.prog 84 [.agg (encG g)] (.lit (.bool (numB g))):=.of_pure (number_spec g hs hg) (allc (.agg (pure_encG g)) alln) (.lit _)
theorem sizeG_rng:∀ (g:Gd),1≤sizeG g∧sizeG g≤2147483647:=fun g=>by
 have main:∀ (l:List Gd) (n:Int),(∀ k∈l,1≤sizeG k)→1≤n→n≤2147483647→1≤sizeGs n l∧sizeGs n l≤2147483647:=by
  intro l
  induction l with
  | nil=>intro n _ h1 h2;exact⟨h1,h2⟩
  | cons k l ih =>
   intro n hk h1 h2
   simp only[sizeGs]
   have:=hk k (by simp)
   exact ih _ (fun x hx=>hk x (by simp[hx])) (by omega) (by omega)
 have pos:∀ (m:Nat) (g:Gd),gsz g≤m→1≤sizeG g:=by
  intro m
  induction m with
  | zero=>intro g h;have:=gsz_pos g;omega
  | succ m ih =>
   intro g h
   obtain⟨op,n,nm,kids⟩:=g
   simp only[sizeG]
   exact(main kids 1 (fun k hk=>ih k (by have:=gsz_kid (g:=.mk op n nm kids) (k:=k) hk;omega)) (by decide) (by decide)).1
 obtain⟨op,n,nm,kids⟩:=g
 simp only[sizeG]
 exact main kids 1 (fun k hk=>pos _ k (Nat.le_refl _)) (by decide) (by decide)
theorem sizeGs_snoc(l:List Gd)(n:Int)(k:Gd):sizeGs n (l++[k])=min (sizeGs n l+sizeG k) 2147483647:=by
 induction l generalizing n with
 | nil=>rfl
 | cons x l ih=>simp only[List.cons_append,sizeGs];exact ih _
theorem sizeG_eq(g:Gd):sizeG g=sizeGs 1 g.kids:=by cases g;rfl
theorem sizeGs_rng(l:List Gd):1≤sizeGs 1 l∧sizeGs 1 l≤2147483647:=sizeG_rng (.mk default 0 ⟨#[]⟩ l)
def szS (g:Gd)(i:Nat)(_:Unit):St:=⟨[(9,.lit (.int .i64 (i:Int))),(8,.lit (.int .i64 (g.kids.length:Int))),(7,.vec (g.kids.map encG) false),(3,.lit (.int .i64 (sizeGs 1 (g.kids.take i))))],⟨[],[],1⟩,20⟩
theorem Size_spec:∀ (m:Nat) (g:Gd),gsz g≤m→m≤2000000000→PCall Tryd.prog 72 [.agg (encG g)] (.lit (.int .i64 (sizeG g)))
 | 0,g,h,_=>by have:=gsz_pos g;omega
 | m+1,g,h,hm=>by
  have hl:=gsz_len g
  refine PCall_intro Tryd.func72 rfl Tryd.ntmps72 (rs:=[.tmp 2]) rfl (by simp) ?_
  simp -implicitDefEqProofs (disch:=omega) only[Wz,seval,encG_eq]
  refine aw_for g.kids.length 1 (szS g) (fun _ _=>True) (fun _ _=>rfl) () (St.wk_slots1 (by simp[lk,sizeGs]) (by simp[lk]) (by simp[lk])) trivial (fun i _ hlt _=>?_) (fun _ _=>?_)
  ·have hk:=getD_mem (l:=g.kids) hlt
   have ih:=Size_spec m (g.kids.getD i default) (by have:=gsz_kid hk;omega) (by omega)
   have r1:=sizeG_rng (g.kids.getD i default)
   have r2:=sizeGs_rng (g.kids.take i)
   have nx:sizeGs 1 (g.kids.take (i+1))=min (sizeGs 1 (g.kids.take i)+sizeG (g.kids.getD i default)) 2147483647:=by
    rw[List.take_add_one,getD_get hlt,Option.toList_some,sizeGs_snoc]
   have mn:(if (2147483647:Int)<sizeGs 1 (g.kids.take i)+sizeG (g.kids.getD i default) then 2147483647 else sizeGs 1 (g.kids.take i)+sizeG (g.kids.getD i default))=min (sizeGs 1 (g.kids.take i)+sizeG (g.kids.getD i default)) 2147483647:=by omega
   simp -implicitDefEqProofs (disch:=omega) only[Wz,seval,szS]
   refine CallK_pure call72 ih (allc (.agg (pure_encG _)) alln) (.lit _) ?_
   simp -implicitDefEqProofs (disch:=omega) only[Wa,tyW,seval,tyW,i64w,mn]
   refine⟨(),?_⟩
   rw[← nx]
   exact cp_drop' (Nat.le_refl _) (by show 1≤2;decide) rfl (allc ⟨by simp[lk],.pure (.lit _)⟩ (allc ⟨by simp[lk],.pure (.lit _)⟩ (allc ⟨by simp[lk],.pure (.vec (pure_rows pure_encG _))⟩ (allc ⟨by simp[lk],.pure (.lit _)⟩ alln)))) alln alln
  ·simp -implicitDefEqProofs (disch:=omega) only[Wz,seval,szS,List.take_length]
   rw[← sizeG_eq]
   exact expo_pure (.lit _)
mutual
def condG:Gd→Bool
 | .mk op n name kids =>
  if sEq name ⟨#[]⟩=false then false else if op.1≠8∧n≠0 then false
  else if op.1=0∨op.1=1 then decide (kids.length=0)
  else if op.1=8 then decide (kids.length=0) && (decide (n<1000000000000000000) && decide (n > -1000000000000000000))
  else if op.1=2 then decide (kids.length=1) && condGs kids
  else if op.1=3∨op.1=4 then decide (kids.length ≥ 2) && condGs kids
  else decide (5≤op.1∧op.1≤7) && (decide (kids.length=2) && kids.all numB)
def condGs:List Gd→Bool
 | []=>true
 | g :: l=>condG g && condGs l
end
theorem condGs_eq(l:List Gd):condGs l=l.all condG:=by induction l with | nil=>rfl | cons x l ih=>simp[condGs,ih]
theorem condG_eq(g:Gd):condG g=if sEq g.name ⟨#[]⟩=false then false else if g.op.1≠8∧g.n≠0 then false
  else if g.op.1=0∨g.op.1=1 then decide (g.kids.length=0)
  else if g.op.1=8 then decide (g.kids.length=0) && (decide (g.n<1000000000000000000) && decide (g.n > -1000000000000000000))
  else if g.op.1=2 then decide (g.kids.length=1) && g.kids.all condG
  else if g.op.1=3∨g.op.1=4 then decide (g.kids.length ≥ 2) && g.kids.all condG
  else decide (5≤g.op.1∧g.op.1≤7) && (decide (g.kids.length=2) && g.kids.all numB):=by
 obtain⟨op,n,name,kids⟩:=g
 rw[condG,condGs_eq]
 rfl
inductive GdOk:Gd→Prop
 | mk {g:Gd}:g.name.size≤9000000000000000000→(∀ k∈g.kids,GdOk k)→GdOk g
theorem condition_spec:∀ (m:Nat) (g:Gd),gsz g≤m→m≤2000000000→GdOk g→KCall Tryd.prog 73 [.agg (encG g)] (.lit (.bool (condG g)))
  | 0,g,h,_,_=>by have:=gsz_pos g;omega
  | m+1,g,h,hm,hok=>by
    have hl:=gsz_len g
    have ih:∀ k∈g.kids,KCall Tryd.prog 73 [.agg (encG k)] (.lit (.bool (condG k))):=fun k hk=>condition_spec m k (by have:=gsz_kid hk;omega) (by omega) (by cases hok with | mk _ h2=>exact h2 k hk)
    have gpk:∀ k,∀ v∈[AV.agg (encG k)],GP v:=fun k=>allc (.of_pure (.agg (pure_encG k))) alln
    have w1:∀ k∈g.kids,KCall Tryd.prog 83 [.agg (encG k)] (.lit (.bool !(condG k))):=fun k hk=>by
      refine KCall_of (SCall_intro Tryd.func83 rfl Tryd.ntmps83 (rs:=[.tmp 2]) rfl (by simp) ?_)
      simp -implicitDefEqProofs (disch:=omega) only[Wz,seval]
      refine CallK_k call73 (ih k hk) (gpk k) (.lit _) ?_
      simp -implicitDefEqProofs (disch:=omega) only[Wz,seval]
      exact kexpo (.lit _)
    refine KCall_of (SCall_intro Tryd.func73 rfl Tryd.ntmps73 (rs:=[.tmp 2]) rfl (by simp) ?_)
    simp -implicitDefEqProofs (disch:=omega) only[Wz,seval,encG_eq]
    rw[condG_eq]
    have fin:∀ h (b:Bool),KExpo h (.lit (.bool b)) (.lit (.bool b)):=fun h b=>kexpo (.lit _)
    have hsE:(g.name.toList==(⟨#[]⟩:ByteArray).toList)=sEq g.name ⟨#[]⟩:=rfl
    cases hE:sEq g.name ⟨#[]⟩ with
    | false =>
      simp -implicitDefEqProofs (disch:=omega) only[Wz,seval,hsE,hE]
      exact fin _ _
    | true =>
    by_cases h1:g.op.1≠8∧g.n≠0
    · simp -implicitDefEqProofs (disch:=omega) only[Wz,seval,hsE,hE]
      exact fin _ _
    have bools:∀ b:Bool,(b && true)=b∧(true && b)=b∧(b && false)=false∧(false && b)=false:=fun b=>by cases b <;> decide
    by_cases h2:g.op.1=8
    · by_cases h3:g.kids.length=0 <;> by_cases h4:g.n<1000000000000000000 <;> by_cases h5:g.n > -1000000000000000000
      all_goals first
        | omega
        | (simp -implicitDefEqProofs (disch:=omega) only[Wz,seval,hsE,hE,bools]
           exact fin _ _)
    by_cases h3:g.op.1=0
    · by_cases h4:g.kids.length=0
      all_goals
        simp -implicitDefEqProofs (disch:=omega) only[Wz,seval,hsE,hE,bools]
        exact fin _ _
    by_cases h4:g.op.1=1
    · by_cases h4:g.kids.length=0
      all_goals
        simp -implicitDefEqProofs (disch:=omega) only[Wz,seval,hsE,hE,bools]
        exact fin _ _
    by_cases h5:g.op.1=2
    · by_cases h6:g.kids.length=1
      · obtain⟨k,hk⟩:∃ k,g.kids=[k]:=by
          match hq:g.kids,h6 with
          | [k],_=>exact⟨k,rfl⟩
        have hkm:k∈g.kids:=by rw[hk];simp
        have gk:g.kids.getD 0 default=k:=by rw[hk];rfl
        have ea:g.kids.all condG=condG k:=by rw[hk];simp
        rw[ea]
        simp -implicitDefEqProofs (disch:=omega) only[Wz,seval,hsE,hE,bools,gk]
        refine CallK_k call83 (w1 k hkm) (gpk k) (.lit _) ?_
        cases condG k
        all_goals
          simp -implicitDefEqProofs (disch:=omega) only[Wz,seval,bools]
          exact fin _ _
      · simp -implicitDefEqProofs (disch:=omega) only[Wz,seval,hsE,hE,bools]
        exact fin _ _
    have hany:(g.kids.any fun k => !(condG k)) = !(g.kids.all condG):=by rw[List.not_all_eq_any_not]
    by_cases h6:g.op.1=3∨g.op.1=4
    · by_cases h7:g.kids.length ≥ 2
      · have hct:=contains_Gd g.kids (fun k => !(condG k)) false (by omega) 83 [] [] ⟨[(0,[.lit (.int .i8 g.op.1),.lit (.int .i64 g.n),.lit (.string g.name),.vec (g.kids.map encG) false])],[],1⟩ call83 (fun k hk=>(w1 k hk).at (gpk k) (.lit _) _)
        rw[hany] at hct
        rcases h6 with h6 | h6
        all_goals
          simp -implicitDefEqProofs (disch:=omega) only[Wz,seval,hsE,hE,bools]
          refine CallK_of call77 hct ?_
          rintro r h' ⟨rfl,rfl⟩
          cases g.kids.all condG
          all_goals
            simp -implicitDefEqProofs (disch:=omega) only[Wz,seval,bools]
            exact fin _ _
      · rcases h6 with h6 | h6
        all_goals
          simp -implicitDefEqProofs (disch:=omega) only[Wz,seval,hsE,hE,bools]
          exact fin _ _
    simp -implicitDefEqProofs (disch:=omega) only[Wz,seval,hsE,hE,bools]
    refine CallK_pure call80 (compares_spec g.op.1 g.op.lo g.op.hi) (allc (.lit _) alln) (pure_cmpA _) ?_
    by_cases h7:5≤g.op.1∧g.op.1≤7
    · obtain⟨fid,hf⟩:∃ fid,cmpA g.op.1 = .fn (.func fid) [] []:=by
        unfold cmpA
        rcases(by omega:g.op.1=5∨g.op.1=6∨g.op.1=7) with h | h | h <;> rw[h] <;> exact⟨_,rfl⟩
      rw[hf]
      have ok2:∀ k∈g.kids,k.name.size≤9000000000000000000:=fun k hk=>by cases hok with | mk _ h2=>cases h2 k hk with | mk h3 _=>exact h3
      by_cases h8:g.kids.length=2
      · obtain⟨k,j,hk⟩:∃ k j,g.kids=[k,j]:=by
          match hq:g.kids,h8 with
          | [k,j],_=>exact⟨k,j,rfl⟩
        have hkm:k∈g.kids:=by rw[hk];simp
        have hjm:j∈g.kids:=by rw[hk];simp
        have gk:g.kids.getD 0 default=k:=by rw[hk];rfl
        have gj:g.kids.getD 1 default=j:=by rw[hk];rfl
        have ea:g.kids.all numB=(numB k && numB j):=by rw[hk];simp
        have nk:=numberK k (ok2 k hkm) (by have:=gsz_kid hkm;have:=gsz_len k;omega)
        have nj:=numberK j (ok2 j hjm) (by have:=gsz_kid hjm;have:=gsz_len j;omega)
        rw[ea]
        simp -implicitDefEqProofs (disch:=omega) only[Wz,seval,bools,gk]
        refine CallK_k call84 nk (gpk k) (.lit _) ?_
        cases numB k with
        | false =>
          simp -implicitDefEqProofs (disch:=omega) only[Wz,seval,bools]
          exact fin _ _
        | true =>
          simp -implicitDefEqProofs (disch:=omega) only[Wz,seval,bools,gj]
          refine CallK_k call84 nj (gpk j) (.lit _) ?_
          cases numB j
          all_goals
            simp -implicitDefEqProofs (disch:=omega) only[Wz,seval,bools]
            exact fin _ _
      · simp -implicitDefEqProofs (disch:=omega) only[Wz,seval,bools]
        exact fin _ _
    · have e:cmpA g.op.1 = .lit .nilFunc:=by unfold cmpA;rw[if_neg (by omega),if_neg (by omega),if_neg (by omega)]
      rw[e]
      simp -implicitDefEqProofs (disch:=omega) only[Wz,seval,bools]
      exact fin _ _
def ckG (g:Gd):Bool:=decide (sizeG g≤64) && condG g
theorem gpG(k:Gd):GP (.agg (encG k)):=.of_pure (.agg (pure_encG k))
theorem gCheck_spec(g:Gd)(h:gsz g≤2000000000)(hok:GdOk g):KCall Tryd.prog 54 [.agg (encG g)] (.lit (.int .i64 (if ckG g then 0 else 40))):=by
 refine KCall_of (SCall_intro Tryd.func54 rfl Tryd.ntmps54 (rs:=[.tmp 2]) rfl (by simp) ?_)
 simp -implicitDefEqProofs (disch:=omega) only[Wz,seval]
 refine CallK_k call72 (.of_pure (Size_spec _ g (Nat.le_refl _) h) (allc (.agg (pure_encG g)) alln) (.lit _)) (allc (gpG g) alln) (.lit _) ?_
 unfold ckG
 by_cases h1:sizeG g≤64
 ·simp -implicitDefEqProofs (disch:=omega) only[Wz,seval,Bool.true_and]
  refine CallK_k call73 (condition_spec _ g (Nat.le_refl _) h hok) (allc (gpG g) alln) (.lit _) ?_
  cases condG g
  all_goals
   simp -implicitDefEqProofs (disch:=omega) only[Wz,seval,Bool.false_eq_true]
   exact kexpo (.lit _)
 ·simp -implicitDefEqProofs (disch:=omega) only[Wz,seval,Bool.false_and,Bool.false_eq_true]
  exact kexpo (.lit _)
structure Pl where
 index:Int
 column:Int
 la:Int
 mode:Int
def encPl(p:Pl):List AV:=[.lit (.int .i64 p.index),.lit (.int .i64 p.column),.lit (.int .i64 p.la),.lit (.int .i64 p.mode)]
theorem pure_encPl(p:Pl):∀ c∈encPl p,Ab.Pure c:=pure_lits (by simp[encPl])
def numV (g:Gd)(p:Pl):Int:=if g.op.1=9 then g.n else if g.op.1=10 then p.index else if g.op.1=11 then p.column else if g.op.1=12 then p.la else if g.op.1=13 then p.mode else 0
theorem Number_spec(g:Gd)(p:Pl):PCall Tryd.prog 79 [.agg (encG g),.agg (encPl p)] (.tup [.lit (.int .i64 (numV g p)),.lit (.bool (decide (9≤g.op.1∧g.op.1≤14)))]):=by
 refine PCall_intro Tryd.func79 rfl Tryd.ntmps79 (rs:=[.tmp 4,.tmp 5]) rfl (by simp) ?_
 unfold numV
 have fin:∀ h (n:Int) (b:Bool),Expo h (.tup [.lit (.int .i64 n),.lit (.bool b)]) (.tup [.lit (.int .i64 n),.lit (.bool b)]):=fun h n b=>expo_pure (.tup (allc (.lit _) (allc (.lit _) alln)))
 by_cases h1:g.op.1<9
 ·simp -implicitDefEqProofs (disch:=omega) only[Wz,seval,encG_eq,encPl]
  exact fin _ _ _
 by_cases h2:g.op.1 > 14
 ·simp -implicitDefEqProofs (disch:=omega) only[Wz,seval,encG_eq,encPl]
  exact fin _ _ _
 rcases(by omega:g.op.1=9∨g.op.1=10∨g.op.1=11∨g.op.1=12∨g.op.1=13∨g.op.1=14) with h | h | h | h | h | h
 all_goals
  simp -implicitDefEqProofs (disch:=omega) only[Wz,seval,encG_eq,encPl,h]
  exact fin _ _ _
theorem cmp_spec1(x y:Int):PCall Tryd.prog 86 [.lit (.int .i64 x),.lit (.int .i64 y)] (.lit (.bool (decide (x<y)))):=by
 refine PCall_intro Tryd.func86 rfl Tryd.ntmps86 (rs:=[.tmp 4]) rfl (by simp) ?_
 simp -implicitDefEqProofs only[Wa,tyW,seval]
 exact expo_pure (.lit _)
theorem cmp_spec2(x y:Int):PCall Tryd.prog 87 [.lit (.int .i64 x),.lit (.int .i64 y)] (.lit (.bool (decide (x≤y)))):=by
 refine PCall_intro Tryd.func87 rfl Tryd.ntmps87 (rs:=[.tmp 4]) rfl (by simp) ?_
 simp -implicitDefEqProofs only[Wa,tyW,seval]
 exact expo_pure (.lit _)
theorem cmp_spec3(x y:Int):PCall Tryd.prog 88 [.lit (.int .i64 x),.lit (.int .i64 y)] (.lit (.bool (x==y))):=by
 refine PCall_intro Tryd.func88 rfl Tryd.ntmps88 (rs:=[.tmp 4]) rfl (by simp) ?_
 simp -implicitDefEqProofs only[Wa,tyW,seval]
 exact expo_pure (.lit _)
def cmpV (op x y:Int):Bool:=if op=5 then decide (x<y) else if op=6 then decide (x≤y) else x==y
def orcV (o:List Orc)(n index:Int):Bool:=match o.find? fun x=>x.id==n && x.index==index with | some x=>x.says | none=>false
mutual
def saysG(p:Pl)(o:List Orc):Gd→Bool
 | .mk op n name kids =>
  if op.1=0 then true else if op.1=1 then false else if op.1=8 then orcV o n p.index
  else if op.1=2 then !(saysAnd p o kids) else if op.1=4 then saysOr p o kids else if op.1=3 then saysAnd p o kids
  else cmpV op.1 (numV (kids.getD 0 default) p) (numV (kids.getD 1 default) p)
def saysAnd(p:Pl)(o:List Orc):List Gd→Bool
 | []=>true
 | g :: l=>saysG p o g && saysAnd p o l
def saysOr(p:Pl)(o:List Orc):List Gd→Bool
 | []=>false
 | g :: l=>saysG p o g || saysOr p o l
end
theorem saysAnd_eq(p:Pl)(o:List Orc)(l:List Gd):saysAnd p o l=l.all (saysG p o):=by induction l with | nil=>rfl | cons x l ih=>simp[saysAnd,ih]
theorem saysOr_eq(p:Pl)(o:List Orc)(l:List Gd):saysOr p o l=l.any (saysG p o):=by induction l with | nil=>rfl | cons x l ih=>simp[saysOr,ih]
theorem saysG_eq(p:Pl)(o:List Orc)(g:Gd):saysG p o g=if g.op.1=0 then true else if g.op.1=1 then false else if g.op.1=8 then orcV o g.n p.index
  else if g.op.1=2 then !(g.kids.all (saysG p o)) else if g.op.1=4 then g.kids.any (saysG p o) else if g.op.1=3 then g.kids.all (saysG p o)
  else cmpV g.op.1 (numV (g.kids.getD 0 default) p) (numV (g.kids.getD 1 default) p):=by
 obtain⟨op,n,name,kids⟩:=g
 rw[saysG,saysAnd_eq,saysOr_eq]
 rfl
def sayX (p:Pl)(o:List Orc)(g:Gd)(ext:List (Nat × List AV))(n:Nat):Hp:=⟨(0,[.lit (.int .i8 g.op.1),.lit (.int .i64 g.n),.lit (.string g.name),.vec (g.kids.map encG) false]) :: (1,[.lit (.int .i64 p.index),.lit (.int .i64 p.column),.lit (.int .i64 p.la),.lit (.int .i64 p.mode)]) :: (2,[.vec (o.map encO) false]) :: (3,[.fn (.func 74) [] [.ptr 1 0,.ptr 2 0]]) :: ext,[],n⟩
def sayH (p:Pl)(o:List Orc)(g:Gd):Hp:=sayX p o g [] 4
theorem sayX_own(p:Pl)(o:List Orc)(g:Gd)(ext:List (Nat × List AV))(n:Nat)(hn:4≤n)(he:∀ b∈ext,b.1<n∧∀ c∈b.2,Ab.Pure c):Own (sayX p o g ext n) :=
 ⟨allc ⟨by show 0<n;omega,.cons (.pure (.lit _)) (.cons (.pure (.lit _)) (.cons (.pure (.lit _)) (.cons (.pure (.vec (pure_rows pure_encG _))) .nil)))⟩
  (allc ⟨by show 1<n;omega,.cons (.pure (.lit _)) (.cons (.pure (.lit _)) (.cons (.pure (.lit _)) (.cons (.pure (.lit _)) .nil)))⟩
  (allc ⟨by show 2<n;omega,.cons (.pure (.vec (pure_rows pure_encO _))) .nil⟩
  (allc ⟨by show 3<n;omega,.cons (.fn .nil (.cons (.ptr (by show 1<n;omega) rfl) (.cons (.ptr (by show 2<n;omega) rfl) .nil))) .nil⟩ fun b hb=>⟨(he b hb).1,RnL.pure (he b hb).2⟩))),alln⟩
theorem sayH_own(p:Pl)(o:List Orc)(g:Gd):Own (sayH p o g):=sayX_own p o g [] 4 (Nat.le_refl _) alln
theorem find_idx{T:Type}[Inhabited T]{l:List T}{q:T→Bool}(h:l.any q=true):l.findIdx q<l.length∧l.find? q=some (l.getD (l.findIdx q) default):=by
 have hlt:l.findIdx q<l.length:=List.findIdx_lt_length.2 (List.any_eq_true.1 h)
 refine⟨hlt,?_⟩
 rw[List.getD_eq_getElem?_getD,List.getElem?_eq_getElem hlt,Option.getD_some]
 rw[List.find?_eq_some_iff_getElem]
 exact⟨List.findIdx_getElem (w:=hlt),_,hlt,rfl,fun j hj=>by simpa using List.not_of_lt_findIdx hj⟩
theorem find_no{T:Type}{l:List T}{q:T→Bool}(h:l.any q=false):l.find? q=none:=by
 rw[List.find?_eq_none]
 intro x hx
 rw[List.any_eq_false] at h
 exact h x hx
theorem condG_facts{g:Gd}(h:condG g=true):(g.op.1=2→g.kids.length=1)∧(2≤g.op.1→g.op.1≤4→∀ k∈g.kids,condG k=true)∧(g.op.1≠0→g.op.1≠1→g.op.1≠8→g.op.1≠2→g.op.1≠3→g.op.1≠4→(5≤g.op.1∧g.op.1≤7)∧g.kids.length=2):=by
 rw[condG_eq] at h
 refine⟨fun e=>?_,fun e1 e2=>?_,fun e1 e2 e3 e4 e5 e6=>?_⟩
 ·simp[e] at h;exact h.2.2.1
 ·rcases(by omega:g.op.1=2∨g.op.1=3∨g.op.1=4) with e | e | e <;> simp[e] at h <;> exact h.2.2.2
 ·simp[e1,e2,e3,e4,e5,e6] at h;exact⟨⟨h.2.2.1.1,h.2.2.1.2⟩,h.2.2.2.1⟩
theorem says_spec(p:Pl)(o:List Orc)(ho:o.length≤2000000000):∀ (m:Nat) (g:Gd),gsz g≤m→m≤2000000000→condG g=true→KCall Tryd.prog 55 [.agg (encG g),.agg (encPl p),.vec (o.map encO) false] (.lit (.bool (saysG p o g)))
 | 0,g,h,_,_=>by have:=gsz_pos g;omega
 | m+1,g,h,hm,hok=>by
  have hl:=gsz_len g
  have gpp:GP (.agg (encPl p)):=.of_pure (.agg (pure_encPl p))
  have gpo:GP (.vec (o.map encO) false):=.of_pure (.vec (pure_rows pure_encO _))
  have w1:∀ k∈g.kids,condG k=true→QCall Tryd.prog 74 ([]++[.agg (encG k)]++[.ptr 1 0,.ptr 2 0]) (sayX p o g ([]) 4) (.lit (.bool (saysG p o k))):=fun k hk hc=>by
   have ih:=says_spec p o ho m k (by have:=gsz_kid hk;omega) (by omega) hc
   have own:Own (sayX p o g ([]) 4):=sayX_own p o g ([]) 4 (by decide) (by first | exact alln | exact allc ⟨by show 4<5;decide,pure_encG k⟩ alln)
   refine SCall_introC Tryd.func74 rfl Tryd.ntmps74 (rs:=[.tmp 4]) rfl (by simp) (N:=4) rfl ?_
   simp -implicitDefEqProofs (disch:=omega) only[Wz,seval,sayX]
   refine CallK_k call55 ih (allc (gpG k) (allc gpp (allc gpo alln))) (.lit _) ?_
   simp -implicitDefEqProofs (disch:=omega) only[Wz,seval]
   exact ret1 4 own rfl (by show 4≤5;decide) rfl (.pure (.lit _)) (by first | exact allc rfl (allc rfl (allc rfl (allc rfl alln))) | exact allc rfl (allc rfl (allc rfl (allc rfl (allc rfl alln))))) alln
  have w1b:∀ k∈g.kids,condG k=true→QCall Tryd.prog 74 ([]++[.agg (encG k)]++[.ptr 1 0,.ptr 2 0]) (sayX p o g ([(4,encG k)]) 5) (.lit (.bool (saysG p o k))):=fun k hk hc=>by
   have ih:=says_spec p o ho m k (by have:=gsz_kid hk;omega) (by omega) hc
   have own:Own (sayX p o g ([(4,encG k)]) 5):=sayX_own p o g ([(4,encG k)]) 5 (by decide) (by first | exact alln | exact allc ⟨by show 4<5;decide,pure_encG k⟩ alln)
   refine SCall_introC Tryd.func74 rfl Tryd.ntmps74 (rs:=[.tmp 4]) rfl (by simp) (N:=5) rfl ?_
   simp -implicitDefEqProofs (disch:=omega) only[Wz,seval,sayX]
   refine CallK_k call55 ih (allc (gpG k) (allc gpp (allc gpo alln))) (.lit _) ?_
   simp -implicitDefEqProofs (disch:=omega) only[Wz,seval]
   exact ret1 4 own rfl (by show 5≤6;decide) rfl (.pure (.lit _)) (by first | exact allc rfl (allc rfl (allc rfl (allc rfl alln))) | exact allc rfl (allc rfl (allc rfl (allc rfl (allc rfl alln))))) alln
  have w2:∀ x∈o,QCall Tryd.prog 76 ([]++[.agg (encO x)]++[.ptr 0 0,.ptr 1 0]) (sayH p o g) (.lit (.bool (x.id==g.n && x.index==p.index))):=fun x hx=>by
   refine SCall_introC Tryd.func76 rfl Tryd.ntmps76 (rs:=[.tmp 4]) rfl (by simp) (N:=4) rfl ?_
   by_cases hx1:x.id=g.n
   ·simp -implicitDefEqProofs (disch:=omega) only[Wz,seval,sayH,sayX,encO]
    exact ret1 4 (sayH_own p o g) rfl (by show 4≤5;decide) rfl (.pure (.lit _)) (allc rfl (allc rfl (allc rfl (allc rfl alln)))) alln
   ·simp -implicitDefEqProofs (disch:=omega) only[Wz,seval,sayH,sayX,encO]
    exact ret1 4 (sayH_own p o g) rfl (by show 4≤5;decide) rfl (.pure (.lit _)) (allc rfl (allc rfl (allc rfl (allc rfl alln)))) alln
  have w3:∀ k∈g.kids,condG k=true→QCall Tryd.prog 78 ([]++[.agg (encG k)]++[.ptr 3 0]) (sayH p o g) (.lit (.bool !(saysG p o k))):=fun k hk hc=>by
   refine SCall_introC Tryd.func78 rfl Tryd.ntmps78 (rs:=[.tmp 3]) rfl (by simp) (N:=4) rfl ?_
   simp -implicitDefEqProofs (disch:=omega) only[Wz,seval,sayH,sayX]
   refine CallK_of call74 (w1b k hk hc) ?_
   rintro r h' ⟨rfl,rfl⟩
   simp -implicitDefEqProofs (disch:=omega) only[Wz,seval,sayH]
   exact ret1 3 (sayH_own p o g) rfl (by show 4≤5;decide) rfl (.pure (.lit _)) (allc rfl (allc rfl (allc rfl (allc rfl alln)))) alln
  refine KCall_of (SCall_intro Tryd.func55 rfl Tryd.ntmps55 (rs:=[.tmp 6]) rfl (by simp) ?_)
  obtain⟨c1,c2,c3⟩:=condG_facts hok
  rw[saysG_eq]
  have fin:∀ h (b:Bool),KExpo h (.lit (.bool b)) (.lit (.bool b)):=fun h b=>kexpo (.lit _)
  by_cases h0:g.op.1=0
  ·simp -implicitDefEqProofs (disch:=omega) only[Wz,seval,encG_eq,encPl]
   exact fin _ _
  by_cases h1:g.op.1=1
  ·simp -implicitDefEqProofs (disch:=omega) only[Wz,seval,encG_eq,encPl]
   exact fin _ _
  by_cases h8:g.op.1=8
  ·simp -implicitDefEqProofs (disch:=omega) only[Wz,seval,encG_eq,encPl]
   refine CallK_of call75 (index_Orc o (fun x=>x.id==g.n && x.index==p.index) false (by omega) 76 [] [.ptr 0 0,.ptr 1 0] (sayH p o g) call76 w2) ?_
   rintro r h' ⟨rfl,rfl⟩
   unfold orcV
   cases ha:o.any (fun x=>x.id==g.n && x.index==p.index) with
   | true =>
    obtain⟨f1,f2⟩:=find_idx ha
    rw[f2]
    have e1:idxV o (fun x=>x.id==g.n && x.index==p.index)=((o.findIdx (fun x=>x.id==g.n && x.index==p.index):Nat):Int):=by unfold idxV;rw[ha];rfl
    rw[e1]
    generalize o.findIdx (fun x=>x.id==g.n && x.index==p.index)=i at f1
    simp -implicitDefEqProofs (disch:=omega) only[Wz,seval,sayH,sayX,encO]
    exact fin _ _
   | false =>
    rw[find_no ha]
    have e1:idxV o (fun x=>x.id==g.n && x.index==p.index) = -1:=by unfold idxV;rw[ha];rfl
    rw[e1]
    simp -implicitDefEqProofs (disch:=omega) only[Wz,seval,sayH,sayX]
    exact fin _ _
  have gm:∀ i:Nat,i<g.kids.length→g.kids.getD i default∈g.kids:=fun i hi=>getD_mem hi
  by_cases h2:g.op.1=2
  ·have l1:=c1 h2
   have ck:=c2 (by omega) (by omega)
   obtain⟨k,hk⟩:∃ k,g.kids=[k]:=by
    match hq:g.kids,l1 with
    | [k],_=>exact⟨k,rfl⟩
   have hkm:k∈g.kids:=by rw[hk];simp
   have gk:g.kids.getD 0 default=k:=by rw[hk];rfl
   have ea:g.kids.all (saysG p o)=saysG p o k:=by rw[hk];simp
   rw[ea]
   simp -implicitDefEqProofs (disch:=omega) only[Wz,seval,encG_eq,encPl,gk]
   refine aw_drawC (n:=82) (σ':=⟨[(6,.lit (.bool (!(saysG p o k))))],⟨[],[],4⟩,82⟩) 4 7 (.alt 7 .leaf .nil) rfl (by decide) (by decide) mixed (by kernel_rfl) (by decide) ?_ ?_
   ·simp -implicitDefEqProofs (disch:=omega) only[Wz,seval,gk]
    refine CallQ_intro call74 (w1 k hkm (ck k hkm)) ?_
    simp -implicitDefEqProofs (disch:=omega) only[Wz,seval,sayH,sayX]
    exact St.wk.cp (St.wk_slots1 (by simp[lk]) (by simp[lk]) (fun t=>rfl))
   ·simp -implicitDefEqProofs (disch:=omega) only[Wz,seval]
    exact fin _ _
  by_cases h4:g.op.1=4
  ·have ck:=c2 (by omega) (by omega)
   simp -implicitDefEqProofs (disch:=omega) only[Wz,seval,encG_eq,encPl]
   refine CallK_of call77 (contains_Gd g.kids (saysG p o) false (by omega) 74 [] [.ptr 1 0,.ptr 2 0] (sayH p o g) call74 (fun k hk=>w1 k hk (ck k hk))) ?_
   rintro r h' ⟨rfl,rfl⟩
   simp -implicitDefEqProofs (disch:=omega) only[Wz,seval,sayH,sayX]
   exact fin _ _
  by_cases h3:g.op.1=3
  ·have ck:=c2 (by omega) (by omega)
   have hany:g.kids.all (saysG p o) = !(g.kids.any fun k => !(saysG p o k)):=by rw[List.not_any_eq_all_not];simp
   rw[hany]
   simp -implicitDefEqProofs (disch:=omega) only[Wz,seval,encG_eq,encPl]
   refine CallK_of call77 (contains_Gd g.kids (fun k => !(saysG p o k)) false (by omega) 78 [] [.ptr 3 0] (sayH p o g) call78 (fun k hk=>w3 k hk (ck k hk))) ?_
   rintro r h' ⟨rfl,rfl⟩
   simp -implicitDefEqProofs (disch:=omega) only[Wz,seval,sayH,sayX]
   exact fin _ _
  obtain⟨c4,c5⟩:=c3 h0 h1 h8 h2 h3 h4
  obtain⟨k,j,hk⟩:∃ k j,g.kids=[k,j]:=by
   match hq:g.kids,c5 with
   | [k,j],_=>exact⟨k,j,rfl⟩
  have gk:g.kids.getD 0 default=k:=by rw[hk];rfl
  have gj:g.kids.getD 1 default=j:=by rw[hk];rfl
  rw[gk,gj]
  simp -implicitDefEqProofs (disch:=omega) only[Wz,seval,encG_eq,encPl,gk,gj]
  refine aw_drawC (n:=82) (σ':=⟨[(9,.lit (.int .i64 (numV k p))),(3,.ptr 0 0),(4,.ptr 1 0)],⟨[(0,[.lit (.int .i8 g.op.1),.lit (.int .i64 g.n),.lit (.string g.name),.vec (g.kids.map encG) false]),(1,[.lit (.int .i64 p.index),.lit (.int .i64 p.column),.lit (.int .i64 p.la),.lit (.int .i64 p.mode)])],[],4⟩,82⟩) 4 10 (.alt 10 .leaf .nil) rfl (by decide) (by decide) mixed (by kernel_rfl) (by decide) ?_ ?_
  ·simp -implicitDefEqProofs (disch:=omega) only[Wz,seval,gk,gj]
   refine CallQ_pure call79 (Number_spec k p) (allc (.agg (pure_encG k)) (allc (.agg (pure_encPl p)) alln)) (.tup (allc (.lit _) (allc (.lit _) alln))) ?_
   simp -implicitDefEqProofs (disch:=omega) only[Wz,seval]
   exact St.wk.cp (St.wk_slots1 (by simp[lk]) (by simp[lk]) (fun t=>rfl))
  simp -implicitDefEqProofs (disch:=omega) only[Wz,seval]
  refine aw_drawC (n:=82) (σ':=⟨[(11,.lit (.int .i64 (numV j p))),(9,.lit (.int .i64 (numV k p))),(3,.ptr 0 0)],⟨[(0,[.lit (.int .i8 g.op.1),.lit (.int .i64 g.n),.lit (.string g.name),.vec (g.kids.map encG) false])],[],4⟩,82⟩) 4 10 (.alt 10 .leaf .nil) rfl (by decide) (by decide) mixed (by kernel_rfl) (by decide) ?_ ?_
  ·simp -implicitDefEqProofs (disch:=omega) only[Wz,seval,gk,gj]
   refine CallQ_pure call79 (Number_spec j p) (allc (.agg (pure_encG j)) (allc (.agg (pure_encPl p)) alln)) (.tup (allc (.lit _) (allc (.lit _) alln))) ?_
   simp -implicitDefEqProofs (disch:=omega) only[Wz,seval]
   exact St.wk.cp (St.wk_slots1 (by simp[lk]) (by simp[lk]) (fun t=>rfl))
  simp -implicitDefEqProofs (disch:=omega) only[Wz,seval]
  refine CallK_pure call80 (compares_spec g.op.1 g.op.lo g.op.hi) (allc (.lit _) alln) (pure_cmpA _) ?_
  unfold cmpV cmpA
  rcases(by omega:g.op.1=5∨g.op.1=6∨g.op.1=7) with h | h | h
  ·simp -implicitDefEqProofs (disch:=omega) only[Wz,seval,h]
   refine CallK_pure call86 (cmp_spec1 _ _) (allc (.lit _) (allc (.lit _) alln)) (.lit _) ?_
   simp -implicitDefEqProofs (disch:=omega) only[Wz,seval]
   exact fin _ _
  ·simp -implicitDefEqProofs (disch:=omega) only[Wz,seval,h]
   refine CallK_pure call87 (cmp_spec2 _ _) (allc (.lit _) (allc (.lit _) alln)) (.lit _) ?_
   simp -implicitDefEqProofs (disch:=omega) only[Wz,seval]
   exact fin _ _
  ·simp -implicitDefEqProofs (disch:=omega) only[Wz,seval,h]
   refine CallK_pure call88 (cmp_spec3 _ _) (allc (.lit _) (allc (.lit _) alln)) (.lit _) ?_
   simp -implicitDefEqProofs (disch:=omega) only[Wz,seval]
   exact fin _ _
theorem encPl_length(p:Pl):(encPl p).length=4:=rfl
theorem encPl_take(p:Pl):(encPl p).take 4=encPl p:=rfl
theorem Holds_spec(g:Gd)(p:Pl)(o:List Orc)(h:gsz g≤2000000000)(hok:GdOk g)(ho:o.length≤2000000000) :
  KCall Tryd.prog 41 [.agg (encG g),.agg (encPl p),.vec (o.map encO) false] (.lit (.bool (ckG g && saysG p o g))):=by
 refine KCall_of (SCall_intro Tryd.func41 rfl Tryd.ntmps41 (rs:=[.tmp 6]) rfl (by simp) ?_)
 simp -implicitDefEqProofs (disch:=omega) only[Wz,seval]
 refine CallK_k call54 (gCheck_spec g h hok) (allc (gpG g) alln) (.lit _) ?_
 cases hc:ckG g with
 | true =>
  have hcond:condG g=true:=by unfold ckG at hc;simp at hc;exact hc.2
  simp -implicitDefEqProofs (disch:=omega) only[Wz,seval,Bool.true_and,encPl_length,encPl_take]
  refine CallK_k call55 (says_spec p o ho _ g (Nat.le_refl _) h hcond) (allc (gpG g) (allc (.of_pure (.agg (pure_encPl p))) (allc (.of_pure (.vec (pure_rows pure_encO _))) alln))) (.lit _) ?_
  simp -implicitDefEqProofs (disch:=omega) only[Wz,seval]
  exact kexpo (.lit _)
 | false =>
  simp -implicitDefEqProofs (disch:=omega) only[Wz,seval,Bool.false_and,Bool.false_eq_true]
  exact kexpo (.lit _)
def hasR (x:Int)(r:Int × Int):Bool:=decide (r.1≤x∧x≤r.2)
def hasV (s:List (Int × Int))(x:Int):Bool:=s.any (hasR x)
theorem Has_spec(s:List (Int × Int))(x:Int)(h:s.length≤2000000000):KCall Tryd.prog 40 [.vec (s.map encR) false,.lit (.int .i32 x)] (.lit (.bool (hasV s x))):=by
 have w1:∀ r∈s,QCall Tryd.prog 53 ([]++[.agg (encR r)]++[.ptr 0 0]) ⟨[(0,[.lit (.int .i32 x)])],[],1⟩ (.lit (.bool (hasR x r))):=fun r hr=>by
  refine SCall_introC Tryd.func53 rfl Tryd.ntmps53 (rs:=[.tmp 3]) rfl (by simp) (N:=1) rfl ?_
  unfold hasR
  have own:Own ⟨[(0,[.lit (.int .i32 x)])],[],1⟩:=⟨allc ⟨by show 0<1;decide,.cons (.pure (.lit _)) .nil⟩ alln,alln⟩
  by_cases h1:r.1≤x
  ·by_cases h2:x≤r.2
   all_goals
    simp -implicitDefEqProofs (disch:=omega) only[Wz,seval,encR]
    exact ret1 3 own rfl (by show 1≤2;decide) rfl (.pure (.lit _)) (allc rfl alln) alln
  ·simp -implicitDefEqProofs (disch:=omega) only[Wz,seval,encR]
   exact ret1 3 own rfl (by show 1≤2;decide) rfl (.pure (.lit _)) (allc rfl alln) alln
 refine KCall_of (SCall_intro Tryd.func40 rfl Tryd.ntmps40 (rs:=[.tmp 4]) rfl (by simp) ?_)
 simp -implicitDefEqProofs (disch:=omega) only[Wz,seval]
 refine CallK_of call52 (contains_Rg s (hasR x) false h 53 [] [.ptr 0 0] ⟨[(0,[.lit (.int .i32 x)])],[],1⟩ call53 w1) ?_
 rintro r h' ⟨rfl,rfl⟩
 simp -implicitDefEqProofs (disch:=omega) only[Wz,seval]
 exact kexpo (.lit _)
def holdsV(op:Int):Gd→Bool
 | .mk o n name kids=>o.1==op || holdsVs op kids
where holdsVs (op:Int):List Gd→Bool
 | []=>false
 | g :: l=>holdsV op g || holdsVs op l
theorem holdsVs_eq(op:Int)(l:List Gd):holdsV.holdsVs op l=l.any (holdsV op):=by induction l with | nil=>rfl | cons x l ih=>simp[holdsV.holdsVs,ih]
theorem holdsV_eq(op:Int)(g:Gd):holdsV op g=(g.op.1==op || g.kids.any (holdsV op)):=by
 obtain⟨o,n,name,kids⟩:=g
 rw[holdsV,holdsVs_eq]
 rfl
def oneB (cs:List AV):Hp:=⟨[(0,cs)],[],1⟩
theorem oneB_own{cs:List AV}(h:∀ c∈cs,Ab.Pure c):Own (oneB cs):=⟨allc ⟨by show 0<1;decide,RnL.pure h⟩ alln,alln⟩
theorem holds_c(op:Int)(k:Gd)(ih:QCall Tryd.prog 61 [.ptr 0 0,.lit (.int .i8 op)] (oneB (encG k)) (.lit (.bool (holdsV op k)))) :
  QCall Tryd.prog 81 ([]++[.agg (encG k)]++[.ptr 0 0]) (oneB [.lit (.int .i8 op)]) (.lit (.bool (holdsV op k))):=by
 refine SCall_introC Tryd.func81 rfl Tryd.ntmps81 (rs:=[.tmp 3]) rfl (by simp) (N:=1) rfl ?_
 simp -implicitDefEqProofs (disch:=omega) only[Wz,seval,oneB]
 refine CallK_of call61 (QCall.sub (hs:=oneB (encG k)) (r0:=.lit (.bool (holdsV op k))) (av:=[.ptr 0 0,.lit (.int .i8 op)]) [1] rfl (by simp) (by simp) (.cons (.ptr (by show 0<1;decide) rfl) (.cons (.pure (.lit _)) .nil))
  (allc ⟨by show 0<1;decide,_,rfl,RnL.pure (pure_encG k)⟩ alln) alln (by intro k hk _;simp[lk]) ih (.pure (.lit _))) ?_
 rintro r h' ⟨rfl,rfl⟩
 simp -implicitDefEqProofs (disch:=omega) only[Wz,seval]
 exact ret1 3 (oneB_own (allc (.lit _) alln)) rfl (by show 1≤2;decide) rfl (.pure (.lit _)) (allc rfl alln) alln
theorem holds_p(op:Int):∀ (m:Nat) (g:Gd),gsz g≤m→m≤2000000000→QCall Tryd.prog 61 [.ptr 0 0,.lit (.int .i8 op)] (oneB (encG g)) (.lit (.bool (holdsV op g)))
 | 0,g,h,_=>by have:=gsz_pos g;omega
 | m+1,g,h,hm=>by
  have hl:=gsz_len g
  have ih:∀ k∈g.kids,QCall Tryd.prog 81 ([]++[.agg (encG k)]++[.ptr 1 0]) ⟨[(0,[.lit (.int .i8 g.op.1),.lit (.int .i64 g.n),.lit (.string g.name),.vec (g.kids.map encG) false]),(1,[.lit (.int .i8 op)])],[],2⟩ (.lit (.bool (holdsV op k))):=fun k hk =>
   QCall.sub (hs:=oneB [.lit (.int .i8 op)]) (r0:=.lit (.bool (holdsV op k))) (av:=[]++[.agg (encG k)]++[.ptr 0 0]) [1] rfl (by simp) (by simp) (.cons (.pure (.agg (pure_encG k))) (.cons (.ptr (by show 0<1;decide) rfl) .nil))
    (allc ⟨by show 0<1;decide,_,rfl,RnL.pure (allc (.lit _) alln)⟩ alln) alln (by intro k hk _;simp[lk]) (holds_c op k (holds_p op m k (by have:=gsz_kid hk;omega) (by omega))) (.pure (.lit _))
  have own:=oneB_own (pure_encG g)
  rw[encG_eq] at own
  refine SCall_introC Tryd.func61 rfl Tryd.ntmps61 (rs:=[.tmp 4]) rfl (by simp) (N:=1) rfl ?_
  simp -implicitDefEqProofs (disch:=omega) only[Wz,seval,oneB,encG_eq]
  refine aw_drawC (n:=19) (σ':=⟨[(4,.lit (.bool (holdsV op g)))],⟨[(0,[.lit (.int .i8 g.op.1),.lit (.int .i64 g.n),.lit (.string g.name),.vec (g.kids.map encG) false])],[],2⟩,19⟩) 2 14 (.alt 14 .leaf .nil) rfl (by decide) (by decide) mixed (by kernel_rfl) (by decide) ?_ ?_
  ·rw[holdsV_eq]
   by_cases h1:g.op.1=op
   ·simp -implicitDefEqProofs (disch:=omega) only[Wz,seval,Bool.true_or]
    exact St.wk.cp (St.wk_slots1 (by simp[lk]) (by simp[lk]) (fun t=>rfl))
   ·simp -implicitDefEqProofs (disch:=omega) only[Wz,seval,Bool.false_or]
    refine CallQ_intro call77 (contains_Gd g.kids (holdsV op) false (by omega) 81 [] [.ptr 1 0] _ call81 ih) ?_
    simp -implicitDefEqProofs (disch:=omega) only[Wz,seval]
    exact St.wk.cp (St.wk_slots1 (by simp[lk]) (by simp[lk]) (fun t=>rfl))
  ·simp -implicitDefEqProofs (disch:=omega) only[Wz,seval]
   exact ret1 4 own rfl (by show 1≤2;decide) rfl (.pure (.lit _)) (allc rfl alln) alln
theorem holds_e(op:Int)(e:Ed)(h:gsz e.g≤2000000000):KCall Tryd.prog 61 [.pp (encE e) 4,.lit (.int .i8 op)] (.lit (.bool (holdsV op e.g))):=by
 have hl:=gsz_len e.g
 have ih:∀ k∈e.g.kids,QCall Tryd.prog 81 ([]++[.agg (encG k)]++[.ptr 0 0]) (oneB [.lit (.int .i8 op)]) (.lit (.bool (holdsV op k))):=fun k hk=>holds_c op k (holds_p op _ k (Nat.le_refl _) (by have:=gsz_kid hk;omega))
 refine KCall_of (SCall_intro Tryd.func61 rfl Tryd.ntmps61 (rs:=[.tmp 4]) rfl (by simp) ?_)
 simp -implicitDefEqProofs (disch:=omega) only[Wz,seval,encE]
 refine aw_drawC (n:=19) (σ':=⟨[(4,.lit (.bool (holdsV op e.g)))],⟨[],[],1⟩,19⟩) 1 14 (.alt 14 .leaf .nil) rfl (by decide) (by decide) mixed (by kernel_rfl) (by decide) ?_ ?_
 ·rw[holdsV_eq]
  by_cases h1:e.g.op.1=op
  ·simp -implicitDefEqProofs (disch:=omega) only[Wz,seval,Bool.true_or]
   exact St.wk.cp (St.wk_slots1 (by simp[lk]) (by simp[lk]) (fun t=>rfl))
  ·simp -implicitDefEqProofs (disch:=omega) only[Wz,seval,Bool.false_or]
   refine CallQ_intro call77 (contains_Gd e.g.kids (holdsV op) false (by omega) 81 [] [.ptr 0 0] _ call81 ih) ?_
   simp -implicitDefEqProofs (disch:=omega) only[Wz,seval]
   exact St.wk.cp (St.wk_slots1 (by simp[lk]) (by simp[lk]) (fun t=>rfl))
 ·simp -implicitDefEqProofs (disch:=omega) only[Wz,seval]
  exact kexpo (.lit _)
def SetOk(s:List (Int × Int)):Prop:=∀ r∈s,(-2147483648≤r.1∧r.1≤2147483647)∧(-2147483648≤r.2∧r.2≤2147483647)
def chkR (s:List (Int × Int))(i:Nat):Bool:=decide ((s.getD i default).1≤(s.getD i default).2∧(i=0∨(s.getD (i - 1) default).2+1<(s.getD i default).1))
def chkS (s:List (Int × Int)):Bool:=(List.range s.length).all (chkR s)
theorem all_range{n:Nat}{p:Nat→Bool}(h:∀ j,j<n→p j=true):(List.range n).all p=true:=by
 rw[List.all_eq_true];intro j hj;exact h j (List.mem_range.1 hj)
theorem all_not{n i:Nat}{p:Nat→Bool}(hi:i<n)(h:p i=false):(List.range n).all p=false:=by
 rw[List.all_eq_false];exact⟨i,List.mem_range.2 hi,by rw[h];decide⟩
theorem lt_step{i:Nat}{p:Nat→Bool}(h:∀ j,j<i→p j=true)(hi:p i=true):∀ j,j<i+1→p j=true:=fun j hj=>by
 rcases Nat.lt_or_ge j i with h1 | h1
 ·exact h j h1
 ·have:j=i:=by omega
  rw[this];exact hi
theorem sCheck_spec(s:List (Int × Int))(h:s.length≤2000000000)(hs:SetOk s):KCall Tryd.prog 48 [.vec (s.map encR) false] (.lit (.int .i64 (if chkS s then 0 else 2))):=by
 refine KCall_of (SCall_intro Tryd.func48 rfl Tryd.ntmps48 (rs:=[.tmp 2]) rfl (by simp) ?_)
 simp -implicitDefEqProofs (disch:=omega) only[Wz,seval]
 refine aw_for s.length 0 (fun i (_:Unit)=>⟨[(7,.lit (.int .i64 (i:Int))),(6,.lit (.int .i64 (s.length:Int))),(5,.vec (s.map encR) false),(0,.vec (s.map encR) false)],.none,36⟩) (fun i _=>∀ j,j<i→chkR s j=true) (fun _ _=>rfl) () (St.wk_slots (by simp[lk])) (by simp) (fun i _ hlt hno=>?_) (fun _ hno=>?_)
 ·have key:chkR s i=decide ((s.getD i default).1≤(s.getD i default).2∧(i=0∨(s.getD (i - 1) default).2+1<(s.getD i default).1)):=rfl
  have o1:=hs _ (getD_mem hlt)
  have o2:i≠0→_:=fun h=>hs _ (getD_mem (show i - 1<s.length by omega))
  have fin:chkR s i=false→KExpo ⟨[(0,[.lit (.int .i32 (s.getD i default).1),.lit (.int .i32 (s.getD i default).2)])],[],1⟩ (.lit (.int .i64 2)) (.lit (.int .i64 (if chkS s then 0 else 2))):=fun h=>by
   have e:chkS s=false:=all_not hlt h
   rw[e]
   exact kexpo (.lit _)
  have back:chkR s i=true→∀ sl:List (Nat × AV),lk sl 7=some (.lit (.int .i64 ((i+1:Nat):Int)))→lk sl 6=some (.lit (.int .i64 (s.length:Int)))→lk sl 5=some (.vec (s.map encR) false)→lk sl 0=some (.vec (s.map encR) false) →
    ∃ x:Unit,(∀ j,j<i+1→chkR s j=true)∧St.cp 0 ⟨sl,⟨[(0,[.lit (.int .i32 (s.getD i default).1),.lit (.int .i32 (s.getD i default).2)])],[],1⟩,36⟩ ⟨[(7,.lit (.int .i64 ((i+1:Nat):Int))),(6,.lit (.int .i64 (s.length:Int))),(5,.vec (s.map encR) false),(0,.vec (s.map encR) false)],.none,36⟩:=fun h sl e1 e2 e3 e4 =>
   ⟨(),lt_step hno h,cp_drop' (Nat.le_refl _) (Nat.zero_le _) rfl (allc ⟨e1,.pure (.lit _)⟩ (allc ⟨e2,.pure (.lit _)⟩ (allc ⟨e3,.pure (.vec (pure_rows pure_encR _))⟩ (allc ⟨e4,.pure (.vec (pure_rows pure_encR _))⟩ alln)))) alln alln⟩
  by_cases h1:(s.getD i default).1≤(s.getD i default).2
  ·by_cases h2:i=0
   ·have hk:chkR s i=true:=by rw[key];exact decide_eq_true ⟨h1,.inl h2⟩
    simp -implicitDefEqProofs (disch:=omega) only[Wz,seval,encR]
    refine aw_quietN (n:=36) rfl (by decide) mixed ?_
    simp -implicitDefEqProofs (disch:=omega) only[Wz,seval]
    exact back hk _ rfl rfl rfl rfl
   ·have o3:=o2 h2
    have i1:((i:Int) - 1).toNat=i - 1:=by omega
    have i2:IntKind.i64.wrap ((i:Int) - 1)=(i:Int) - 1:=i64w (by omega) (by omega)
    by_cases h3:(s.getD (i - 1) default).2+1<(s.getD i default).1
    ·have hk:chkR s i=true:=by rw[key];exact decide_eq_true ⟨h1,.inr h3⟩
     simp -implicitDefEqProofs (disch:=omega) only[Wz,seval,encR]
     refine aw_quietN (n:=36) rfl (by decide) mixed ?_
     simp -implicitDefEqProofs (disch:=omega) only[Wz,seval,encR,i1,i2]
     exact back hk _ rfl rfl rfl rfl
    ·have hk:chkR s i=false:=by rw[key];exact decide_eq_false (by omega)
     simp -implicitDefEqProofs (disch:=omega) only[Wz,seval,encR]
     refine aw_quietN (n:=36) rfl (by decide) mixed ?_
     simp -implicitDefEqProofs (disch:=omega) only[Wz,seval,encR,i1,i2]
     exact fin hk
  ·have hk:chkR s i=false:=by rw[key];exact decide_eq_false (by omega)
   simp -implicitDefEqProofs (disch:=omega) only[Wz,seval,encR]
   refine aw_quietN (n:=36) rfl (by decide) mixed ?_
   simp -implicitDefEqProofs (disch:=omega) only[Wz,seval]
   exact fin hk
 ·have e:chkS s=true:=all_range hno
  rw[e]
  simp -implicitDefEqProofs (disch:=omega) only[Wz,seval]
  exact kexpo (.lit _)
def actV (n:Nt)(a:Int × Int):Bool:=if a.1=2 then decide (1≤a.2∧a.2≤(n.types.length:Int)) else if a.1=3 then decide (0≤a.2∧a.2<(n.channels.length:Int)) else if a.1=4∨a.1=5 then decide (0≤a.2∧a.2<(n.modes.length:Int))
 else if a.1=0∨a.1=1∨a.1=6 then decide (a.2=0) else false
theorem pure_ppN(n:Nt):Ab.Pure (.pp (encN n) 0):=.pp (pure_encN n)
theorem act_spec(n:Nt)(a:Int × Int):PCall Tryd.prog 68 [.pp (encN n) 0,.agg (encAct a)] (.lit (.bool (actV n a))):=by
 refine PCall_intro Tryd.func68 rfl Tryd.ntmps68 (rs:=[.tmp 4]) rfl (by simp) ?_
 have fin:∀ h (b:Bool),Expo h (.lit (.bool b)) (.lit (.bool b)):=fun h b=>expo_pure (.lit _)
 unfold actV
 by_cases h2:a.1=2
 ·by_cases k1:1≤a.2 <;> by_cases k2:a.2≤(n.types.length:Int)
  all_goals
   simp -implicitDefEqProofs (disch:=omega) only[Wz,seval,encAct,encN,h2]
   refine aw_drawC (n:=60) (σ':=⟨[(4,.lit (.bool (decide (1≤a.2∧a.2≤(n.types.length:Int)))))],⟨[],[],1⟩,60⟩) 1 13 (.alt 13 .leaf .nil) rfl (by decide) (by decide) mixed (by kernel_rfl) (by decide) ?_ ?_
   ·simp -implicitDefEqProofs (disch:=omega) only[Wz,seval]
    exact St.wk.cp (St.wk_slots1 (by simp[lk]) (by simp[lk]) (fun t=>rfl))
   ·simp -implicitDefEqProofs (disch:=omega) only[Wz,seval]
    exact fin _ _
 by_cases h3:a.1=3
 ·by_cases k1:0≤a.2 <;> by_cases k2:a.2<(n.channels.length:Int)
  all_goals
   simp -implicitDefEqProofs (disch:=omega) only[Wz,seval,encAct,encN,h3]
   refine aw_drawC (n:=60) (σ':=⟨[(4,.lit (.bool (decide (0≤a.2∧a.2<(n.channels.length:Int)))))],⟨[],[],1⟩,60⟩) 1 13 (.alt 13 .leaf .nil) rfl (by decide) (by decide) mixed (by kernel_rfl) (by decide) ?_ ?_
   ·simp -implicitDefEqProofs (disch:=omega) only[Wz,seval]
    exact St.wk.cp (St.wk_slots1 (by simp[lk]) (by simp[lk]) (fun t=>rfl))
   ·simp -implicitDefEqProofs (disch:=omega) only[Wz,seval]
    exact fin _ _
 by_cases h4:a.1=4
 ·by_cases k1:0≤a.2 <;> by_cases k2:a.2<(n.modes.length:Int)
  all_goals
   simp -implicitDefEqProofs (disch:=omega) only[Wz,seval,encAct,encN,h4]
   refine aw_drawC (n:=60) (σ':=⟨[(4,.lit (.bool (decide (0≤a.2∧a.2<(n.modes.length:Int)))))],⟨[],[],1⟩,60⟩) 1 13 (.alt 13 .leaf .nil) rfl (by decide) (by decide) mixed (by kernel_rfl) (by decide) ?_ ?_
   ·simp -implicitDefEqProofs (disch:=omega) only[Wz,seval]
    exact St.wk.cp (St.wk_slots1 (by simp[lk]) (by simp[lk]) (fun t=>rfl))
   ·simp -implicitDefEqProofs (disch:=omega) only[Wz,seval]
    exact fin _ _
 by_cases h5:a.1=5
 ·by_cases k1:0≤a.2 <;> by_cases k2:a.2<(n.modes.length:Int)
  all_goals
   simp -implicitDefEqProofs (disch:=omega) only[Wz,seval,encAct,encN,h5]
   refine aw_drawC (n:=60) (σ':=⟨[(4,.lit (.bool (decide (0≤a.2∧a.2<(n.modes.length:Int)))))],⟨[],[],1⟩,60⟩) 1 13 (.alt 13 .leaf .nil) rfl (by decide) (by decide) mixed (by kernel_rfl) (by decide) ?_ ?_
   ·simp -implicitDefEqProofs (disch:=omega) only[Wz,seval]
    exact St.wk.cp (St.wk_slots1 (by simp[lk]) (by simp[lk]) (fun t=>rfl))
   ·simp -implicitDefEqProofs (disch:=omega) only[Wz,seval]
    exact fin _ _
 by_cases h6:a.1=0∨a.1=1∨a.1=6
 ·by_cases k1:a.2=0
  all_goals
   rcases h6 with h | h | h
   all_goals
    simp -implicitDefEqProofs (disch:=omega) only[Wz,seval,encAct,encN,h]
    exact fin _ _
 ·simp -implicitDefEqProofs (disch:=omega) only[Wz,seval,encAct,encN]
  exact fin _ _
def encK (n:Nt)(r:Nr)(no:Int)(e:Ed):List AV:=[.pp (encN n) 0,.pp (encNr r) 0,.lit (.int .i64 no),.pp (encE e) 0]
theorem pure_encK(n:Nt)(r:Nr)(no:Int)(e:Ed):∀ c∈encK n r no e,Ab.Pure c:=by
 intro c hc
 simp only[encK,List.mem_cons,List.not_mem_nil,or_false] at hc
 rcases hc with rfl | rfl | rfl | rfl
 ·exact .pp (pure_encN n)
 ·exact .pp (pure_encNr r)
 ·exact .lit _
 ·exact .pp (pure_encE e)
theorem gpK(n:Nt)(r:Nr)(no:Int)(e:Ed):GP (.agg (encK n r no e)):=.of_pure (.agg (pure_encK n r no e))
def kd0 (e:Ed):Bool:=decide (e.n=0∧e.level=0)
def kd4 (e:Ed):Bool:=decide ((1≤e.n∧e.n≤64)∧e.level=0)
def kd5 (r:Nr)(e:Ed):Bool:=r.left && decide ((1≤e.n∧e.n≤64)∧1≤e.level∧e.level≤64)
def kd6 (r:Nr)(e:Ed):Bool:=r.left && decide (e.n=0∧e.level=0)
theorem kd0_spec(n:Nt)(r:Nr)(no:Int)(e:Ed):PCall Tryd.prog 57 [.agg (encK n r no e)] (.lit (.bool (kd0 e))):=by
 refine PCall_intro Tryd.func57 rfl Tryd.ntmps57 (rs:=[.tmp 2]) rfl (by simp) ?_
 unfold kd0
 by_cases k1:e.n=0 <;> by_cases k2:e.level=0
 all_goals
  simp -implicitDefEqProofs (disch:=omega) only[Wz,seval,encK,encE]
  exact expo_pure (.lit _)
theorem kd4_spec(n:Nt)(r:Nr)(no:Int)(e:Ed):PCall Tryd.prog 62 [.agg (encK n r no e)] (.lit (.bool (kd4 e))):=by
 refine PCall_intro Tryd.func62 rfl Tryd.ntmps62 (rs:=[.tmp 2]) rfl (by simp) ?_
 unfold kd4
 by_cases k1:1≤e.n <;> by_cases k2:e.n≤64 <;> by_cases k3:e.level=0
 all_goals
  simp -implicitDefEqProofs (disch:=omega) only[Wz,seval,encK,encE]
  exact expo_pure (.lit _)
theorem kd5_spec(n:Nt)(r:Nr)(no:Int)(e:Ed):PCall Tryd.prog 63 [.agg (encK n r no e)] (.lit (.bool (kd5 r e))):=by
 refine PCall_intro Tryd.func63 rfl Tryd.ntmps63 (rs:=[.tmp 2]) rfl (by simp) ?_
 unfold kd5
 cases hl:r.left
 ·simp -implicitDefEqProofs (disch:=omega) only[Wz,seval,encK,encE,encNr,hl,Bool.false_and]
  exact expo_pure (.lit _)
 by_cases k1:1≤e.n <;> by_cases k2:e.n≤64 <;> by_cases k3:1≤e.level <;> by_cases k4:e.level≤64
 all_goals
  simp -implicitDefEqProofs (disch:=omega) only[Wz,seval,encK,encE,encNr,hl,Bool.true_and]
  exact expo_pure (.lit _)
theorem kd6_spec(n:Nt)(r:Nr)(no:Int)(e:Ed):PCall Tryd.prog 64 [.agg (encK n r no e)] (.lit (.bool (kd6 r e))):=by
 refine PCall_intro Tryd.func64 rfl Tryd.ntmps64 (rs:=[.tmp 2]) rfl (by simp) ?_
 unfold kd6
 cases hl:r.left
 ·simp -implicitDefEqProofs (disch:=omega) only[Wz,seval,encK,encE,encNr,hl,Bool.false_and]
  exact expo_pure (.lit _)
 by_cases k1:e.n=0 <;> by_cases k2:e.level=0
 all_goals
  simp -implicitDefEqProofs (disch:=omega) only[Wz,seval,encK,encE,encNr,hl,Bool.true_and]
  exact expo_pure (.lit _)
def kd3 (r:Nr)(e:Ed):Bool:=decide (e.n=0∧e.level=0) && (ckG e.g && (!(holdsV 14 e.g) && (r.lexer || !(holdsV 13 e.g))))
theorem kd3_spec(n:Nt)(r:Nr)(no:Int)(e:Ed)(h:gsz e.g≤2000000000)(hok:GdOk e.g):KCall Tryd.prog 60 [.agg (encK n r no e)] (.lit (.bool (kd3 r e))):=by
 refine KCall_of (SCall_intro Tryd.func60 rfl Tryd.ntmps60 (rs:=[.tmp 2]) rfl (by simp) ?_)
 have hg:=gCheck_spec e.g h hok
 have gg:=gpG e.g
 rw[encG_eq] at hg gg
 have q1:=holds_e 14 e h
 have q2:=holds_e 13 e h
 have gp:GP (.pp (encE e) 4):=.of_pure (.pp (pure_encE e))
 simp only[encE] at q1 q2 gp
 unfold kd3
 by_cases k1:e.n=0
 ·by_cases k2:e.level=0
  ·simp -implicitDefEqProofs (disch:=omega) only[Wz,seval,encK,encE]
   refine CallK_k call54 hg (allc gg alln) (.lit _) ?_
   cases ckG e.g
   ·simp -implicitDefEqProofs (disch:=omega) only[Wz,seval,Bool.false_and,Bool.and_false,Bool.false_eq_true]
    exact kexpo (.lit _)
   ·simp -implicitDefEqProofs (disch:=omega) only[Wz,seval,Bool.true_and,Bool.and_true]
    refine CallK_k call61 q1 (allc gp (allc (.lit _) alln)) (.lit _) ?_
    cases holdsV 14 e.g
    ·simp -implicitDefEqProofs (disch:=omega) only[Wz,seval,Bool.not_false,Bool.true_and,encNr]
     cases r.lexer
     ·simp -implicitDefEqProofs (disch:=omega) only[Wz,seval,Bool.false_or]
      refine CallK_k call61 q2 (allc gp (allc (.lit _) alln)) (.lit _) ?_
      simp -implicitDefEqProofs (disch:=omega) only[Wz,seval]
      exact kexpo (.lit _)
     ·simp -implicitDefEqProofs (disch:=omega) only[Wz,seval,Bool.true_or]
      exact kexpo (.lit _)
    ·simp -implicitDefEqProofs (disch:=omega) only[Wz,seval,Bool.not_true,Bool.false_and]
     exact kexpo (.lit _)
  ·simp -implicitDefEqProofs (disch:=omega) only[Wz,seval,encK,encE,Bool.false_and]
   exact kexpo (.lit _)
 ·simp -implicitDefEqProofs (disch:=omega) only[Wz,seval,encK,encE,Bool.false_and]
  exact kexpo (.lit _)
def kd7 (n:Nt)(r:Nr)(e:Ed):Bool:=r.lexer && (!r.frag && (decide (e.n=0∧e.level=0) && e.acts.all (actV n)))
theorem kd7_spec(n:Nt)(r:Nr)(no:Int)(e:Ed)(h:e.acts.length≤2000000000):KCall Tryd.prog 65 [.agg (encK n r no e)] (.lit (.bool (kd7 n r e))):=by
 have hany:e.acts.all (actV n) = !(e.acts.any fun a => !(actV n a)):=by rw[List.not_any_eq_all_not];simp
 have own:Own (oneB (encK n r no e)):=oneB_own (pure_encK n r no e)
 have w1:∀ a∈e.acts,QCall Tryd.prog 67 ([]++[.agg (encAct a)]++[.ptr 0 0]) (oneB (encK n r no e)) (.lit (.bool (!(actV n a)))):=fun a ha=>by
  refine SCall_introC Tryd.func67 rfl Tryd.ntmps67 (rs:=[.tmp 3]) rfl (by simp) (N:=1) rfl ?_
  simp -implicitDefEqProofs (disch:=omega) only[Wz,seval,oneB,encK]
  refine CallK_pure call68 (act_spec n a) (allc (pure_ppN n) (allc (.agg (pure_encAct a)) alln)) (.lit _) ?_
  simp -implicitDefEqProofs (disch:=omega) only[Wz,seval]
  exact ret1 3 own rfl (by show 1≤2;decide) rfl (.pure (.lit _)) (allc rfl alln) alln
 refine KCall_of (SCall_intro Tryd.func65 rfl Tryd.ntmps65 (rs:=[.tmp 2]) rfl (by simp) ?_)
 unfold kd7
 rw[hany]
 cases hl:r.lexer
 ·simp -implicitDefEqProofs (disch:=omega) only[Wz,seval,encK,encE,encNr,hl,Bool.false_and]
  exact kexpo (.lit _)
 cases hf:r.frag
 ·by_cases k1:e.n=0
  ·by_cases k2:e.level=0
   ·simp -implicitDefEqProofs (disch:=omega) only[Wz,seval,encK,encE,encNr,hl,hf,Bool.not_false,Bool.true_and]
    have hc:=contains_Act e.acts (fun a => !(actV n a)) false h 67 [] [.ptr 0 0] (oneB (encK n r no e)) call67 w1
    simp only[oneB,encK,encE,encNr,hl,hf] at hc
    refine CallK_of call66 hc ?_
    rintro r' h' ⟨rfl,rfl⟩
    simp -implicitDefEqProofs (disch:=omega) only[Wz,seval]
    exact kexpo (.lit _)
   ·simp -implicitDefEqProofs (disch:=omega) only[Wz,seval,encK,encE,encNr,hl,hf,Bool.not_false,Bool.true_and,Bool.false_and]
    exact kexpo (.lit _)
  ·simp -implicitDefEqProofs (disch:=omega) only[Wz,seval,encK,encE,encNr,hl,hf,Bool.not_false,Bool.true_and,Bool.false_and]
   exact kexpo (.lit _)
 ·simp -implicitDefEqProofs (disch:=omega) only[Wz,seval,encK,encE,encNr,hl,hf,Bool.not_true,Bool.true_and,Bool.false_and]
  exact kexpo (.lit _)
def kd2 (n:Nt)(r:Nr)(no:Int)(e:Ed):Bool:=decide (0≤e.n∧e.n<(n.rules.length:Int)) && ((n.rules.getD e.n.toNat default).lexer==r.lexer && (decide (0≤e.level∧e.level≤65) && (decide (e.level=0) || (decide (e.n=no) && r.left))))
theorem kd2_spec(n:Nt)(r:Nr)(no:Int)(e:Ed)(h:n.rules.length≤2000000000):PCall Tryd.prog 59 [.agg (encK n r no e)] (.lit (.bool (kd2 n r no e))):=by
 refine PCall_intro Tryd.func59 rfl Tryd.ntmps59 (rs:=[.tmp 2]) rfl (by simp) ?_
 simp -implicitDefEqProofs (disch:=omega) only[Wz,seval,encK,encE,encNr,encN,List.append_eq,List.cons_append,List.nil_append]
 refine aw_drawC (n:=85) (σ':=⟨[(2,.lit (.bool (kd2 n r no e)))],⟨[],[],1⟩,85⟩) 1 82 (.alt 82 .leaf .nil) rfl (by decide) (by decide) mixed (by kernel_rfl) (by decide) ?_ ?_
 ·unfold kd2
  by_cases k1:0≤e.n
  ·by_cases k2:e.n<(n.rules.length:Int)
   ·cases hx:((n.rules.getD e.n.toNat default).lexer==r.lexer)
    ·simp -implicitDefEqProofs (disch:=omega) only[Wz,seval,encNr,hx,Bool.true_and,Bool.false_and]
     exact St.wk.cp (St.wk_slots1 (by simp[lk]) (by simp[lk]) (fun t=>rfl))
    ·by_cases k3:0≤e.level
     ·by_cases k4:e.level≤65
      ·by_cases k5:e.level=0
       ·simp -implicitDefEqProofs (disch:=omega) only[Wz,seval,encNr,hx,Bool.true_and,Bool.false_and,Bool.true_or]
        exact St.wk.cp (St.wk_slots1 (by simp[lk]) (by simp[lk]) (fun t=>rfl))
       ·by_cases k6:e.n=no
        ·cases hl:r.left
         ·simp -implicitDefEqProofs (disch:=omega) only[Wz,seval,encNr,hx,Bool.true_and,Bool.false_and,hl,Bool.false_or,Bool.and_false,Bool.and_true]
          exact St.wk.cp (St.wk_slots1 (by simp[lk]) (by simp[lk]) (fun t=>rfl))
         ·simp -implicitDefEqProofs (disch:=omega) only[Wz,seval,encNr,hx,Bool.true_and,Bool.false_and,hl,Bool.false_or,Bool.and_false,Bool.and_true]
          exact St.wk.cp (St.wk_slots1 (by simp[lk]) (by simp[lk]) (fun t=>rfl))
        ·simp -implicitDefEqProofs (disch:=omega) only[Wz,seval,encNr,hx,Bool.true_and,Bool.false_and,Bool.false_or]
         exact St.wk.cp (St.wk_slots1 (by simp[lk]) (by simp[lk]) (fun t=>rfl))
      ·simp -implicitDefEqProofs (disch:=omega) only[Wz,seval,encNr,hx,Bool.true_and,Bool.false_and]
       exact St.wk.cp (St.wk_slots1 (by simp[lk]) (by simp[lk]) (fun t=>rfl))
     ·simp -implicitDefEqProofs (disch:=omega) only[Wz,seval,encNr,hx,Bool.true_and,Bool.false_and]
      exact St.wk.cp (St.wk_slots1 (by simp[lk]) (by simp[lk]) (fun t=>rfl))
   ·simp -implicitDefEqProofs (disch:=omega) only[Wz,seval,Bool.false_and]
    exact St.wk.cp (St.wk_slots1 (by simp[lk]) (by simp[lk]) (fun t=>rfl))
  ·simp -implicitDefEqProofs (disch:=omega) only[Wz,seval,Bool.false_and]
   exact St.wk.cp (St.wk_slots1 (by simp[lk]) (by simp[lk]) (fun t=>rfl))
 ·simp -implicitDefEqProofs (disch:=omega) only[Wz,seval]
  exact expo_pure (.lit _)
end Go.Proofs.YtgbbhilflgekhaaDoor
end
