/- What the claim wants of the machine, the contracts and the law, laid together. -/
import Derived.Test.YtgbbhilflgekhaaDoorXk
import Derived.Carry
import Derived.ChangeSame
import Derived.JoinedCond
import Derived.OpenShut
import Derived.Test.YtgbbhilflgekhaaDoorRows
import Derived.Lib.LaidU8T
set_option linter.unusedVariables false
set_option linter.unusedSimpArgs false
section
namespace Go.Proofs.YtgbbhilflgekhaaDoor
open Go Go.Ab
set_option maxRecDepth 20000
set_option maxHeartbeats 1000000
def nbB (s:ByteArray)(i:Nat):Bool:=decide (i<s.size) && decide (bt s i / 64=2)
def nbV (s:ByteArray)(i:Nat):Nat:=if nbB s i then bt s i % 64 else 0
theorem and192{b:Nat}(h:b<256):(IntKind.u8.wrap ((BitVec.ofInt IntKind.u8.bits (b:Int) &&& BitVec.ofInt IntKind.u8.bits 192).toNat:Int)==128)=decide (b / 64=2):=by
 have key:∀ x:Fin 256,(IntKind.u8.wrap ((BitVec.ofInt IntKind.u8.bits ((x.1:Nat):Int) &&& BitVec.ofInt IntKind.u8.bits 192).toNat:Int)==128)=decide (x.1 / 64=2):=by decide +kernel
 exact key ⟨b,h⟩
theorem and63{b:Nat}(h:b<256):IntKind.u8.wrap ((BitVec.ofInt IntKind.u8.bits (b:Int) &&& BitVec.ofInt IntKind.u8.bits 63).toNat:Int)=((b % 64:Nat):Int):=by
 have key:∀ x:Fin 256,IntKind.u8.wrap ((BitVec.ofInt IntKind.u8.bits ((x.1:Nat):Int) &&& BitVec.ofInt IntKind.u8.bits 63).toNat:Int)=((x.1 % 64:Nat):Int):=by decide +kernel
 exact key ⟨b,h⟩
theorem and31{b:Nat}(h:b<256):IntKind.i32.wrap ((BitVec.ofInt IntKind.i32.bits (b:Int) &&& BitVec.ofInt IntKind.i32.bits 31).toNat:Int)=((b % 32:Nat):Int):=by
 have key:∀ x:Fin 256,IntKind.i32.wrap ((BitVec.ofInt IntKind.i32.bits ((x.1:Nat):Int) &&& BitVec.ofInt IntKind.i32.bits 31).toNat:Int)=((x.1 % 32:Nat):Int):=by decide +kernel
 exact key ⟨b,h⟩
theorem and15{b:Nat}(h:b<256):IntKind.i32.wrap ((BitVec.ofInt IntKind.i32.bits (b:Int) &&& BitVec.ofInt IntKind.i32.bits 15).toNat:Int)=((b % 16:Nat):Int):=by
 have key:∀ x:Fin 256,IntKind.i32.wrap ((BitVec.ofInt IntKind.i32.bits ((x.1:Nat):Int) &&& BitVec.ofInt IntKind.i32.bits 15).toNat:Int)=((x.1 % 16:Nat):Int):=by decide +kernel
 exact key ⟨b,h⟩
theorem and7{b:Nat}(h:b<256):IntKind.i32.wrap ((BitVec.ofInt IntKind.i32.bits (b:Int) &&& BitVec.ofInt IntKind.i32.bits 7).toNat:Int)=((b % 8:Nat):Int):=by
 have key:∀ x:Fin 256,IntKind.i32.wrap ((BitVec.ofInt IntKind.i32.bits ((x.1:Nat):Int) &&& BitVec.ofInt IntKind.i32.bits 7).toNat:Int)=((x.1 % 8:Nat):Int):=by decide +kernel
 exact key ⟨b,h⟩
theorem ofInt32{a:Nat}(h:a<4294967296):(BitVec.ofInt 32 (a:Int)).toNat=a:=by
 rw[BitVec.ofInt_natCast,BitVec.toNat_ofNat]
 exact Nat.mod_eq_of_lt h
theorem shl6{x:Nat}(h:x<1000000):IntKind.i32.wrap ((x:Int) * 2 ^ min (Int.toNat 6) IntKind.i32.bits)=((x * 64:Nat):Int):=by
 have e:((x:Int) * 2 ^ min (Int.toNat 6) IntKind.i32.bits)=((x * 64:Nat):Int):=by
  show (x:Int) * 2 ^ 6=_
  omega
 rw[e]
 exact IntWalk.i32_in _ ⟨by omega,by omega⟩
theorem shl6b{x:Nat}(h:x<1000000):IntKind.i32.wrap ((x:Int) * 2 ^ min 6 IntKind.i32.bits)=((x * 64:Nat):Int):=shl6 h
theorem or6{x y:Nat}(h:x<1000000)(hy:y<64):IntKind.i32.wrap ((BitVec.ofInt IntKind.i32.bits ((x * 64:Nat):Int) ||| BitVec.ofInt IntKind.i32.bits (y:Int)).toNat:Int)=((x * 64+y:Nat):Int):=by
 have e:(BitVec.ofInt IntKind.i32.bits ((x * 64:Nat):Int) ||| BitVec.ofInt IntKind.i32.bits (y:Int)).toNat=x * 64+y:=by
  show (BitVec.ofInt 32 ((x * 64:Nat):Int) ||| BitVec.ofInt 32 (y:Int)).toNat=_
  rw[BitVec.toNat_or,ofInt32 (by omega),ofInt32 (by omega)]
  have:=Nat.two_pow_add_eq_or_of_lt (i:=6) (b:=y) (by omega) x
  rw[show x * 64=2 ^ 6 * x by omega,this]
 rw[e]
 exact IntWalk.i32_in _ ⟨by omega,by omega⟩
theorem byQ(l:List UInt8)(i:Nat):encBy (l.getD i default)=[.lit (.int .u8 (bt (ofB l) i:Int))]:=by
 unfold encBy
 rw[ofB_bt];rfl
theorem nx_spec(L:List (Nat × List Value))(l:List UInt8)(f:Bool)(i:Nat)(hl:l.length≤1000000000)(hi:i≤2000000000):PCall Tryd.prog 23 [inV L l f,.lit (.int .i64 (i:Int))] (.tup [.lit (.int .i32 (nbV (ofB l) i:Int)),.lit (.bool (nbB (ofB l) i))]):=by
 refine PCall_of_SCall (SCall_introK Tryd.func23 rfl Tryd.ntmps23 (rs:=[.tmp 4,.tmp 5]) rfl (by simp) ?_)
 have hsz:=ofB_size l
 unfold nbV nbB
 rw[hsz]
 refine aw_of ?_
 rcases Nat.lt_or_ge i l.length with hlt | hge
 ·have hq:=byQ l i
  have hb:=bt_lt (ofB l) i
  generalize bt (ofB l) i=b at hq hb ⊢
  have h1:=and192 hb
  have h2:=and63 hb
  have hw:IntKind.i32.wrap ((b % 64:Nat):Int)=((b % 64:Nat):Int):=IntWalk.i32_in _ ⟨by omega,by omega⟩
  rw[decide_eq_true hlt,Bool.true_and]
  by_cases h:b / 64=2
  ·rw[decide_eq_true h] at h1
   rw[if_pos (decide_eq_true h),decide_eq_true h]
   simp -implicitDefEqProofs (disch:=omega) only[Wz,seval,inV,hq,h1,h2,hw]
   exact expo_tup (expoL_cons (expo_pure (.lit _)) (expoL_cons (expo_pure (.lit _)) expoL_nil))
  ·rw[decide_eq_false h] at h1
   rw[if_neg (by rw[decide_eq_false h];decide),decide_eq_false h]
   simp -implicitDefEqProofs (disch:=omega) only[Wz,seval,inV,hq,h1,h2,hw]
   exact expo_tup (expoL_cons (expo_pure (.lit _)) (expoL_cons (expo_pure (.lit _)) expoL_nil))
 ·rw[decide_eq_false (by omega),Bool.false_and,if_neg (by decide)]
  simp -implicitDefEqProofs (disch:=omega) only[Wz,seval,inV]
  exact expo_tup (expoL_cons (expo_pure (.lit _)) (expoL_cons (expo_pure (.lit _)) expoL_nil))
def accU (s:ByteArray)(i x0:Nat):Nat→Nat
 | 0=>x0
 | k+1=>accU s i x0 k * 64+bt s (i+(k+1)) % 64
def allU (s:ByteArray)(i:Nat):Nat→Bool
 | 0=>true
 | k+1=>allU s i k && nbB s (i+(k+1))
theorem allU_no{s:ByteArray}{i:Nat}:∀ {k j:Nat},nbB s (i+(j+1))=false→j<k→allU s i k=false
 | k+1,j,h,hj=>by
  simp only[allU,Bool.and_eq_false_iff]
  rcases Nat.lt_or_ge j k with q | q
  ·exact .inl (allU_no h q)
  ·have:j=k:=by omega
   subst this;exact .inr h
def badU (n c x least:Nat):Bool:=(decide (n=1) && decide (128≤c)) || (decide (x<least) || (decide (1114111<x) || (decide (55296≤x) && decide (x≤57343))))
def rU (s:ByteArray)(i n x0 least:Nat):Nat × Nat :=
 if allU s i (n - 1) then (if badU n (bt s i) (accU s i x0 (n - 1)) least then (1114112+bt s i,1) else (accU s i x0 (n - 1),n)) else (1114112+bt s i,1)
theorem at2_spec(L:List (Nat × List Value))(l:List UInt8)(f:Bool)(i:Nat)(hl:l.length≤1000000000)(hi:i<l.length)(h0:192≤bt (ofB l) i)(h9:bt (ofB l) i<224) :
    PCall Tryd.prog 16 [inV L l f,.lit (.int .i64 (i:Int))] (.tup [.lit (.int .i32 ((rU (ofB l) i 2 (bt (ofB l) i % 32) 128).1:Int)),.lit (.int .i64 ((rU (ofB l) i 2 (bt (ofB l) i % 32) 128).2:Int))]):=by
  refine PCall_of_SCall (SCall_introK Tryd.func16 rfl Tryd.ntmps16 (rs:=[.tmp 4,.tmp 5]) rfl (by simp) ?_)
  have hq:=byQ l i
  have hpx:=pure_inV L l f
  have hnx:=fun k hk=>nx_spec L l f k hl hk
  have hrU:rU (ofB l) i 2 (bt (ofB l) i % 32) 128=if allU (ofB l) i (2 - 1) then (if badU 2 (bt (ofB l) i) (accU (ofB l) i (bt (ofB l) i % 32) (2 - 1)) 128 then (1114112+bt (ofB l) i,1) else (accU (ofB l) i (bt (ofB l) i % 32) (2 - 1),2)) else (1114112+bt (ofB l) i,1):=rfl
  unfold inV at hpx hnx ⊢
  generalize hs:ofB l=s at hq hnx hrU h0 h9 ⊢
  generalize hb:bt s i=b at hq hrU h0 h9 ⊢
  have ha:=and31 (b:=b) (by omega)
  have hw:IntKind.i32.wrap (b:Int)=(b:Int):=IntWalk.i32_in _ ⟨by omega,by omega⟩
  have hwb:IntKind.i32.wrap ((1114112+b:Nat):Int)=((1114112+b:Nat):Int):=IntWalk.i32_in _ ⟨by omega,by omega⟩
  have hcast:(1114112+(b:Int))=((1114112+b:Nat):Int):=by omega
  refine aw_of ?_
  simp -implicitDefEqProofs (disch:=omega) only[Wz,seval,hq,hw,ha]
  have hacc:∀ k,k≤2 - 1→accU s i (b % 32) k<32 * 64 ^ k:=by
    intro k
    induction k with
    | zero=>intro _;show b % 32<_;omega
    | succ k ih=>intro hk;have:=ih (by omega);show accU s i (b % 32) k * 64+bt s (i+(k+1)) % 64<_;rw[Nat.pow_succ];omega
  have hacc2:∀ k,k≤2 - 1→accU s i (b % 32) k<4000000:=fun k hk=>by
    have:=hacc k hk
    have h2:64 ^ k≤64 ^ (2 - 1):=Nat.pow_le_pow_right (by omega) hk
    have h3:=Nat.mul_le_mul_left 32 h2
    have h4:32 * 64 ^ (2 - 1)≤4000000:=by decide
    omega
  have hacc3:∀ k,k<2 - 1→accU s i (b % 32) k<1000000:=fun k hk=>by
    have:=hacc k (by omega)
    have h2:64 ^ k≤64 ^ (2 - 2):=Nat.pow_le_pow_right (by omega) (by omega)
    have h3:=Nat.mul_le_mul_left 32 h2
    have h4:32 * 64 ^ (2 - 2)≤1000000:=by decide
    omega
  refine aw_measA (fun k:Nat=>⟨[(0,.wit L (.vec (l.map encBy) f)),(1,.lit (.int .i64 (i:Int))),(6,.lit (.int .i32 (b:Int))),(7,.lit (.int .i64 2)),(8,.lit (.int .i32 (accU s i (b % 32) k:Int))),(9,.lit (.int .i32 128)),(10,.lit (.int .i64 ((k+1:Nat):Int)))],.none,99⟩) (fun k=>k≤2 - 1∧allU s i k=true) (fun k=>2 - k) 0 (wk_lk (by simp[lk,accU]) (fun _ _ e=>e) (fun _ _ e=>e) rfl rfl) ⟨by omega,rfl⟩ ?_
  rintro k ⟨hk,hall⟩
  refine aw_of ?_
  rcases Nat.lt_or_ge k (2 - 1) with hlt | hge
  · have hki:(i:Int)+((k+1:Nat):Int)=((i+(k+1):Nat):Int):=by omega
    have hwi:IntKind.i64.wrap ((i+(k+1):Nat):Int)=((i+(k+1):Nat):Int):=i64w (by omega) (by omega)
    simp -implicitDefEqProofs (disch:=omega) only[Wz,seval,hki,hwi]
    refine CallK_pure call23 (hnx _ (by omega)) (allc hpx (allc (.lit _) alln)) (.tup (allc (.lit _) (allc (.lit _) alln))) ?_
    have hnv:nbV s (i+(k+1))=if nbB s (i+(k+1)) then bt s (i+(k+1)) % 64 else 0:=rfl
    cases hn:nbB s (i+(k+1)) with
    | false =>
      rw[hrU,if_neg (by rw[allU_no hn hlt];decide)]
      simp -implicitDefEqProofs (disch:=omega) only[Wz,seval,hwb,hcast]
      exact expo_tup (expoL_cons (expo_pure (.lit _)) (expoL_cons (expo_pure (.lit _)) expoL_nil))
    | true =>
      rw[hn,if_pos rfl] at hnv
      have hx3:=hacc3 k hlt
      have hs6:=shl6 hx3
      have hs6b:=shl6b hx3
      have ho6:=or6 hx3 (y:=nbV s (i+(k+1))) (by rw[hnv];omega)
      have hk1:IntKind.i64.wrap (((k+1:Nat):Int)+1)=((k+1+1:Nat):Int):=i64w (by omega) (by omega)
      simp -implicitDefEqProofs (disch:=omega) only[Wz,seval,hs6,hs6b,ho6,hk1]
      refine⟨k+1,⟨by omega,?_⟩,by omega,?_⟩
      · simp only[allU,hall,hn,Bool.and_self]
      · refine wk_lk ?_ (fun _ _ e=>e) (fun _ _ e=>e) rfl rfl
        have e:accU s i (b % 32) k * 64+nbV s (i+(k+1))=accU s i (b % 32) (k+1):=by rw[hnv];rfl
        rw[e]
        simp[lk]
  · have hke:k=2 - 1:=by omega
    subst hke
    rw[hrU,if_pos hall]
    have hx:=hacc2 _ (Nat.le_refl _)
    generalize accU s i (b % 32) (2 - 1)=x at hx ⊢
    unfold badU
    by_cases h1:x<128
    · rw[if_pos (by simp only[decide_eq_true h1,Bool.true_or,Bool.or_true])]
      simp -implicitDefEqProofs (disch:=omega) only[Wz,seval,hwb,hcast]
      exact expo_tup (expoL_cons (expo_pure (.lit _)) (expoL_cons (expo_pure (.lit _)) expoL_nil))
    by_cases h2:1114111<x
    · rw[if_pos (by simp only[decide_eq_true h2,Bool.true_or,Bool.or_true])]
      simp -implicitDefEqProofs (disch:=omega) only[Wz,seval,hwb,hcast]
      exact expo_tup (expoL_cons (expo_pure (.lit _)) (expoL_cons (expo_pure (.lit _)) expoL_nil))
    by_cases h3:55296≤x
    · by_cases h4:x≤57343
      · rw[if_pos (by simp only[decide_eq_true h3,decide_eq_true h4,Bool.and_self,Bool.or_true])]
        first
        | (exfalso;omega)
        | (simp -implicitDefEqProofs (disch:=omega) only[Wz,seval,hwb,hcast]
           exact expo_tup (expoL_cons (expo_pure (.lit _)) (expoL_cons (expo_pure (.lit _)) expoL_nil)))
      · rw[if_neg (by simp only[decide_eq_false h1,decide_eq_false h2,decide_eq_false h4];simp)]
        first
        | (exfalso;omega)
        | (simp -implicitDefEqProofs (disch:=omega) only[Wz,seval,hwb,hcast]
           exact expo_tup (expoL_cons (expo_pure (.lit _)) (expoL_cons (expo_pure (.lit _)) expoL_nil)))
    · rw[if_neg (by simp only[decide_eq_false h1,decide_eq_false h2,decide_eq_false h3];simp)]
      first
      | (exfalso;omega)
      | (simp -implicitDefEqProofs (disch:=omega) only[Wz,seval,hwb,hcast]
         exact expo_tup (expoL_cons (expo_pure (.lit _)) (expoL_cons (expo_pure (.lit _)) expoL_nil)))
theorem at3_spec(L:List (Nat × List Value))(l:List UInt8)(f:Bool)(i:Nat)(hl:l.length≤1000000000)(hi:i<l.length)(h0:224≤bt (ofB l) i)(h9:bt (ofB l) i<240) :
    PCall Tryd.prog 16 [inV L l f,.lit (.int .i64 (i:Int))] (.tup [.lit (.int .i32 ((rU (ofB l) i 3 (bt (ofB l) i % 16) 2048).1:Int)),.lit (.int .i64 ((rU (ofB l) i 3 (bt (ofB l) i % 16) 2048).2:Int))]):=by
  refine PCall_of_SCall (SCall_introK Tryd.func16 rfl Tryd.ntmps16 (rs:=[.tmp 4,.tmp 5]) rfl (by simp) ?_)
  have hq:=byQ l i
  have hpx:=pure_inV L l f
  have hnx:=fun k hk=>nx_spec L l f k hl hk
  have hrU:rU (ofB l) i 3 (bt (ofB l) i % 16) 2048=if allU (ofB l) i (3 - 1) then (if badU 3 (bt (ofB l) i) (accU (ofB l) i (bt (ofB l) i % 16) (3 - 1)) 2048 then (1114112+bt (ofB l) i,1) else (accU (ofB l) i (bt (ofB l) i % 16) (3 - 1),3)) else (1114112+bt (ofB l) i,1):=rfl
  unfold inV at hpx hnx ⊢
  generalize hs:ofB l=s at hq hnx hrU h0 h9 ⊢
  generalize hb:bt s i=b at hq hrU h0 h9 ⊢
  have ha:=and15 (b:=b) (by omega)
  have hw:IntKind.i32.wrap (b:Int)=(b:Int):=IntWalk.i32_in _ ⟨by omega,by omega⟩
  have hwb:IntKind.i32.wrap ((1114112+b:Nat):Int)=((1114112+b:Nat):Int):=IntWalk.i32_in _ ⟨by omega,by omega⟩
  have hcast:(1114112+(b:Int))=((1114112+b:Nat):Int):=by omega
  refine aw_of ?_
  simp -implicitDefEqProofs (disch:=omega) only[Wz,seval,hq,hw,ha]
  have hacc:∀ k,k≤3 - 1→accU s i (b % 16) k<16 * 64 ^ k:=by
    intro k
    induction k with
    | zero=>intro _;show b % 16<_;omega
    | succ k ih=>intro hk;have:=ih (by omega);show accU s i (b % 16) k * 64+bt s (i+(k+1)) % 64<_;rw[Nat.pow_succ];omega
  have hacc2:∀ k,k≤3 - 1→accU s i (b % 16) k<4000000:=fun k hk=>by
    have:=hacc k hk
    have h2:64 ^ k≤64 ^ (3 - 1):=Nat.pow_le_pow_right (by omega) hk
    have h3:=Nat.mul_le_mul_left 16 h2
    have h4:16 * 64 ^ (3 - 1)≤4000000:=by decide
    omega
  have hacc3:∀ k,k<3 - 1→accU s i (b % 16) k<1000000:=fun k hk=>by
    have:=hacc k (by omega)
    have h2:64 ^ k≤64 ^ (3 - 2):=Nat.pow_le_pow_right (by omega) (by omega)
    have h3:=Nat.mul_le_mul_left 16 h2
    have h4:16 * 64 ^ (3 - 2)≤1000000:=by decide
    omega
  refine aw_measA (fun k:Nat=>⟨[(0,.wit L (.vec (l.map encBy) f)),(1,.lit (.int .i64 (i:Int))),(6,.lit (.int .i32 (b:Int))),(7,.lit (.int .i64 3)),(8,.lit (.int .i32 (accU s i (b % 16) k:Int))),(9,.lit (.int .i32 2048)),(10,.lit (.int .i64 ((k+1:Nat):Int)))],.none,99⟩) (fun k=>k≤3 - 1∧allU s i k=true) (fun k=>3 - k) 0 (wk_lk (by simp[lk,accU]) (fun _ _ e=>e) (fun _ _ e=>e) rfl rfl) ⟨by omega,rfl⟩ ?_
  rintro k ⟨hk,hall⟩
  refine aw_of ?_
  rcases Nat.lt_or_ge k (3 - 1) with hlt | hge
  · have hki:(i:Int)+((k+1:Nat):Int)=((i+(k+1):Nat):Int):=by omega
    have hwi:IntKind.i64.wrap ((i+(k+1):Nat):Int)=((i+(k+1):Nat):Int):=i64w (by omega) (by omega)
    simp -implicitDefEqProofs (disch:=omega) only[Wz,seval,hki,hwi]
    refine CallK_pure call23 (hnx _ (by omega)) (allc hpx (allc (.lit _) alln)) (.tup (allc (.lit _) (allc (.lit _) alln))) ?_
    have hnv:nbV s (i+(k+1))=if nbB s (i+(k+1)) then bt s (i+(k+1)) % 64 else 0:=rfl
    cases hn:nbB s (i+(k+1)) with
    | false =>
      rw[hrU,if_neg (by rw[allU_no hn hlt];decide)]
      simp -implicitDefEqProofs (disch:=omega) only[Wz,seval,hwb,hcast]
      exact expo_tup (expoL_cons (expo_pure (.lit _)) (expoL_cons (expo_pure (.lit _)) expoL_nil))
    | true =>
      rw[hn,if_pos rfl] at hnv
      have hx3:=hacc3 k hlt
      have hs6:=shl6 hx3
      have hs6b:=shl6b hx3
      have ho6:=or6 hx3 (y:=nbV s (i+(k+1))) (by rw[hnv];omega)
      have hk1:IntKind.i64.wrap (((k+1:Nat):Int)+1)=((k+1+1:Nat):Int):=i64w (by omega) (by omega)
      simp -implicitDefEqProofs (disch:=omega) only[Wz,seval,hs6,hs6b,ho6,hk1]
      refine⟨k+1,⟨by omega,?_⟩,by omega,?_⟩
      · simp only[allU,hall,hn,Bool.and_self]
      · refine wk_lk ?_ (fun _ _ e=>e) (fun _ _ e=>e) rfl rfl
        have e:accU s i (b % 16) k * 64+nbV s (i+(k+1))=accU s i (b % 16) (k+1):=by rw[hnv];rfl
        rw[e]
        simp[lk]
  · have hke:k=3 - 1:=by omega
    subst hke
    rw[hrU,if_pos hall]
    have hx:=hacc2 _ (Nat.le_refl _)
    generalize accU s i (b % 16) (3 - 1)=x at hx ⊢
    unfold badU
    by_cases h1:x<2048
    · rw[if_pos (by simp only[decide_eq_true h1,Bool.true_or,Bool.or_true])]
      simp -implicitDefEqProofs (disch:=omega) only[Wz,seval,hwb,hcast]
      exact expo_tup (expoL_cons (expo_pure (.lit _)) (expoL_cons (expo_pure (.lit _)) expoL_nil))
    by_cases h2:1114111<x
    · rw[if_pos (by simp only[decide_eq_true h2,Bool.true_or,Bool.or_true])]
      simp -implicitDefEqProofs (disch:=omega) only[Wz,seval,hwb,hcast]
      exact expo_tup (expoL_cons (expo_pure (.lit _)) (expoL_cons (expo_pure (.lit _)) expoL_nil))
    by_cases h3:55296≤x
    · by_cases h4:x≤57343
      · rw[if_pos (by simp only[decide_eq_true h3,decide_eq_true h4,Bool.and_self,Bool.or_true])]
        first
        | (exfalso;omega)
        | (simp -implicitDefEqProofs (disch:=omega) only[Wz,seval,hwb,hcast]
           exact expo_tup (expoL_cons (expo_pure (.lit _)) (expoL_cons (expo_pure (.lit _)) expoL_nil)))
      · rw[if_neg (by simp only[decide_eq_false h1,decide_eq_false h2,decide_eq_false h4];simp)]
        first
        | (exfalso;omega)
        | (simp -implicitDefEqProofs (disch:=omega) only[Wz,seval,hwb,hcast]
           exact expo_tup (expoL_cons (expo_pure (.lit _)) (expoL_cons (expo_pure (.lit _)) expoL_nil)))
    · rw[if_neg (by simp only[decide_eq_false h1,decide_eq_false h2,decide_eq_false h3];simp)]
      first
      | (exfalso;omega)
      | (simp -implicitDefEqProofs (disch:=omega) only[Wz,seval,hwb,hcast]
         exact expo_tup (expoL_cons (expo_pure (.lit _)) (expoL_cons (expo_pure (.lit _)) expoL_nil)))
theorem at4_spec(L:List (Nat × List Value))(l:List UInt8)(f:Bool)(i:Nat)(hl:l.length≤1000000000)(hi:i<l.length)(h0:240≤bt (ofB l) i)(h9:bt (ofB l) i<248) :
    PCall Tryd.prog 16 [inV L l f,.lit (.int .i64 (i:Int))] (.tup [.lit (.int .i32 ((rU (ofB l) i 4 (bt (ofB l) i % 8) 65536).1:Int)),.lit (.int .i64 ((rU (ofB l) i 4 (bt (ofB l) i % 8) 65536).2:Int))]):=by
  refine PCall_of_SCall (SCall_introK Tryd.func16 rfl Tryd.ntmps16 (rs:=[.tmp 4,.tmp 5]) rfl (by simp) ?_)
  have hq:=byQ l i
  have hpx:=pure_inV L l f
  have hnx:=fun k hk=>nx_spec L l f k hl hk
  have hrU:rU (ofB l) i 4 (bt (ofB l) i % 8) 65536=if allU (ofB l) i (4 - 1) then (if badU 4 (bt (ofB l) i) (accU (ofB l) i (bt (ofB l) i % 8) (4 - 1)) 65536 then (1114112+bt (ofB l) i,1) else (accU (ofB l) i (bt (ofB l) i % 8) (4 - 1),4)) else (1114112+bt (ofB l) i,1):=rfl
  unfold inV at hpx hnx ⊢
  generalize hs:ofB l=s at hq hnx hrU h0 h9 ⊢
  generalize hb:bt s i=b at hq hrU h0 h9 ⊢
  have ha:=and7 (b:=b) (by omega)
  have hw:IntKind.i32.wrap (b:Int)=(b:Int):=IntWalk.i32_in _ ⟨by omega,by omega⟩
  have hwb:IntKind.i32.wrap ((1114112+b:Nat):Int)=((1114112+b:Nat):Int):=IntWalk.i32_in _ ⟨by omega,by omega⟩
  have hcast:(1114112+(b:Int))=((1114112+b:Nat):Int):=by omega
  refine aw_of ?_
  simp -implicitDefEqProofs (disch:=omega) only[Wz,seval,hq,hw,ha]
  have hacc:∀ k,k≤4 - 1→accU s i (b % 8) k<8 * 64 ^ k:=by
    intro k
    induction k with
    | zero=>intro _;show b % 8<_;omega
    | succ k ih=>intro hk;have:=ih (by omega);show accU s i (b % 8) k * 64+bt s (i+(k+1)) % 64<_;rw[Nat.pow_succ];omega
  have hacc2:∀ k,k≤4 - 1→accU s i (b % 8) k<4000000:=fun k hk=>by
    have:=hacc k hk
    have h2:64 ^ k≤64 ^ (4 - 1):=Nat.pow_le_pow_right (by omega) hk
    have h3:=Nat.mul_le_mul_left 8 h2
    have h4:8 * 64 ^ (4 - 1)≤4000000:=by decide
    omega
  have hacc3:∀ k,k<4 - 1→accU s i (b % 8) k<1000000:=fun k hk=>by
    have:=hacc k (by omega)
    have h2:64 ^ k≤64 ^ (4 - 2):=Nat.pow_le_pow_right (by omega) (by omega)
    have h3:=Nat.mul_le_mul_left 8 h2
    have h4:8 * 64 ^ (4 - 2)≤1000000:=by decide
    omega
  refine aw_measA (fun k:Nat=>⟨[(0,.wit L (.vec (l.map encBy) f)),(1,.lit (.int .i64 (i:Int))),(6,.lit (.int .i32 (b:Int))),(7,.lit (.int .i64 4)),(8,.lit (.int .i32 (accU s i (b % 8) k:Int))),(9,.lit (.int .i32 65536)),(10,.lit (.int .i64 ((k+1:Nat):Int)))],.none,99⟩) (fun k=>k≤4 - 1∧allU s i k=true) (fun k=>4 - k) 0 (wk_lk (by simp[lk,accU]) (fun _ _ e=>e) (fun _ _ e=>e) rfl rfl) ⟨by omega,rfl⟩ ?_
  rintro k ⟨hk,hall⟩
  refine aw_of ?_
  rcases Nat.lt_or_ge k (4 - 1) with hlt | hge
  · have hki:(i:Int)+((k+1:Nat):Int)=((i+(k+1):Nat):Int):=by omega
    have hwi:IntKind.i64.wrap ((i+(k+1):Nat):Int)=((i+(k+1):Nat):Int):=i64w (by omega) (by omega)
    simp -implicitDefEqProofs (disch:=omega) only[Wz,seval,hki,hwi]
    refine CallK_pure call23 (hnx _ (by omega)) (allc hpx (allc (.lit _) alln)) (.tup (allc (.lit _) (allc (.lit _) alln))) ?_
    have hnv:nbV s (i+(k+1))=if nbB s (i+(k+1)) then bt s (i+(k+1)) % 64 else 0:=rfl
    cases hn:nbB s (i+(k+1)) with
    | false =>
      rw[hrU,if_neg (by rw[allU_no hn hlt];decide)]
      simp -implicitDefEqProofs (disch:=omega) only[Wz,seval,hwb,hcast]
      exact expo_tup (expoL_cons (expo_pure (.lit _)) (expoL_cons (expo_pure (.lit _)) expoL_nil))
    | true =>
      rw[hn,if_pos rfl] at hnv
      have hx3:=hacc3 k hlt
      have hs6:=shl6 hx3
      have hs6b:=shl6b hx3
      have ho6:=or6 hx3 (y:=nbV s (i+(k+1))) (by rw[hnv];omega)
      have hk1:IntKind.i64.wrap (((k+1:Nat):Int)+1)=((k+1+1:Nat):Int):=i64w (by omega) (by omega)
      simp -implicitDefEqProofs (disch:=omega) only[Wz,seval,hs6,hs6b,ho6,hk1]
      refine⟨k+1,⟨by omega,?_⟩,by omega,?_⟩
      · simp only[allU,hall,hn,Bool.and_self]
      · refine wk_lk ?_ (fun _ _ e=>e) (fun _ _ e=>e) rfl rfl
        have e:accU s i (b % 8) k * 64+nbV s (i+(k+1))=accU s i (b % 8) (k+1):=by rw[hnv];rfl
        rw[e]
        simp[lk]
  · have hke:k=4 - 1:=by omega
    subst hke
    rw[hrU,if_pos hall]
    have hx:=hacc2 _ (Nat.le_refl _)
    generalize accU s i (b % 8) (4 - 1)=x at hx ⊢
    unfold badU
    by_cases h1:x<65536
    · rw[if_pos (by simp only[decide_eq_true h1,Bool.true_or,Bool.or_true])]
      simp -implicitDefEqProofs (disch:=omega) only[Wz,seval,hwb,hcast]
      exact expo_tup (expoL_cons (expo_pure (.lit _)) (expoL_cons (expo_pure (.lit _)) expoL_nil))
    by_cases h2:1114111<x
    · rw[if_pos (by simp only[decide_eq_true h2,Bool.true_or,Bool.or_true])]
      simp -implicitDefEqProofs (disch:=omega) only[Wz,seval,hwb,hcast]
      exact expo_tup (expoL_cons (expo_pure (.lit _)) (expoL_cons (expo_pure (.lit _)) expoL_nil))
    by_cases h3:55296≤x
    · by_cases h4:x≤57343
      · rw[if_pos (by simp only[decide_eq_true h3,decide_eq_true h4,Bool.and_self,Bool.or_true])]
        first
        | (exfalso;omega)
        | (simp -implicitDefEqProofs (disch:=omega) only[Wz,seval,hwb,hcast]
           exact expo_tup (expoL_cons (expo_pure (.lit _)) (expoL_cons (expo_pure (.lit _)) expoL_nil)))
      · rw[if_neg (by simp only[decide_eq_false h1,decide_eq_false h2,decide_eq_false h4];simp)]
        first
        | (exfalso;omega)
        | (simp -implicitDefEqProofs (disch:=omega) only[Wz,seval,hwb,hcast]
           exact expo_tup (expoL_cons (expo_pure (.lit _)) (expoL_cons (expo_pure (.lit _)) expoL_nil)))
    · rw[if_neg (by simp only[decide_eq_false h1,decide_eq_false h2,decide_eq_false h3];simp)]
      first
      | (exfalso;omega)
      | (simp -implicitDefEqProofs (disch:=omega) only[Wz,seval,hwb,hcast]
         exact expo_tup (expoL_cons (expo_pure (.lit _)) (expoL_cons (expo_pure (.lit _)) expoL_nil)))
end Go.Proofs.YtgbbhilflgekhaaDoor
end
section
namespace Go.Proofs.YtgbbhilflgekhaaDoor
open Go Go.Ab
set_option maxRecDepth 20000
set_option maxHeartbeats 1000000
theorem at1_spec(L:List (Nat × List Value))(l:List UInt8)(f:Bool)(i:Nat)(hl:l.length≤1000000000)(hi:i<l.length)(h0:bt (ofB l) i<192∨248≤bt (ofB l) i) :
  PCall Tryd.prog 16 [inV L l f,.lit (.int .i64 (i:Int))] (.tup [.lit (.int .i32 (((if 128≤bt (ofB l) i then 1114112+bt (ofB l) i else bt (ofB l) i):Nat):Int)),.lit (.int .i64 1)]):=by
 refine PCall_of_SCall (SCall_introK Tryd.func16 rfl Tryd.ntmps16 (rs:=[.tmp 4,.tmp 5]) rfl (by simp) ?_)
 have hq:=byQ l i
 have hb9:=bt_lt (ofB l) i
 generalize ofB l=s at hq h0 hb9 ⊢
 generalize hb:bt s i=b at hq h0 hb9 ⊢
 have hw:IntKind.i32.wrap (b:Int)=(b:Int):=IntWalk.i32_in _ ⟨by omega,by omega⟩
 have hwb:IntKind.i32.wrap ((1114112+b:Nat):Int)=((1114112+b:Nat):Int):=IntWalk.i32_in _ ⟨by omega,by omega⟩
 have hcast:(1114112+(b:Int))=((1114112+b:Nat):Int):=by omega
 obtain⟨v,hv⟩:∃ v:Nat,(if 128≤b then 1114112+b else b)=v:=⟨_,rfl⟩
 rw[hv]
 refine aw_of ?_
 unfold inV
 rcases h0 with h0 | h0
 ·simp -implicitDefEqProofs (disch:=omega) only[Wz,seval,hq,hw]
  refine aw_measA (A:=Unit) (fun _=>⟨[(6,.lit (.int .i32 (b:Int))),(7,.lit (.int .i64 1)),(8,.lit (.int .i32 (b:Int))),(9,.lit (.int .i32 0)),(10,.lit (.int .i64 1))],.none,99⟩) (fun _=>True) (fun _=>0) () (wk_lk (by simp[lk]) (fun _ _ e=>e) (fun _ _ e=>e) rfl rfl) trivial ?_
  rintro _ _
  refine aw_of ?_
  by_cases h1:128≤b
  ·rw[if_pos h1] at hv
   subst hv
   simp -implicitDefEqProofs (disch:=omega) only[Wz,seval,hwb,hcast]
   exact expo_tup (expoL_cons (expo_pure (.lit _)) (expoL_cons (expo_pure (.lit _)) expoL_nil))
  ·rw[if_neg h1] at hv
   subst hv
   simp -implicitDefEqProofs (disch:=omega) only[Wz,seval,hwb,hcast]
   exact expo_tup (expoL_cons (expo_pure (.lit _)) (expoL_cons (expo_pure (.lit _)) expoL_nil))
 ·simp -implicitDefEqProofs (disch:=omega) only[Wz,seval,hq,hw]
  refine aw_measA (A:=Unit) (fun _=>⟨[(6,.lit (.int .i32 (b:Int))),(7,.lit (.int .i64 1)),(8,.lit (.int .i32 (b:Int))),(9,.lit (.int .i32 0)),(10,.lit (.int .i64 1))],.none,99⟩) (fun _=>True) (fun _=>0) () (wk_lk (by simp[lk]) (fun _ _ e=>e) (fun _ _ e=>e) rfl rfl) trivial ?_
  rintro _ _
  refine aw_of ?_
  rw[if_pos (by omega)] at hv
  subst hv
  simp -implicitDefEqProofs (disch:=omega) only[Wz,seval,hwb,hcast]
  exact expo_tup (expoL_cons (expo_pure (.lit _)) (expoL_cons (expo_pure (.lit _)) expoL_nil))
theorem rU2{s:ByteArray}{i:Nat}(hi:i<s.size)(h0:192≤bt s i)(h9:bt s i<224):rU s i 2 (bt s i % 32) 128=uV s i:=by
 have h1:=bt_lt s (i+1)
 unfold rU uV dcV Lib.decodeN badU
 simp only[allU,accU,nbB,Bool.true_and]
 generalize bt s i=b at h0 h9 ⊢
 generalize bt s (i+1)=b1 at h1 ⊢
 generalize bt s (i+2)=b2
 generalize bt s (i+3)=b3
 simp only[Bool.and_eq_true,Bool.or_eq_true,decide_eq_true_eq]
 repeat' split
 all_goals first | (exfalso;omega) | (simp only[Prod.mk.injEq,and_true,true_and];done) | (apply Prod.ext <;> simp only <;> omega)
theorem rU3{s:ByteArray}{i:Nat}(hi:i<s.size)(h0:224≤bt s i)(h9:bt s i<240):rU s i 3 (bt s i % 16) 2048=uV s i:=by
 have h1:=bt_lt s (i+1)
 have h2:=bt_lt s (i+2)
 unfold rU uV dcV Lib.decodeN badU
 simp only[allU,accU,nbB,Bool.true_and]
 generalize bt s i=b at h0 h9 ⊢
 generalize bt s (i+1)=b1 at h1 ⊢
 generalize bt s (i+2)=b2 at h2 ⊢
 generalize bt s (i+3)=b3
 simp only[Bool.and_eq_true,Bool.or_eq_true,decide_eq_true_eq]
 repeat' split
 all_goals first | (exfalso;omega) | (simp only[Prod.mk.injEq,and_true,true_and];done) | (apply Prod.ext <;> simp only <;> omega)
theorem rU4{s:ByteArray}{i:Nat}(hi:i<s.size)(h0:240≤bt s i)(h9:bt s i<248):rU s i 4 (bt s i % 8) 65536=uV s i:=by
 have h1:=bt_lt s (i+1)
 have h2:=bt_lt s (i+2)
 have h3:=bt_lt s (i+3)
 unfold rU uV dcV Lib.decodeN badU
 simp only[allU,accU,nbB,Bool.true_and]
 generalize bt s i=b at h0 h9 ⊢
 generalize bt s (i+1)=b1 at h1 ⊢
 generalize bt s (i+2)=b2 at h2 ⊢
 generalize bt s (i+3)=b3 at h3 ⊢
 simp only[Bool.and_eq_true,Bool.or_eq_true,decide_eq_true_eq]
 repeat' split
 all_goals first | (exfalso;omega) | (simp only[Prod.mk.injEq,and_true,true_and];done) | (apply Prod.ext <;> simp only <;> omega)
theorem rU1{s:ByteArray}{i:Nat}(h0:bt s i<192∨248≤bt s i):uV s i=(if 128≤bt s i then 1114112+bt s i else bt s i,1):=by
 have hb:=bt_lt s i
 unfold uV dcV Lib.decodeN
 generalize bt s i=b at h0 hb ⊢
 generalize bt s (i+1)=b1
 generalize bt s (i+2)=b2
 generalize bt s (i+3)=b3
 repeat' split
 all_goals first | (exfalso;omega) | (apply Prod.ext <;> simp only <;> omega)
theorem refAt_spec(L:List (Nat × List Value))(l:List UInt8)(f:Bool)(i:Nat)(hl:l.length≤1000000000)(hi:i<l.length) :
  PCall Tryd.prog 16 [inV L l f,.lit (.int .i64 (i:Int))] (.tup [.lit (.int .i32 ((uV (ofB l) i).1:Int)),.lit (.int .i64 ((uV (ofB l) i).2:Int))]):=by
 have hs:i<(ofB l).size:=by rw[ofB_size];exact hi
 by_cases h1:bt (ofB l) i<192∨248≤bt (ofB l) i
 ·rw[rU1 h1]
  exact at1_spec L l f i hl hi h1
 by_cases h2:bt (ofB l) i<224
 ·rw[← rU2 hs (by omega) h2]
  exact at2_spec L l f i hl hi (by omega) h2
 by_cases h3:bt (ofB l) i<240
 ·rw[← rU3 hs (by omega) h3]
  exact at3_spec L l f i hl hi (by omega) h3
 ·rw[← rU4 hs (by omega) (by omega)]
  exact at4_spec L l f i hl hi (by omega) (by omega)
end Go.Proofs.YtgbbhilflgekhaaDoor
end
section
namespace Go.Proofs.YtgbbhilflgekhaaDoor
open Go Go.Ab
set_option maxRecDepth 20000
set_option maxHeartbeats 1000000
def rowP (u:Un):List AV:=[.lit (.int .i64 (u.pos:Int))]
def rowX (u:Un):List AV:=[.lit (.int .i32 u.x)]
def rowC (u:Un):List AV:=[.lit (.int .i64 (u.col:Int))]
theorem pure_rowP(u:Un):∀ c∈rowP u,Ab.Pure c:=pure_lits (by simp[rowP])
theorem pure_rowX(u:Un):∀ c∈rowX u,Ab.Pure c:=pure_lits (by simp[rowX])
theorem pure_rowC(u:Un):∀ c∈rowC u,Ab.Pure c:=pure_lits (by simp[rowC])
def hdV (L:List (Nat × List Value))(l:List UInt8)(f:Bool)(X:List Un):List AV:=[inV L l f,.vec (X.map rowP) false,.vec (X.map rowX) false,.vec (X.map rowC) false]
theorem pure_hdV(L:List (Nat × List Value))(l:List UInt8)(f:Bool)(X:List Un):∀ c∈hdV L l f X,Ab.Pure c :=
 allc (pure_inV _ _ _) (allc (.vec (pure_rows pure_rowP _)) (allc (.vec (pure_rows pure_rowX _)) (allc (.vec (pure_rows pure_rowC _)) alln)))
def hdQ (W:AV)(q:Bool)(n:Nat):List AV:=if q then [W,.own 2 n,.own 3 n,.own 4 n] else [W,.vec [] true,.vec [] true,.vec [] true]
def hdT (q:Bool)(X:List Un):List (Nat × Tk):=if q then [(2,⟨X.map rowP,0,1⟩),(3,⟨X.map rowX,0,1⟩),(4,⟨X.map rowC,0,1⟩)] else []
theorem refCut_spec(L:List (Nat × List Value))(l:List UInt8)(f:Bool)(hl:l.length≤1000):PCall Tryd.prog 8 [inV L l f] (.agg (hdV L l f (cutV (ofB l)))):=by
 refine PCall_of_SCall (SCall_introK Tryd.func8 rfl Tryd.ntmps8 (rs:=[.cell 2 34]) rfl (by simp) ?_)
 have hsz:=ofB_size l
 have hatA:=fun p hp=>refAt_spec L l f p (by omega) hp
 have hpure:=pure_inV L l f
 unfold hdV
 unfold inV at hatA hpure ⊢
 obtain⟨s,hs⟩:∃ s,ofB l=s:=⟨_,rfl⟩
 rw[hs] at hsz hatA ⊢
 obtain⟨W,hW⟩:∃ W:AV,.wit L (.vec (l.map encBy) f)=W:=⟨_,rfl⟩
 have hu:unw W = .vec (l.map encBy) f:=by rw[← hW];rfl
 have hWc:W.cells=some [W]:=by rw[← hW];rfl
 obtain⟨SS,hSS⟩:∃ SS:Nat × Nat × Bool × List Un→St,∀ p c q X,SS (p,c,q,X)=⟨[(0,.wit L (.vec (l.map encBy) f)),(2,.ptr 0 0),(3,.ptr 1 0),(4,.lit (.int .i64 (c:Int))),(5,.lit (.int .i64 (p:Int)))],⟨[(0,[.vec [] true,.vec [] true,.vec [] true,.vec [] true]),(1,hdQ (.wit L (.vec (l.map encBy) f)) q X.length)],hdT q X,if q then 5 else 2⟩,64⟩:=⟨fun z=>⟨[(0,.wit L (.vec (l.map encBy) f)),(2,.ptr 0 0),(3,.ptr 1 0),(4,.lit (.int .i64 (z.2.1:Int))),(5,.lit (.int .i64 (z.1:Int)))],⟨[(0,[.vec [] true,.vec [] true,.vec [] true,.vec [] true]),(1,hdQ (.wit L (.vec (l.map encBy) f)) z.2.2.1 z.2.2.2.length)],hdT z.2.2.1 z.2.2.2,if z.2.2.1 then 5 else 2⟩,64⟩,fun _ _ _ _=>rfl⟩
 obtain⟨Iv,hIv⟩:∃ Iv:Nat × Nat × Bool × List Un→Prop,∀ p c q X,Iv (p,c,q,X)↔(p≤l.length∧c≤p∧X.length≤p∧(q=false→X=[])∧∃ k,s.size - p≤k∧X++cutF k s p c=cutV s):=⟨fun z=>z.1≤l.length∧z.2.1≤z.1∧z.2.2.2.length≤z.1∧(z.2.2.1=false→z.2.2.2=[])∧∃ k,s.size - z.1≤k∧z.2.2.2++cutF k s z.1 z.2.1=cutV s,fun _ _ _ _=>Iff.rfl⟩
 have one1:∀ v:AV,(∀ q,q∈[[v]]→q.length=1)=True:=fun v=>by simp
 have nil1:(∀ q:List AV,q∈[]→q.length=1)=True:=by simp
 refine aw_of ?_
 simp -implicitDefEqProofs (disch:=omega) only[Wz,seval]
 refine aw_measA SS Iv (fun z=>l.length - z.1) (0,0,false,[]) (by rw[hSS];exact wk_lk (by simp[lk]) (fun _ _ e=>e) (fun _ _ e=>e) rfl rfl) ((hIv _ _ _ _).2 ⟨Nat.zero_le _,Nat.le_refl _,Nat.le_refl _,fun _=>rfl,s.size,by omega,rfl⟩) ?_
 rintro⟨p,c,q,X⟩ hIx
 obtain⟨hp,hc,hX,hq,k,hk,hcut⟩:=(hIv _ _ _ _).1 hIx
 rw[hSS]
 refine aw_of ?_
 have hf0:fits 1 8=True:=eq_true (fits_of' (by decide) (by decide))
 have hf1:fits (X.length+1) 8=True:=eq_true (fits_of' (by omega) (by omega))
 have hf2:fits 1 4=True:=eq_true (fits_of' (by decide) (by decide))
 have hf3:fits (X.length+1) 4=True:=eq_true (fits_of' (by omega) (by omega))
 rcases Nat.lt_or_ge p l.length with hlt | hge
 ·have hat:=hatA p hlt
  have hu:=uV_ok (s:=s) (i:=p) (by rw[hsz];exact hlt)
  obtain⟨k,rfl⟩:∃ k',k=k'+1:=⟨k - 1,by omega⟩
  rw[cutF,if_pos (by omega)] at hcut
  obtain⟨x,m,hxm⟩:∃ x m,uV s p=(x,m):=⟨_,_,rfl⟩
  rw[hxm] at hat hu hcut
  simp only at hat hu hcut
  simp -implicitDefEqProofs (disch:=omega) only[Wz,seval]
  refine CallK_pure call16 hat (allc hpure (allc (.lit _) alln)) (.tup (allc (.lit _) (allc (.lit _) alln))) ?_
  have fin:∀ c':Nat,c'≤p+1→(c'=if x=10 then 0 else c+1)→∀ (sl:List (Nat × AV)) (H:Hp),lk sl 0=some (.wit L (.vec (l.map encBy) f))→lk sl 2=some (.ptr 0 0)→lk sl 3=some (.ptr 1 0)→lk sl 4=some (.lit (.int .i64 (c':Int)))→lk sl 5=some (.lit (.int .i64 ((p+m:Nat):Int))) →
    H=⟨[(0,[.vec [] true,.vec [] true,.vec [] true,.vec [] true]),(1,[.wit L (.vec (l.map encBy) f),.own 2 (X.length+1),.own 3 (X.length+1),.own 4 (X.length+1)])],[(2,⟨X.map rowP++[rowP ⟨x,p,c⟩],0,1⟩),(3,⟨X.map rowX++[rowX ⟨x,p,c⟩],0,1⟩),(4,⟨X.map rowC++[rowC ⟨x,p,c⟩],0,1⟩)],5⟩ →
    ∃ x':Nat × Nat × Bool × List Un,Iv x'∧l.length - x'.1<l.length - p∧St.wk ⟨sl,H,64⟩ (SS x'):=fun c' h1 h2 sl H e0 e2 e3 e4 e5 hT=>by
   refine⟨(p+m,c',true,X++[⟨x,p,c⟩]),(hIv _ _ _ _).2 ⟨by omega,by omega,by simp;omega,fun q=>(by cases q),k,by omega,?_⟩,by show l.length - (p+m)<_;omega,?_⟩
   ·rw[h2,List.append_assoc];exact hcut
   ·subst hT
    rw[hSS]
    exact wk_lk (allc e0 (allc e2 (allc e3 (allc e4 (allc e5 alln))))) (fun _ _ e=>by simpa [hdQ] using e) (fun _ _ e=>by simpa [hdT] using e) rfl rfl
  have hwc:IntKind.i64.wrap ((c:Int)+1)=((c+1:Nat):Int):=i64w (by omega) (by omega)
  have hwp:IntKind.i64.wrap ((p:Int)+(m:Int))=((p+m:Nat):Int):=by rw[← Int.natCast_add];exact i64w (by omega) (by omega)
  have go:∀ c':Nat,∀ bx:Bool,((x:Int)==10)=bx→(c'=if bx then 0 else c+1)→c'≤p+1∧(c'=if x=10 then 0 else c+1):=fun c' bx h1 h2=>by
   subst h1
   by_cases hx:x=10
   ·rw[if_pos (by rw[beqT (by omega)])] at h2
    exact⟨by omega,by rw[if_pos hx];exact h2⟩
   ·rw[if_neg (by rw[beqF (by omega)];decide)] at h2
    exact⟨by omega,by rw[if_neg hx];exact h2⟩
  cases hxb:((x:Int)==10) with
  | false =>
   obtain⟨g1,g2⟩:=go (c+1) false hxb rfl
   have fin:=fin (c+1) g1 g2
   clear go g2
   cases q with
   | false =>
    have:=hq rfl
    subst this
    simp -implicitDefEqProofs (disch:=omega) only[Wz,seval,hdQ,hdT,one1,nil1,hf0,hf2,true_and,if_true,if_false,Bool.false_eq_true,hwc,hwp,hxb]
    exact fin _ _ rfl rfl rfl rfl rfl rfl
   | true =>
    simp -implicitDefEqProofs (disch:=omega) only[Wz,seval,hdQ,hdT,one1,hf1,hf3,true_and,if_true,hwc,hwp,hxb]
    exact fin _ _ rfl rfl rfl rfl rfl rfl
  | true =>
   obtain⟨g1,g2⟩:=go 0 true hxb rfl
   have fin:=fin 0 g1 g2
   clear go g2
   cases q with
   | false =>
    have:=hq rfl
    subst this
    simp -implicitDefEqProofs (disch:=omega) only[Wz,seval,hdQ,hdT,one1,nil1,hf0,hf2,true_and,if_true,if_false,Bool.false_eq_true,hwc,hwp,hxb]
    exact fin _ _ rfl rfl rfl rfl rfl rfl
   | true =>
    simp -implicitDefEqProofs (disch:=omega) only[Wz,seval,hdQ,hdT,one1,hf1,hf3,true_and,if_true,hwc,hwp,hxb]
    exact fin _ _ rfl rfl rfl rfl rfl rfl
 ·have hcl:cutV s=X++[⟨-1,s.size,c⟩]:=by
   rw[← hcut]
   cases k with
   | zero=>rfl
   | succ k=>rw[cutF,if_neg (by omega)]
  rw[hcl,hsz]
  have end3:∀ (h:Hp),lk h.toks 2=some ⟨(X++[(⟨-1,l.length,c⟩:Un)]).map rowP,0,1⟩→lk h.toks 3=some ⟨(X++[(⟨-1,l.length,c⟩:Un)]).map rowX,0,1⟩→lk h.toks 4=some ⟨(X++[(⟨-1,l.length,c⟩:Un)]).map rowC,0,1⟩ →
    Expo h (.agg [.wit L (.vec (l.map encBy) f),.own 2 (X.length+1),.own 3 (X.length+1),.own 4 (X.length+1)]) (.agg [.wit L (.vec (l.map encBy) f),.vec ((X++[(⟨-1,l.length,c⟩:Un)]).map rowP) false,.vec ((X++[(⟨-1,l.length,c⟩:Un)]).map rowX) false,.vec ((X++[(⟨-1,l.length,c⟩:Un)]).map rowC) false]):=fun h q1 q2 q3 =>
   expo_agg (expoL_cons (expo_pure hpure) (expoL_cons (expo_own q1 (by simp) (pure_rows pure_rowP _)) (expoL_cons (expo_own q2 (by simp) (pure_rows pure_rowX _)) (expoL_cons (expo_own q3 (by simp) (pure_rows pure_rowC _)) expoL_nil))))
  cases q with
  | false =>
   have:=hq rfl
   subst this
   simp -implicitDefEqProofs (disch:=omega) only[Wz,seval,hdQ,hdT,one1,nil1,hf0,hf2,true_and,if_true,if_false,Bool.false_eq_true]
   exact end3 _ rfl rfl rfl
  | true =>
   simp -implicitDefEqProofs (disch:=omega) only[Wz,seval,hdQ,hdT,one1,hf1,hf3,true_and,if_true]
   refine end3 _ ?_ ?_ ?_ <;> (rw[List.map_append];rfl)
def ixF (l:List Un)(p:Int)(i:Nat):Int:=match l with | [] => -1 | u :: l=>if (u.pos:Int)=p then (i:Int) else ixF l p (i+1)
theorem ixF_any:∀ (l:List Un) (p:Int) (i:Nat),(decide (0≤ixF l p i))=l.any fun u=>decide ((u.pos:Int)=p)
 | [],p,i=>by simp[ixF]
 | u :: l,p,i=>by
  unfold ixF
  by_cases h:(u.pos:Int)=p
  ·rw[if_pos h,List.any_cons,decide_eq_true h,decide_eq_true (by omega)];rfl
  ·rw[if_neg h,List.any_cons,decide_eq_false h,ixF_any l p (i+1)];rfl
theorem index_spec(L:List (Nat × List Value))(l:List UInt8)(f:Bool)(X:List Un)(p:Int)(hX:X.length≤1000000):PCall Tryd.prog 9 [.agg (hdV L l f X),.lit (.int .i64 p)] (.lit (.int .i64 (ixF X p 0))):=by
 refine PCall_of_SCall (SCall_introK Tryd.func9 rfl Tryd.ntmps9 (rs:=[.tmp 4]) rfl (by simp) ?_)
 obtain⟨v,hv⟩:∃ v,ixF X p 0=v:=⟨_,rfl⟩
 rw[hv]
 refine aw_of ?_
 simp -implicitDefEqProofs (disch:=omega) only[Wz,seval,hdV,inV]
 refine aw_measA (fun i:Nat=>⟨[(2,.ptr 0 0),(1,.lit (.int .i64 p)),(5,.lit (.int .i64 (i:Int)))],⟨[(0,hdV L l f X)],[],1⟩,21⟩) (fun i=>i≤X.length∧ixF (X.drop i) p i=v) (fun i=>X.length - i) 0 (wk_lk (by simp[lk]) (fun _ _ e=>e) (fun _ _ e=>e) rfl rfl) ⟨Nat.zero_le _,by rw[List.drop_zero];exact hv⟩ ?_
 rintro i ⟨hi,hiv⟩
 refine aw_of ?_
 rcases Nat.lt_or_ge i X.length with hlt | hge
 ·obtain⟨u,hu⟩:∃ u,X.getD i default=u:=⟨_,rfl⟩
  rw[drop_getD hlt,hu] at hiv
  unfold ixF at hiv
  by_cases hp:(u.pos:Int)=p
  ·rw[if_pos hp] at hiv
   subst hiv
   have hb:((u.pos:Int)==p)=true:=beqT hp
   simp -implicitDefEqProofs (disch:=omega) only[Wz,seval,hdV,hu,rowP,hb]
   exact expo_pure (.lit _)
  ·rw[if_neg hp] at hiv
   have hb:((u.pos:Int)==p)=false:=beqF hp
   simp -implicitDefEqProofs (disch:=omega) only[Wz,seval,hdV,hu,rowP,hb]
   exact⟨i+1,⟨by omega,hiv⟩,by omega,wk_lk (by simp[lk]) (fun _ _ e=>e) (fun _ _ e=>e) rfl rfl⟩
 ·have hie:i=X.length:=by omega
  subst hie
  rw[List.drop_length] at hiv
  have:v = -1:=hiv.symm
  subst this
  simp -implicitDefEqProofs (disch:=omega) only[Wz,seval,hdV]
  exact expo_pure (.lit _)
end Go.Proofs.YtgbbhilflgekhaaDoor
end
section
namespace Go.Proofs.YtgbbhilflgekhaaDoor
open Go Go.Ab
set_option maxRecDepth 20000
set_option maxHeartbeats 4000000
theorem rise_lt{l:List Un}(hr:(l.map (·.pos)).Pairwise (· < ·)){a b:Nat}(hab:a<b)(hb:b<l.length):(l.getD a default).pos<(l.getD b default).pos:=by
 have:=List.pairwise_iff_getElem.1 hr a b (by simp;omega) (by simpa using hb) hab
 rw[List.getElem_map,List.getElem_map] at this
 rw[List.getD_eq_getElem?_getD,List.getD_eq_getElem?_getD,List.getElem?_eq_getElem (by omega),List.getElem?_eq_getElem hb]
 exact this
theorem okV_lex{n:Nt}(h:okV n=true){i:Nat}(hi:i<n.rules.length)(h1:(n.rules.getD i default).lexer=true)(h2:(n.rules.getD i default).frag=false):¬ Nul n (stN n i) (spN n i):=by
 unfold okV at h
 simp only[Bool.and_eq_true] at h
 have h3:=List.all_eq_true.1 h.2.2.2.2.1 i (List.mem_range.2 hi)
 unfold lexR at h3
 rw[h1,h2] at h3
 intro q
 rw[empB_true.2 q] at h3
 cases h3
theorem mineV_is{n:Nt}{md:Int}{i:Nat}(h:mineV n md i=true):(n.rules.getD i default).lexer=true∧(n.rules.getD i default).frag=false∧(n.rules.getD i default).mode=md:=by
 unfold mineV at h
 simp only[Bool.and_eq_true,Bool.not_eq_true',decide_eq_true_eq] at h
 exact⟨h.1,h.2.1,h.2.2⟩
theorem end_far{n:Nt}{o:List Orc}{l:List Un}{md:Int}{k r a:Nat}(hok:okV n=true)(u:UnOk l)(hr:r<n.rules.length)(ha:a<l.length)(hm:mineV n md r=true):∀ y∈eF n o l md k r a,a<y.pos∧y.pos<l.length:=fun y hy=>by
 have w:=(okV_wf hok).1
 obtain⟨h1,h2,h3⟩:=e_out w u hr ha y hy
 obtain⟨m1,m2,_⟩:=mineV_is hm
 have a1:=w.start hr
 have a2:=w.stop hr
 have a3:=(w.ru _ hr).2.2.1
 rcases Nat.eq_or_lt_of_le h1 with q | q
 ·exfalso
  rcases h3 q.symm with h3 | h3
  ·unfold stN spN at h3;omega
  ·exact okV_lex hok hr m1 m2 h3
 ·exact⟨q,h2⟩
theorem fix_one(n:Nt)(o:List Orc)(x:List UInt8)(at' md:Int)(g:InOk n o x at' md):∃ k,okV n=true→FixK n o (cutV (ofB x)) md k:=by
 cases hok:okV n with
 | false=>exact⟨0,fun h=>by cases h⟩
 | true =>
  obtain⟨k,hk⟩:=fix_ok g hok
  exact⟨k,fun _=>hk⟩
structure LC (n:Nt) (at' md:Int) (r k e:Int) (no:Bool) (z:Nat) (H:Hp):Prop where
 b0:lk H.boxes 0=some (encN n)
 b1:lk H.boxes 1=some [.lit (.int .i64 at')]
 b2:lk H.boxes 2=some [.lit (.int .i64 md)]
 b3:lk H.boxes 3=some [.lit (.bool false)]
 b4:lk H.boxes 4=some [.lit (.int .i64 r)]
 b5:lk H.boxes 5=some [.lit (.int .i64 k)]
 b6:lk H.boxes 6=some [.lit (.int .i64 e)]
 b7:lk H.boxes 7=some [.lit (.bool no)]
 t:lk H.toks 15=some (lpTk z)
 nx:16≤H.nx
def LK (j:Nat):Prop:=8≤j∧j≠15
theorem LC.kp{n:Nt}{at' md r k e:Int}{no:Bool}{z:Nat}{H H':Hp}(h:LC n at' md r k e no z H)(kp:Kp (fun j=>¬ LK j) H H'):LC n at' md r k e no z H':=by
 have q:∀ j,j<8→¬ LK j:=fun j hj h=>by have:=h.1;omega
 have hn:=h.nx
 exact⟨(kp.bx _ (q _ (by omega)) (by omega)).trans h.b0,(kp.bx _ (q _ (by omega)) (by omega)).trans h.b1,(kp.bx _ (q _ (by omega)) (by omega)).trans h.b2,(kp.bx _ (q _ (by omega)) (by omega)).trans h.b3,
  (kp.bx _ (q _ (by omega)) (by omega)).trans h.b4,(kp.bx _ (q _ (by omega)) (by omega)).trans h.b5,(kp.bx _ (q _ (by omega)) (by omega)).trans h.b6,(kp.bx _ (q _ (by omega)) (by omega)).trans h.b7,
  (kp.tk _ (fun h=>h.2 rfl) (by omega)).trans h.t,Nat.le_trans hn kp.nx⟩
theorem nextT_far{n:Nt}{o:List Orc}{l:List Un}{md:Int}{k a:Nat}{at' r kk e:Int}{ac:List (Int × Int)}(hok:okV n=true)(u:UnOk l)(hr:(l.map (·.pos)).Pairwise (· < ·))(hal:a<l.length)(hia:((l.getD a default).pos:Int)=at')(ht:nextT n o l md k a at'=(r,kk,ac,e)) :
  (propsV n o l md k a n.rules.length=[]∧r=0∧kk=0∧e=4)∨∃ b,pickV (propsV n o l md k a n.rules.length)=some b∧propsV n o l md k a n.rules.length≠[]∧r=(b.1:Int)∧at'+kk=((l.getD b.2.pos default).pos:Int)∧e=0∧b.1<n.rules.length∧mineV n md b.1=true∧b.2.pos<l.length∧0<kk ∧
   ∀ i y,(i,y)∈propsV n o l md k a n.rules.length→y.pos<l.length∧(l.getD y.pos default).pos≤(l.getD b.2.pos default).pos∧((l.getD y.pos default).pos=(l.getD b.2.pos default).pos→b.1≤i):=by
 unfold nextT at ht
 cases hp:pickV (propsV n o l md k a n.rules.length) with
 | none =>
  rw[hp] at ht
  simp only[Prod.mk.injEq] at ht
  obtain⟨rfl,rfl,_,rfl⟩:=ht
  exact .inl ⟨pickV_none.1 hp,rfl,rfl,rfl⟩
 | some b =>
  rw[hp] at ht
  simp only[Prod.mk.injEq] at ht
  obtain⟨rfl,rfl,_,rfl⟩:=ht
  obtain⟨h1,h2⟩:=pickV_far hp (propsV_rise n o l md k a _)
  obtain⟨m1,m2,m3⟩:=propsV_mem h1
  have m4:=end_far hok u m1 hal m2 _ m3
  have m5:=rise_lt hr m4.1 m4.2
  refine .inr ⟨b,rfl,fun q=>(by rw[q] at h1;cases h1),rfl,by omega,rfl,m1,m2,m4.2,by omega,fun i y hy=>?_⟩
  obtain⟨q1,q2⟩:=h2 _ hy
  simp only at q1 q2
  obtain⟨n1,n2,n3⟩:=propsV_mem hy
  have n4:=end_far hok u n1 hal n2 _ n3
  simp only at n4
  rcases Nat.eq_or_lt_of_le q1 with q | q
  ·exact⟨n4.2,by rw[q];exact Nat.le_refl _,fun _=>q2 q⟩
  ·have:=rise_lt hr q m4.2
   exact⟨n4.2,by omega,fun h=>by omega⟩
theorem longest_law(L:List (Nat × List Value))(n:Nt)(o:List Orc)(x:List UInt8)(hL:TabFor L x)(at' md:Int)(ok:NtOk n)(hx:x.length≤1000000000)(ho:o.length≤1000000000)(ha:∀ s,∀ e∈(n.states.getD s default).edges,e.acts.length≤actA)
  (hat : -9223372036854775808≤at'∧at'≤9223372036854775807) (hmd : -9223372036854775808≤md∧md≤9223372036854775807) :
  PCall Tryd.prog 4 [.agg (encN n),inV L x false,.vec (o.map encO) false,.lit (.int .i64 at'),.lit (.int .i64 md)] (.lit (.bool true)):=by
 refine PCall_of_SCall (SCall_introK Tryd.func4 rfl Tryd.ntmps4 (rs:=[.cell 10 4]) rfl (by simp) ?_)
 have hgr:=great16_spec L n x false false o ok hx ho
 have gN:GP (.agg (encN n)):=.of_pure (.agg (pure_encN _))
 have pN:Ab.Pure (.agg (encN n)):=.agg (pure_encN _)
 have pO:Ab.Pure (.vec (o.map encO) false):=.vec (pure_rows pure_encO _)
 have pI:=pure_inV L x false
 obtain⟨g16,hg16⟩:∃ v,gr16 n x.length o=v:=⟨_,rfl⟩
 rw[hg16] at hgr
 refine aw_seq ?_
 refine aw_of ?_
 unfold inV at hgr pI ⊢
 simp -implicitDefEqProofs (disch:=omega) only[Wz,seval,encU_length,encU_take,encEn_length,encEn_take,encTr_length,encTr_take,List.append_eq,List.cons_append,List.nil_append]
 refine aw_seq ?_
 refine aw_of ?_
 simp -implicitDefEqProofs (disch:=omega) only[Wz,seval,encU_length,encU_take,encEn_length,encEn_take,encTr_length,encTr_take,List.append_eq,List.cons_append,List.nil_append,encN_length,encN_take]
 refine CallK_k call5 hgr (allc gN (allc (.of_pure pI) (allc (.of_pure pO) alln))) (.lit _) ?_
 cases g16 with
 | true =>
  simp -implicitDefEqProofs (disch:=omega) only[Wz,seval,encU_length,encU_take,encEn_length,encEn_take,encTr_length,encTr_take,List.append_eq,List.cons_append,List.nil_append]
  refine CallK_pure call7 wakes_spec alln (.lit _) ?_
  simp -implicitDefEqProofs (disch:=omega) only[Wz,seval,encU_length,encU_take,encEn_length,encEn_take,encTr_length,encTr_take,List.append_eq,List.cons_append,List.nil_append]
  exact expo_pure (.lit _)
 | false =>
 obtain⟨mu,hx3,ho1⟩:=mu_of hg16 ha
 have g:InOk n o x at' md:=⟨ok,by omega,by omega,hat,hmd⟩
 obtain⟨k,fk⟩:=fix_one n o x at' md g
 have hnext:=next_spec_ok L n o x false hL at' md g mu k fk
 have hprops:=props_spec L n o x false hL at' md g
 have hcut:=refCut_spec L x false (by omega)
 have hrise:=cutV_rise (ofB x)
 have hlk:=lkOk g
 have hun:=cutV_ok (ofB x)
 have hgx:=fun l p h=>index_spec L x false l p h
 have pH:=pure_hdV L x false
 obtain⟨hlen,hpos⟩:=cut_range g.len
 obtain⟨l,hl⟩:∃ l,cutV (ofB x)=l:=⟨_,rfl⟩
 rw[hl] at hnext hprops hcut hrise hlk hun hlen hpos fk
 unfold hdV inV at hgx hcut pH
 unfold inV at hnext hprops
 have pA:∀ t,Ab.Pure (nextA t):=fun t=>.tup (allc (.lit _) (allc (.lit _) (allc (.vec (pure_rows pure_encAct _)) (allc (.lit _) alln))))
 simp -implicitDefEqProofs (disch:=omega) only[Wz,seval,encU_length,encU_take,encEn_length,encEn_take,encTr_length,encTr_take,List.append_eq,List.cons_append,List.nil_append]
 refine aw_seq ?_
 refine aw_of ?_
 simp -implicitDefEqProofs (disch:=omega) only[Wz,seval,encU_length,encU_take,encEn_length,encEn_take,encTr_length,encTr_take,List.append_eq,List.cons_append,List.nil_append,encN_length,encN_take]
 refine CallK_pure call10 hnext (allc pN (allc pI (allc pO (allc (.lit _) (allc (.lit _) alln))))) ?_ ?_
 ·split <;> exact pA _
 by_cases hc:okV n=true∧(0≤md∧md<(n.modes.length:Int))∧∃ u∈l,(u.pos:Int)=at'
 ·rw[if_pos hc]
  obtain⟨t,ht⟩:∃ t,nextT n o l md k (ixV l at') at'=t:=⟨_,rfl⟩
  rw[ht]
  obtain⟨r,kk,ac,e⟩:=t
  simp -implicitDefEqProofs (disch:=omega) only[Wz,seval,encU_length,encU_take,encEn_length,encEn_take,encTr_length,encTr_take,List.append_eq,List.cons_append,List.nil_append,nextA]
  refine aw_seq ?_
  refine aw_of ?_
  simp -implicitDefEqProofs (disch:=omega) only[Wz,seval,encU_length,encU_take,encEn_length,encEn_take,encTr_length,encTr_take,List.append_eq,List.cons_append,List.nil_append]
  refine aw_seq ?_
  refine aw_of ?_
  simp -implicitDefEqProofs (disch:=omega) only[Wz,seval,encU_length,encU_take,encEn_length,encEn_take,encTr_length,encTr_take,List.append_eq,List.cons_append,List.nil_append,encN_length,encN_take]
  refine CallK_of call12 (hprops _ ?_) ?_
  ·exact fun i hi=>lk_lt (N:=8) (by simp) hi
  rintro r0 h' (⟨hok,hmd',a,hal,hia,rfl,rfl⟩ | ⟨hno,rfl,rfl⟩)
  rotate_left
  ·exact absurd ⟨hc.2.1,hc.2.2⟩ (hno hc.1)
  simp -implicitDefEqProofs (disch:=omega) only[Wz,seval,encU_length,encU_take,encEn_length,encEn_take,encTr_length,encTr_take,List.append_eq,List.cons_append,List.nil_append]
  refine aw_seq ?_
  refine aw_of ?_
  simp -implicitDefEqProofs (disch:=omega) only[Wz,seval,encU_length,encU_take,encEn_length,encEn_take,encTr_length,encTr_take,List.append_eq,List.cons_append,List.nil_append]
  refine aw_seq ?_
  refine aw_seq ?_
  refine aw_of ?_
  simp -implicitDefEqProofs (disch:=omega) only[Wz,seval,encU_length,encU_take,encEn_length,encEn_take,encTr_length,encTr_take,List.append_eq,List.cons_append,List.nil_append]
  refine aw_block' ?_
  have hix:ixV l at'=a:=ixV_of hrise hal hia
  rw[hix] at ht
  have hlk:=hlk hok
  have fk:=fk hok
  have hends:=fun r hr=>ends_all hlk mu fk (rank_ex g.ok hok) r a hr hal
  have hfar:=nextT_far hok hun hrise hal hia ht
  have hia2:=hpos _ (getD_mem hal)
  have hru:=hlk.w.nru
  refine aw_wk (σ':=⟨[(44,.fn (.func 20) [] [.ptr 14 0,.ptr 12 0,.ptr 13 0]),(1,.wit L (.vec (x.map encBy) false)),(5,.ptr 0 0),(8,.ptr 1 0),(9,.ptr 2 0),(10,.ptr 3 0),(11,.ptr 4 0),(12,.ptr 5 0),(14,.ptr 6 0),(15,.ptr 7 0)],⟨[(0,encN n),(1,[.lit (.int .i64 at')]),(2,[.lit (.int .i64 md)]),(3,[.lit (.bool false)]),(4,[.lit (.int .i64 r)]),(5,[.lit (.int .i64 kk)]),(6,[.lit (.int .i64 e)]),(7,[.lit (.bool true)]),(8,encN n),(9,encN n),(11,lookC n o l md 10),(12,[.ptr 11 0]),(13,[.lit (.int .i64 (a:Int))]),(14,[.lit (.int .i64 0)])],[(10,tokTd [])],15⟩,134⟩) (wk_lk (by simp[lk]) (fun _ _ e=>e) (fun _ _ e=>e) rfl rfl) ?_
  refine aw_rangeFunc (gf:=20) (first:=[]) (lb:=[.ptr 14 0,.ptr 12 0,.ptr 13 0]) rfl call20 (fun p hp=>?_)
  obtain⟨C,hC⟩:∃ C:Nat→Hp→Prop,∀ i H,C i H↔LC n at' md r kk e (propsV n o l md k a i).isEmpty 1 H:=⟨fun i H=>LC n at' md r kk e (propsV n o l md k a i).isEmpty 1 H,fun _ _=>Iff.rfl⟩
  refine SCall.mono (propsIt hlk a hal hends hpos LK 16 11 10 12 13 14 (by unfold LK;decide) (by unfold LK;decide) (by unfold LK;decide) (by unfold LK;decide) (by unfold LK;decide) (fun j hj=>⟨by omega,by omega⟩) C (fun _=>False) (fun i H H' h kp=>?_) (fun _ _ h _=>h.elim) (fun i H hi hn h=>?_) (fun i y H hi hs h hMH fb ft=>?_) _ ?_ (Nat.le_refl _) rfl rfl rfl ⟨[],.nil,rfl,rfl,by decide,by show 11<16;decide,by show 10<16;decide,rfl,fun i hi=>lk_lt (N:=16) (by simp[Hp.addLp]) hi,fun i hi=>lk_lt (N:=16) (by simp[Hp.addLp]) hi⟩ (by show 12<16;decide)) ?_
  ·rw[hC] at h ⊢
   exact h.kp kp
  ·rw[hC] at h ⊢
   rw[propsV_succ,hn]
   simpa using h
  ·
   rw[hC] at h
   have hmem:(i,y)∈propsV n o l md k a n.rules.length:=List.mem_filterMap.2 ⟨i,List.mem_range.2 hi,hs⟩
   rcases hfar with ⟨q,_⟩ | ⟨b,hb,hne,hr1,hadd,he0,hb1,hb2,hb3,hk0,hall⟩
   ·rw[q] at hmem;cases hmem
   obtain⟨yl,y1,y2⟩:=hall i y hmem
   obtain⟨_,hm,_⟩:=propsV_mem hmem
   obtain⟨hlx,hfr,hmo⟩:=mineV_is hm
   simp only at hlx hfr hmo
   obtain⟨rr,hrr⟩:∃ rr,n.rules.getD i default=rr:=⟨_,rfl⟩
   obtain⟨u,hu⟩:∃ u,l.getD y.pos default=u:=⟨_,rfl⟩
   obtain⟨ub,hub⟩:∃ u,l.getD b.2.pos default=u:=⟨_,rfl⟩
   have hup:=hpos u (by rw[← hu];exact getD_mem yl)
   have hubp:=hpos ub (by rw[← hub];exact getD_mem hb3)
   rw[hrr] at hlx hfr hmo
   rw[hu,hub] at y1 y2
   rw[hub] at hadd
   subst he0
   rw[hu]
   refine hp _ _ _ ⟨h.t,rfl,?_⟩
   refine aw_of ?_
   simp -implicitDefEqProofs (disch:=omega) only[Wz,seval,encU_length,encU_take,encEn_length,encEn_take,encTr_length,encTr_take,List.append_eq,List.cons_append,List.nil_append,putL]
   refine⟨h.t,?_⟩
   have hq:∀ c d,lk (up (up H.toks 15 c) 15 d) 15=some d:=fun c d=>by rw[lk_up,if_pos rfl,lk_up,if_pos rfl,h.t];rfl
   have kp:Kp LK H ⟨up H.boxes 7 [.lit (.bool false)],up (up H.toks 15 (lpTk 2)) 15 (lpTk 1),H.nx⟩:=by
    refine⟨Nat.le_refl _,fun j hj _=>?_,fun j hj _=>?_,fun j hj=>?_,fun j hj=>?_⟩
    ·show lk (up H.boxes 7 _) j=_
     rw[lk_up,if_neg (by have:=hj.1;omega)]
    ·show lk (up (up H.toks 15 _) 15 _) j=_
     rw[lk_up,if_neg (fun q=>hj.2 q.symm),lk_up,if_neg (fun q=>hj.2 q.symm)]
    ·have hj:H.nx≤j:=hj
     show lk (up H.boxes 7 _) j=_
     rw[lk_up,if_neg (by omega)];exact fb j hj
    ·have hj:H.nx≤j:=hj
     show lk (up (up H.toks 15 _) 15 _) j=_
     rw[lk_up,if_neg (by omega),lk_up,if_neg (by omega)];exact ft j hj
   have hnext:C (i+1) ⟨up H.boxes 7 [.lit (.bool false)],up (up H.toks 15 (lpTk 2)) 15 (lpTk 1),H.nx⟩:=by
    rw[hC]
    have e1:(propsV n o l md k a (i+1)).isEmpty=false:=by rw[propsV_succ,hs];simp
    rw[e1]
    have ub:∀ j c,j≠7→lk H.boxes j=some c→lk (up H.boxes 7 [AV.lit (.bool false)]) j=some c:=fun j c hj hc=>by rw[lk_up,if_neg (Ne.symm hj)];exact hc
    exact⟨ub _ _ (by decide) h.b0,ub _ _ (by decide) h.b1,ub _ _ (by decide) h.b2,ub _ _ (by decide) h.b3,ub _ _ (by decide) h.b4,ub _ _ (by decide) h.b5,ub _ _ (by decide) h.b6,by show lk (up H.boxes 7 _) 7=_;rw[lk_up,if_pos rfl,h.b7];rfl,hq _ _,h.nx⟩
   obtain⟨b0,b1,b2,b3,b4,b5,b6,b7,bt,bn⟩:=h
   refine aw_wk (σ':=⟨[(17,.lit (.int .i64 (i:Int))),(18,.lit (.int .i64 (u.pos:Int))),(5,.ptr 0 0),(8,.ptr 1 0),(9,.ptr 2 0),(10,.ptr 3 0),(11,.ptr 4 0),(12,.ptr 5 0),(14,.ptr 6 0),(15,.ptr 7 0)],⟨H.boxes,up H.toks 15 (lpTk 2),H.nx⟩,134⟩) (wk_lk (by simp[lk]) (fun _ _ e=>e) (fun _ _ e=>e) rfl rfl) ?_
   refine aw_block' ?_
   refine aw_seq ?_
   refine aw_of ?_
   simp -implicitDefEqProofs (disch:=omega) only[Wz,seval,encU_length,encU_take,encEn_length,encEn_take,encTr_length,encTr_take,List.append_eq,List.cons_append,List.nil_append,b7]
   refine aw_seq ?_
   refine aw_quietN (n:=134) rfl (by decide) mixed ?_
   have hmb:(rr.mode==md)=true:=beqT hmo
   have haddw:IntKind.i64.wrap (at'+kk)=(ub.pos:Int):=by rw[hadd];exact i64w (by omega) (by omega)
   have fin:∀ (sl:List (Nat × AV)),∃ σ',St.wk ⟨sl,⟨up H.boxes 7 [.lit (.bool false)],up H.toks 15 (lpTk 2),H.nx⟩,134⟩ σ'∧lk σ'.hp.toks 15=some (lpTk 2)∧(fun r H'=>Kp LK H H'∧(r=AV.lit (.bool true)∧C (i+1) H'∨r=AV.lit (.bool false)∧False)) (.lit (.bool true)) (σ'.hp.lp 15 1):=fun sl =>
    ⟨⟨[],⟨up H.boxes 7 [.lit (.bool false)],up H.toks 15 (lpTk 2),H.nx⟩,134⟩,wk_lk (by simp) (fun _ _ e=>e) (fun _ _ e=>e) rfl rfl,by show lk (up H.toks 15 _) 15=_;rw[lk_up,if_pos rfl,bt];rfl,kp,.inl ⟨rfl,hnext⟩⟩
   cases hpe:((u.pos:Int)==(ub.pos:Int)) with
   | false =>
    simp -implicitDefEqProofs (disch:=omega) only[Wz,seval,encU_length,encU_take,encEn_length,encEn_take,encTr_length,encTr_take,List.append_eq,List.cons_append,List.nil_append,lk_up,b0,b1,b2,b4,b5,b6,haddw,hpe,encN,hrr,encNr,hlx,hfr,hmb,Option.map_some]
    refine aw_of ?_
    simp -implicitDefEqProofs (disch:=omega) only[Wz,seval,encU_length,encU_take,encEn_length,encEn_take,encTr_length,encTr_take,List.append_eq,List.cons_append,List.nil_append]
    exact fin _
   | true =>
    have hpe':u.pos=ub.pos:=by have:=eq_of_beq hpe;omega
    have:=y2 hpe'
    simp -implicitDefEqProofs (disch:=omega) only[Wz,seval,encU_length,encU_take,encEn_length,encEn_take,encTr_length,encTr_take,List.append_eq,List.cons_append,List.nil_append,lk_up,b0,b1,b2,b4,b5,b6,haddw,hpe,encN,hrr,encNr,hlx,hfr,hmb,Option.map_some]
    refine aw_of ?_
    simp -implicitDefEqProofs (disch:=omega) only[Wz,seval,encU_length,encU_take,encEn_length,encEn_take,encTr_length,encTr_take,List.append_eq,List.cons_append,List.nil_append]
    exact fin _
  ·rw[hC]
   refine⟨rfl,rfl,rfl,rfl,rfl,rfl,rfl,?_,rfl,Nat.le_refl _⟩
   show lk _ 7=_
   have:(propsV n o l md k a 0).isEmpty=true:=rfl
   rw[this];rfl
  ·rintro r0 H' ⟨rfl,hH | hH⟩
   rotate_left
   ·exact hH.elim
   rw[hC] at hH
   refine⟨1,Nat.le_refl _,by decide,hH.t,.inl ⟨rfl,?_⟩⟩
   show Aw _ _ _ _
   have hn:=hH.nx
   refine aw_wk (σ':=⟨[(1,.wit L (.vec (x.map encBy) false)),(5,.ptr 0 0),(8,.ptr 1 0),(9,.ptr 2 0),(10,.ptr 3 0),(11,.ptr 4 0),(12,.ptr 5 0),(14,.ptr 6 0),(15,.ptr 7 0)],⟨[(0,encN n),(1,[.lit (.int .i64 at')]),(2,[.lit (.int .i64 md)]),(3,[.lit (.bool false)]),(4,[.lit (.int .i64 r)]),(5,[.lit (.int .i64 kk)]),(6,[.lit (.int .i64 e)]),(7,[.lit (.bool (propsV n o l md k a n.rules.length).isEmpty)])],[],H'.nx⟩,134⟩) (wk_le (by simp[lk]) (allc hH.b0 (allc hH.b1 (allc hH.b2 (allc hH.b3 (allc hH.b4 (allc hH.b5 (allc hH.b6 (allc hH.b7 alln)))))))) alln rfl rfl) ?_
   generalize H'.nx=m at hn ⊢
   clear hH hC hp
   rcases hfar with ⟨q,rfl,rfl,rfl⟩ | ⟨b,hb,hne,hr1,hadd,he0,hb1,hb2,hb3,hk0,hall⟩
   ·rw[q]
    refine aw_seq ?_
    refine aw_of ?_
    simp -implicitDefEqProofs (disch:=omega) only[Wz,seval,encU_length,encU_take,encEn_length,encEn_take,encTr_length,encTr_take,List.append_eq,List.cons_append,List.nil_append,List.isEmpty_nil]
    refine CallK_pure call7 wakes_spec alln (.lit _) ?_
    simp -implicitDefEqProofs (disch:=omega) only[Wz,seval,encU_length,encU_take,encEn_length,encEn_take,encTr_length,encTr_take,List.append_eq,List.cons_append,List.nil_append]
    exact expo_pure (.lit _)
   ·subst he0
    have he1:(propsV n o l md k a n.rules.length).isEmpty=false:=by simpa using hne
    rw[he1]
    obtain⟨ub,hub⟩:∃ u,l.getD b.2.pos default=u:=⟨_,rfl⟩
    rw[hub] at hadd
    have hubm:ub∈l:=by rw[← hub];exact getD_mem hb3
    have hubp:=hpos ub hubm
    have haddw:IntKind.i64.wrap (at'+kk)=(ub.pos:Int):=by rw[hadd];exact i64w (by omega) (by omega)
    obtain⟨_,_,hmo⟩:=mineV_is hb2
    obtain⟨rr,hrr⟩:∃ rr,n.rules.getD b.1 default=rr:=⟨_,rfl⟩
    rw[hrr] at hmo
    have hmb:(rr.mode==md)=true:=beqT hmo
    have hix0:=ixF_any l (ub.pos:Int) 0
    have hany:(l.any fun u=>decide ((u.pos:Int)=(ub.pos:Int)))=true:=List.any_eq_true.2 ⟨ub,hubm,by simp⟩
    rw[hany] at hix0
    have hix1:=of_decide_eq_true hix0
    subst hr1
    refine aw_seq ?_
    refine aw_of ?_
    simp -implicitDefEqProofs (disch:=omega) only[Wz,seval,encU_length,encU_take,encEn_length,encEn_take,encTr_length,encTr_take,List.append_eq,List.cons_append,List.nil_append]
    refine aw_seq ?_
    refine aw_of ?_
    simp -implicitDefEqProofs (disch:=omega) only[Wz,seval,encU_length,encU_take,encEn_length,encEn_take,encTr_length,encTr_take,List.append_eq,List.cons_append,List.nil_append]
    refine CallK_pure call8 hcut (allc pI alln) (.agg (pH _)) ?_
    simp -implicitDefEqProofs (disch:=omega) only[Wz,seval,encU_length,encU_take,encEn_length,encEn_take,encTr_length,encTr_take,List.append_eq,List.cons_append,List.nil_append]
    refine aw_seq ?_
    refine aw_drawQ (n:=134) 27 (.alt 27 .leaf .nil) rfl (by decide) (by decide) mixed (by kernel_rfl) (by decide) ?_
    simp -implicitDefEqProofs (disch:=omega) only[Wz,seval,encU_length,encU_take,encEn_length,encEn_take,encTr_length,encTr_take,List.append_eq,List.cons_append,List.nil_append,haddw]
    refine CallQ_pure call9 (hgx l (ub.pos:Int) (by omega)) (allc (.agg (pH _)) (allc (.lit _) alln)) (.lit _) ?_
    simp -implicitDefEqProofs (disch:=omega) only[Wz,seval,encU_length,encU_take,encEn_length,encEn_take,encTr_length,encTr_take,List.append_eq,List.cons_append,List.nil_append,encN,hrr,encNr,hmb]
    refine CallQ_pure call7 wakes_spec alln (.lit _) ?_
    simp -implicitDefEqProofs (disch:=omega) only[Wz,seval,encU_length,encU_take,encEn_length,encEn_take,encTr_length,encTr_take,List.append_eq,List.cons_append,List.nil_append]
    refine aw_of ?_
    simp -implicitDefEqProofs (disch:=omega) only[Wz,seval,encU_length,encU_take,encEn_length,encEn_take,encTr_length,encTr_take,List.append_eq,List.cons_append,List.nil_append]
    exact expo_pure (.lit _)
 ·rw[if_neg hc]
  obtain⟨e,he⟩:∃ e:Int,(if okV n=true then 2 else 110)=e:=⟨_,rfl⟩
  have hne:(e != 0)=true:=by
   rw[← he]
   split <;> decide
  have hne0:e≠0:=by simpa using hne
  rw[he] at hprops ⊢
  simp -implicitDefEqProofs (disch:=omega) only[Wz,seval,encU_length,encU_take,encEn_length,encEn_take,encTr_length,encTr_take,List.append_eq,List.cons_append,List.nil_append,nextA]
  refine aw_seq ?_
  refine aw_of ?_
  simp -implicitDefEqProofs (disch:=omega) only[Wz,seval,encU_length,encU_take,encEn_length,encEn_take,encTr_length,encTr_take,List.append_eq,List.cons_append,List.nil_append]
  refine aw_seq ?_
  refine aw_of ?_
  simp -implicitDefEqProofs (disch:=omega) only[Wz,seval,encU_length,encU_take,encEn_length,encEn_take,encTr_length,encTr_take,List.append_eq,List.cons_append,List.nil_append,encN_length,encN_take]
  refine CallK_of call12 (hprops _ ?_) ?_
  ·exact fun i hi=>lk_lt (N:=8) (by simp) hi
  rintro r0 h' (⟨hok,hmd',a,hal,hia,rfl,rfl⟩ | ⟨hno,rfl,rfl⟩)
  ·exact absurd ⟨hok,hmd',_,getD_mem hal,hia⟩ hc
  simp -implicitDefEqProofs (disch:=omega) only[Wz,seval,encU_length,encU_take,encEn_length,encEn_take,encTr_length,encTr_take,List.append_eq,List.cons_append,List.nil_append]
  refine aw_seq ?_
  refine aw_of ?_
  simp -implicitDefEqProofs (disch:=omega) only[Wz,seval,encU_length,encU_take,encEn_length,encEn_take,encTr_length,encTr_take,List.append_eq,List.cons_append,List.nil_append]
  refine aw_seq ?_
  refine aw_seq ?_
  refine aw_of ?_
  simp -implicitDefEqProofs (disch:=omega) only[Wz,seval,encU_length,encU_take,encEn_length,encEn_take,encTr_length,encTr_take,List.append_eq,List.cons_append,List.nil_append]
  refine aw_block' ?_
  refine aw_wk (σ':=⟨[(44,.fn (.func 20) [] [.ptr 12 0,.ptr 10 0,.ptr 11 0]),(10,.ptr 3 0),(12,.ptr 5 0),(14,.ptr 6 0),(15,.ptr 7 0)],⟨[(3,[.lit (.bool false)]),(5,[.lit (.int .i64 0)]),(6,[.lit (.int .i64 e)]),(7,[.lit (.bool true)]),(12,[.lit (.int .i64 e)])],[],13⟩,134⟩) (wk_le (by simp[lk]) (by simp[lk]) (by simp) rfl rfl) ?_
  refine aw_rangeFunc (gf:=20) (first:=[]) (lb:=[.ptr 12 0,.ptr 10 0,.ptr 11 0]) rfl call20 (fun p hp=>?_)
  refine SCall.mono (propsNo hne0 _ rfl) ?_
  rintro r0 H' ⟨rfl,rfl⟩
  refine⟨1,Nat.le_refl _,by decide,rfl,.inl ⟨rfl,?_⟩⟩
  show Aw _ _ _ _
  refine aw_wk (σ':=⟨[(10,.ptr 3 0),(12,.ptr 5 0),(14,.ptr 6 0),(15,.ptr 7 0)],⟨[(3,[.lit (.bool false)]),(5,[.lit (.int .i64 0)]),(6,[.lit (.int .i64 e)]),(7,[.lit (.bool true)])],[],15⟩,134⟩) (wk_le (by simp[lk]) (by simp[lk,Hp.addLp,Hp.unlp]) (by simp) rfl rfl) ?_
  have hne':(!(e==0))=true:=hne
  refine aw_seq ?_
  refine aw_of ?_
  simp -implicitDefEqProofs (disch:=omega) only[Wz,seval,encU_length,encU_take,encEn_length,encEn_take,encTr_length,encTr_take,List.append_eq,List.cons_append,List.nil_append,hne,hne']
  refine CallK_pure call7 wakes_spec alln (.lit _) ?_
  simp -implicitDefEqProofs (disch:=omega) only[Wz,seval,encU_length,encU_take,encEn_length,encEn_take,encTr_length,encTr_take,List.append_eq,List.cons_append,List.nil_append]
  exact expo_pure (.lit _)
end Go.Proofs.YtgbbhilflgekhaaDoor
end
section
namespace Go.Proofs.YtgbbhilflgekhaaDoor
open Go Go.Ab
set_option maxRecDepth 20000
mutual
def gz:Gd→Nat
 | .mk _ _ name kids=>1+name.size+gzs kids
def gzs:List Gd→Nat
 | []=>0
 | g :: l=>gz g+gzs l
end
theorem gzs_sum(l:List Gd):gzs l=(l.map gz).sum:=by induction l with | nil=>rfl | cons x l ih=>simp[gzs,ih]
theorem gz_eq(g:Gd):gz g=1+g.name.size+(g.kids.map gz).sum:=by cases g;simp only[gz,gzs_sum];rfl
theorem sum_le{l:List Gd}{f g:Gd→Nat}(h:∀ x∈l,f x≤g x):(l.map f).sum≤(l.map g).sum:=by
 induction l with
 | nil=>simp
 | cons x l ih =>
  simp only[List.map_cons,List.sum_cons]
  have:=h x (by simp)
  have:=ih (fun y hy=>h y (by simp[hy]))
  omega
theorem gz_ok:∀ (m:Nat) (g:Gd),gz g≤m→m≤1000000000→GdOk g∧gsz g≤gz g:=by
 intro m
 induction m using Nat.strongRecOn with
 | _ m ih =>
  intro g h hm
  have hk:∀ k∈g.kids,GdOk k∧gsz k≤gz k:=fun k hk=>by
   have h1:=sum_mem (List.mem_map_of_mem (f:=gz) hk)
   have h2:=gz_eq g
   exact ih (gz k) (by omega) k (Nat.le_refl _) (by omega)
  refine⟨.mk (by have:=gz_eq g;omega) fun k hk'=>(hk k hk').1,?_⟩
  rw[gsz_eq,gz_eq]
  have:=sum_le fun x hx=>(hk x hx).2
  omega
abbrev RgS:Type:={p:Int × Int // (-2147483648≤p.1∧p.1≤2147483647)∧(-2147483648≤p.2∧p.2≤2147483647)}
abbrev EdS:Type:={e:Ed // SetOk e.set}
abbrev StS:Type:={s:Sta // ∀ e∈s.edges,SetOk e.set}
def edz (e:Ed):Nat:=1+e.set.length+gz e.g+e.acts.length
def stz (s:Sta):Nat:=1+(s.edges.map edz).sum
def nrz (r:Nr):Nat:=1+r.name.size
def baz (s:ByteArray):Nat:=1+s.size
def ntz (n:Nt):Nat:=1+(n.types.map baz).sum+(n.channels.map baz).sum+(n.modes.map baz).sum+(n.rules.map nrz).sum+(n.states.map stz).sum
theorem i32_wf{z:Int}(h:(Lit.int .i32 z).wf=true) : -2147483648≤z∧z≤2147483647:=by
 simp only[Lit.wf,Bool.and_eq_true,decide_eq_true_eq] at h
 have e1:IntKind.i32.min = -2147483648:=by decide
 have e2:IntKind.i32.max=2147483647:=by decide
 omega
theorem all_val{α:Type}{P:α→Prop}(l:List {a // P a}):∀ a∈l.map (fun x=>x.1),P a:=fun a h=>by
 obtain⟨x,_,rfl⟩:=List.mem_map.1 h;exact x.2
section
variable {H:Type} {en:TypeId × Value→H} {W:World}
theorem rs_gd(n:Nat):Rd en Tryd.prog W n 58 (fun av m=>∃ t:Gd,av=encG t∧gz t≤m):=by
 induction n using Nat.strongRecOn with
 | _ n ih =>
  refine(Rd.struct' ty58 rfl fun k hk=>.cons ty53 (.int ty53 rfl) (.cons ty2 (.int ty2 rfl) (.cons ty9 (.str ty9 rfl)
   (.cons ty56 (.slice' ty56 rfl ty58 (by decide) (f:=encG) (sz:=gz) fun j hj=>ih j (by omega)) (.nil (by decide)))))).mono ?_
  rintro av m ⟨q,h,rfl⟩
  obtain⟨_,_,_,_,rfl,⟨z1,w1,rfl⟩,h,rfl⟩:=h
  obtain⟨_,_,_,_,rfl,⟨z2,_,rfl⟩,h,rfl⟩:=h
  obtain⟨_,_,_,_,rfl,⟨s,hs,hs2,rfl⟩,h,rfl⟩:=h
  obtain⟨_,_,_,_,rfl,⟨l,rfl,hl,_⟩,rfl,rfl⟩:=h
  exact⟨.mk ⟨z1,i8_wf w1⟩ z2 s l,by simp[encG,encGs_map],by simp only[gz,gzs_sum];omega⟩
theorem rs_range(n:Nat):Rd en Tryd.prog W n 99 (fun av m=>∃ t:RgS,av=encR t.1∧1≤m):=by
 refine(Rd.struct' ty99 rfl fun k hk=>.cons ty21 (.int ty21 rfl) (.cons ty21 (.int ty21 rfl) (.nil (by decide)))).mono ?_
 rintro av m ⟨q,h,rfl⟩
 obtain⟨_,_,_,_,rfl,⟨z1,w1,rfl⟩,h,rfl⟩:=h
 obtain⟨_,_,_,_,rfl,⟨z2,w2,rfl⟩,rfl,rfl⟩:=h
 exact⟨⟨(z1,z2),i32_wf w1,i32_wf w2⟩,rfl,by omega⟩
theorem rs_ed(n:Nat):Rd en Tryd.prog W n 60 (fun av m=>∃ t:EdS,av=encE t.1∧edz t.1≤m):=by
 refine(Rd.struct' ty60 rfl fun k hk=>.cons ty53 (.int ty53 rfl) (.cons ty55 (.slice' ty55 rfl ty99 (by decide) (f:=fun t:RgS=>encR t.1) (sz:=fun _=>1) fun j _=>rs_range j)
  (.cons ty3 (.int ty3 rfl) (.cons ty3 (.int ty3 rfl) (.cons ty58 (rs_gd k)
  (.cons ty37 (.slice' ty37 rfl ty82 (by decide) (f:=encAct) (sz:=fun _=>1) fun j _=>rd_act j) (.cons ty3 (.int ty3 rfl) (.nil (by decide))))))))).mono ?_
 rintro av m ⟨q,h,rfl⟩
 obtain⟨_,_,_,_,rfl,⟨z1,w1,rfl⟩,h,rfl⟩:=h
 obtain⟨_,_,_,_,rfl,⟨st,rfl,_,hs⟩,h,rfl⟩:=h
 obtain⟨_,_,_,_,rfl,⟨z2,_,rfl⟩,h,rfl⟩:=h
 obtain⟨_,_,_,_,rfl,⟨z3,_,rfl⟩,h,rfl⟩:=h
 obtain⟨_,_,_,_,rfl,⟨g,rfl,hg⟩,h,rfl⟩:=h
 obtain⟨_,_,_,_,rfl,⟨ac,rfl,_,ha⟩,h,rfl⟩:=h
 obtain⟨_,_,_,_,rfl,⟨z4,_,rfl⟩,rfl,rfl⟩:=h
 have hst:SetOk (st.map fun x=>x.1):=all_val st
 exact⟨⟨⟨⟨z1,i8_wf w1⟩,st.map (fun x=>x.1),z2,z3,g,ac,z4⟩,hst⟩,by simp[encE,encG_eq,List.map_map,Function.comp_def],by simp only[edz,List.length_map];omega⟩
theorem rs_sta(n:Nat):Rd en Tryd.prog W n 52 (fun av m=>∃ t:StS,av=encSt t.1∧stz t.1≤m):=by
 refine(Rd.struct' ty52 rfl fun k hk=>.cons ty3 (.int ty3 rfl) (.cons ty50 (.slice' ty50 rfl ty60 (by decide) (f:=fun t:EdS=>encE t.1) (sz:=fun t:EdS=>edz t.1) fun j _=>rs_ed j) (.nil (by decide)))).mono ?_
 rintro av m ⟨q,h,rfl⟩
 obtain⟨_,_,_,_,rfl,⟨z1,_,rfl⟩,h,rfl⟩:=h
 obtain⟨_,_,_,_,rfl,⟨l,rfl,hl,_⟩,rfl,rfl⟩:=h
 exact⟨⟨⟨z1,l.map (fun x=>x.1)⟩,all_val l⟩,by simp[encSt,List.map_map,Function.comp_def],by simp only[stz,List.map_map,Function.comp_def];omega⟩
theorem rs_nr(n:Nat):Rd en Tryd.prog W n 48 (fun av m=>∃ t:Nr,av=encNr t∧nrz t≤m):=by
 refine(Rd.struct' ty48 rfl fun k hk=>.cons ty9 (.str ty9 rfl) (.cons ty4 (.bool ty4 rfl) (.cons ty4 (.bool ty4 rfl) (.cons ty4 (.bool ty4 rfl) (.cons ty4 (.bool ty4 rfl)
  (.cons ty3 (.int ty3 rfl) (.cons ty3 (.int ty3 rfl) (.cons ty3 (.int ty3 rfl) (.cons ty3 (.int ty3 rfl) (.nil (by decide))))))))))).mono ?_
 rintro av m ⟨q,h,rfl⟩
 obtain⟨_,_,_,_,rfl,⟨s,hs,hs2,rfl⟩,h,rfl⟩:=h
 obtain⟨_,_,_,_,rfl,⟨b1,rfl⟩,h,rfl⟩:=h
 obtain⟨_,_,_,_,rfl,⟨b2,rfl⟩,h,rfl⟩:=h
 obtain⟨_,_,_,_,rfl,⟨b3,rfl⟩,h,rfl⟩:=h
 obtain⟨_,_,_,_,rfl,⟨b4,rfl⟩,h,rfl⟩:=h
 obtain⟨_,_,_,_,rfl,⟨z1,_,rfl⟩,h,rfl⟩:=h
 obtain⟨_,_,_,_,rfl,⟨z2,_,rfl⟩,h,rfl⟩:=h
 obtain⟨_,_,_,_,rfl,⟨z3,_,rfl⟩,h,rfl⟩:=h
 obtain⟨_,_,_,_,rfl,⟨z4,_,rfl⟩,rfl,rfl⟩:=h
 exact⟨⟨s,b1,b2,b3,b4,z1,z2,z3,z4⟩,rfl,by simp only[nrz];omega⟩
theorem rs_str(n:Nat):Rd en Tryd.prog W n 9 (fun av m=>∃ t:ByteArray,av=encB t∧baz t≤m):=by
 refine(Rd.str ty9 rfl).mono ?_
 rintro av m ⟨s,_,hs,rfl⟩
 exact⟨s,rfl,by simp only[baz];omega⟩
theorem rs_nt(n:Nat):Rd en Tryd.prog W n 26 (fun av m=>∃ t:Nt,av=encN t∧ntz t≤m∧∀ s∈t.states,∀ e∈s.edges,SetOk e.set):=by
 have ws:∀ k,Rd en Tryd.prog W k 22 (fun av m=>∃ l:List ByteArray,av=[.vec (l.map encB) false]∧(l.map baz).sum+1≤m∧l.length+1≤m):=fun k =>
  .slice' ty22 rfl ty9 (by decide) (f:=encB) (sz:=baz) fun j _=>rs_str j
 refine(Rd.struct' ty26 rfl fun k hk=>.cons ty22 (ws k) (.cons ty22 (ws k) (.cons ty22 (ws k)
  (.cons ty23 (.slice' ty23 rfl ty48 (by decide) (f:=encNr) (sz:=nrz) fun j _=>rs_nr j)
  (.cons ty24 (.slice' ty24 rfl ty52 (by decide) (f:=fun t:StS=>encSt t.1) (sz:=fun t:StS=>stz t.1) fun j _=>rs_sta j) (.nil (by decide))))))).mono ?_
 rintro av m ⟨q,h,rfl⟩
 obtain⟨_,_,_,_,rfl,⟨l1,rfl,h1,_⟩,h,rfl⟩:=h
 obtain⟨_,_,_,_,rfl,⟨l2,rfl,h2,_⟩,h,rfl⟩:=h
 obtain⟨_,_,_,_,rfl,⟨l3,rfl,h3,_⟩,h,rfl⟩:=h
 obtain⟨_,_,_,_,rfl,⟨l4,rfl,h4,_⟩,h,rfl⟩:=h
 obtain⟨_,_,_,_,rfl,⟨l5,rfl,h5,_⟩,rfl,rfl⟩:=h
 exact⟨⟨l1,l2,l3,l4,l5.map (fun x=>x.1)⟩,by simp[encN,List.map_map,Function.comp_def],by simp only[ntz,List.map_map,Function.comp_def];omega,all_val l5⟩
theorem ntOk_of{n:Nt}(h:ntz n≤100000000)(p:∀ s∈n.states,∀ e∈s.edges,SetOk e.set):NtOk n:=by
 unfold ntz at h
 have b1:=sum_len baz (fun t=>by unfold baz;omega) n.types
 have b2:=sum_len baz (fun t=>by unfold baz;omega) n.channels
 have b3:=sum_len baz (fun t=>by unfold baz;omega) n.modes
 have b4:=sum_len nrz (fun t=>by unfold nrz;omega) n.rules
 have b5:=sum_len stz (fun t=>by unfold stz;omega) n.states
 have sb:∀ (l:List ByteArray),(l.map baz).sum≤100000000→∀ s∈l,s.size≤9000000000000000000:=fun l hl s hs=>by
  have:=sum_mem (List.mem_map_of_mem (f:=baz) hs)
  unfold baz at this hl;omega
 refine⟨by omega,by omega,by omega,by omega,by omega,sb _ (by omega),sb _ (by omega),sb _ (by omega),fun r hr=>?_,fun s hs=>?_⟩
 ·have:=sum_mem (List.mem_map_of_mem (f:=nrz) hr)
  have e:nrz r=1+r.name.size:=rfl
  omega
 ·have h1:=sum_mem (List.mem_map_of_mem (f:=stz) hs)
  have e1:stz s=1+(s.edges.map edz).sum:=rfl
  have h2:=sum_len edz (fun t=>by unfold edz;omega) s.edges
  refine⟨by omega,fun e he=>?_⟩
  have h3:=sum_mem (List.mem_map_of_mem (f:=edz) he)
  have e2:edz e=1+e.set.length+gz e.g+e.acts.length:=rfl
  obtain⟨q1,q2⟩:=gz_ok _ e.g (Nat.le_refl _) (by omega)
  exact⟨by omega,by omega,by omega,q1,p s hs e he⟩
theorem rd_orcs(n:Nat):Rd en Tryd.prog W n 43 (fun av m=>∃ l:List Orc,av=[.vec (l.map encO) false]∧l.length≤m) :=
 (Rd.slice' ty43 rfl ty161 (by decide) (f:=encO) (sz:=fun _=>1) fun j _=>rd_orc j).mono fun av m ⟨l,h1,_,h2⟩=>⟨l,h1,by omega⟩
theorem rd_i64(n:Nat):Rd en Tryd.prog W n 3 (fun av m=>∃ z:Int,av=[.lit (.int .i64 z)]∧(-9223372036854775808≤z∧z≤9223372036854775807)):=by
 refine(Rd.int ty3 rfl).mono ?_
 rintro av m ⟨z,hz,rfl⟩
 simp only[Lit.wf,Bool.and_eq_true,decide_eq_true_eq] at hz
 have e1:IntKind.i64.min = -9223372036854775808:=by decide
 have e2:IntKind.i64.max=9223372036854775807:=by decide
 exact⟨z,rfl,by omega⟩
theorem rd_u8(n:Nat):Rd en Tryd.prog W n 5 (fun av m=>∃ t:UInt8,av=encBy t∧0≤m):=by
 refine(Rd.int ty5 rfl).mono ?_
 rintro av m ⟨z,hz,rfl⟩
 simp only[Lit.wf,Bool.and_eq_true,decide_eq_true_eq] at hz
 have e1:IntKind.u8.min=0:=by decide
 have e2:IntKind.u8.max=255:=by decide
 refine⟨UInt8.ofNat z.toNat,?_,Nat.zero_le _⟩
 unfold encBy
 have:((UInt8.ofNat z.toNat).toNat:Int)=z:=by
  rw[UInt8.toNat_ofNat']
  omega
 rw[this]
theorem rd_bytes(n:Nat):Rd en Tryd.prog W n 27 (fun av m=>∃ l:List UInt8,av=[.vec (l.map encBy) false]∧l.length≤m) :=
 (Rd.slice' ty27 rfl ty5 (by decide) (f:=encBy) (sz:=fun _=>0) fun j _=>rd_u8 j).mono fun av m ⟨l,h1,_,h2⟩=>⟨l,h1,by omega⟩
end
theorem acts_of{n:Nt}{M:Nat}(h:ntz n≤M):∀ s,∀ e∈(n.states.getD s default).edges,e.acts.length≤M:=fun s e he=>by
 rcases Nat.lt_or_ge s n.states.length with hs | hs
 ·unfold ntz at h
  have h1:=sum_mem (List.mem_map_of_mem (f:=stz) (getD_mem hs))
  have e1:stz (n.states.getD s default)=1+((n.states.getD s default).edges.map edz).sum:=rfl
  have h3:=sum_mem (List.mem_map_of_mem (f:=edz) he)
  have e2:edz e=1+e.set.length+gz e.g+e.acts.length:=rfl
  omega
 ·have:n.states.getD s default=default:=by rw[List.getD_eq_getElem?_getD,List.getElem?_eq_none hs];rfl
  rw[this] at he;cases he
end Go.Proofs.YtgbbhilflgekhaaDoor
end
section
namespace Go.Proofs.YtgbbhilflgekhaaDoor
open Go Go.Ab Go.RowKit Go.ChangeShapes
section
variable {H:Type} {enc:TypeId × Value→H} {P:Program}
theorem Keeps.below{W W':World}(h:Keeps (fun _=>False) W W'):Below W.heap.size W W':=⟨h.os,h.tape,h.output,h.size,fun b hb=>h.block b hb (fun q=>q)⟩
theorem trodAll_stays(hl:laidOutB P=true){W W':World}(hb:Below W.heap.size W W'){sp:Nat→Bool}:∀ {ts:List TypeId} {vs:List Value} {ds:List (DataW H)} {ps:List MemPlace},
  (∀ t∈ts,P.readableRec t=true∧t<P.types.size)→DataW.TrodAll enc P W 0 (fun _=>true) true ts vs ds ps→(∀ p∈ps,p.block<W.heap.size∧sp p.block=true)→DataW.TrodAll enc P W' 0 sp true ts vs ds ps
 | [],vs,ds,ps,_,h,_=>by
  obtain⟨rfl,rfl,rfl⟩:=trodAll_nil h
  exact trodAll_mk0
 | t :: ts,_,_,_,ht,h,hp=>by
  obtain⟨v,vs',d,ds',p,q,rfl,rfl,rfl,h1,h2⟩:=trodAll_cons h
  obtain⟨hr,hrow⟩:=ht t (by simp)
  exact⟨p,q,WideElems.Trod_stays hl hr hrow h1 (fun x hx=>hb.same (hp x (by simp[hx])).1) (fun x hx=>(hp x (by simp[hx])).2),
   trodAll_stays hl hb (fun t' h'=>ht t' (by simp[h'])) h2 (fun x hx=>hp x (by simp[hx])),rfl⟩
theorem law_post{f:Func}{s:ChangeSpec}{apart fresh handsOn again:Bool}{W W':World}{args:Array Value}{ds gs:List (DataW H)}{before:List MemPlace}{tb:TypeId}
  (hW:DataW.Whole enc P f.params.toList s.vars apart W args.toList ds gs before) (hv:s.vars=[]) (hs:s.fn H ds={results:=[.lit (.bool true)],args:=ds})
  (hl:laidOutB P=true) (hp:(f.params.toList.all fun t=>P.readableRec t && decide (t<P.types.size))=true) (hres:f.resultTypes = #[tb]) (htb:P.underlying tb=some .bool)
  (hk:Keeps (fun _=>False) W W'):s.post enc P f apart fresh handsOn again W args (.bool true) W':=by
 have hb:=Keeps.below hk
 have hlt:=hW.lt
 have hW0:=hW
 have hpar:∀ t∈f.params.toList,P.readableRec t=true∧t<P.types.size:=fun t ht=>by
  have:=List.all_eq_true.1 hp t ht
  simpa using this
 obtain⟨p,q,h1,h2,rfl,hz,hn⟩:=hW
 rw[hv] at h2
 obtain⟨rfl,rfl⟩:=trodVars_none h2
 have hfn:s.fn H (ds++[])={results:=[.lit (.bool true)],args:=ds}:=by rw[List.append_nil];exact hs
 have hr:∀ (b:Nat) (sp:Nat→Bool) (hd:Bool),DataW.TrodAll enc P W' b sp hd f.resultTypes.toList ((Value.bool true).resultList f.resultTypes.size) [.lit (.bool true)] []:=fun b sp hd=>by
  rw[hres];exact trodAll_cons_mk (shut_bool htb true) trodAll_mk0
 have ha:∀ sp:Nat→Bool,(∀ x∈p,sp x.block=true)→DataW.TrodAll enc P W' 0 sp true f.params.toList args.toList ds p:=fun sp hsp =>
  trodAll_stays hl hb hpar h1 (fun x hx=>⟨hlt x (by simp[hx]),hsp x hx⟩)
 refine⟨ds,[],p++[],[],p,[],hW0,?_,?_,?_,hb.frame _,fun _=>⟨?_,.lit (.bool true) :: ds,[],p++[],?_,fun x hx _=>hx⟩⟩
 ·rw[hfn];exact hr _ _ _
 ·rw[hfn];exact ha _ (fun x hx=>by simpa using hlt x (by simp[hx]))
 ·rw[hfn,hv];rfl
 ·exact ok_one hres rfl (okWide_bool_mk htb true)
 ·refine⟨p,[],?_,by rw[hv];rfl,rfl,fun b off hx=>?_,fun hap=>hn hap⟩
  ·exact trodAll_append (p:=[]) (ha (fun _=>true) (fun _ _=>rfl)) (hr 0 (fun _=>true) true)
  ·have hlt':=hlt _ hx
   exact(World.frozen?_of_block (w:=W) (hb.block b hlt')).trans (hz b off hx)
end
end Go.Proofs.YtgbbhilflgekhaaDoor
end
section
namespace Go.Proofs.YtgbbhilflgekhaaDoor
open Go Go.Ab Go.RowKit Go.ChangeShapes
set_option maxRecDepth 20000
def tabRen:Go.Shelf.Ren:=⟨id,fun | 5=>5 | 119=>170 | 138=>172 | 139=>173 | n=>n,fun | 3=>0 | 4=>1 | n=>n⟩
theorem tabTypes:U8Types Tryd.prog tabRen:=⟨Tryd.underlying5,Tryd.underlying170,Tryd.underlying172,Tryd.underlying173⟩
theorem tabExtra:U8Extra Tryd.prog tabRen:=⟨by kernel_rfl,by kernel_rfl,by kernel_rfl,by kernel_rfl,by kernel_rfl,by kernel_rfl,by kernel_rfl⟩
theorem tabLaid{W:World}(h:laidMetH Tryd.prog [("unicode/utf8.acceptRanges",Rows.laid_unicode_utf8_acceptRanges),("unicode/utf8.first",Rows.laid_unicode_utf8_first)] W):Lib.Utf8Tabs 0 1 W:=by
 have e1:Rows.laid_unicode_utf8_acceptRanges=Go.Lib.acceptData:=by kernel_rfl
 have e2:Rows.laid_unicode_utf8_first=Go.Lib.firstData:=by kernel_rfl
 rw[e1,e2] at h
 exact utf8Tabs_of_readsT tabTypes tabExtra (Lib.laidMet.reads h (.tail _ (.head _))) (Lib.laidMet.reads h (.head _))
theorem tabMem{W:World}(h:Lib.Utf8Tabs 0 1 W):∀ p∈tabL,∀ (j:Nat) (c:Value),p.2[j]? = some c→memOf W p.1 j=some c:=by
 intro p hp j c hc
 unfold tabL at hp
 rcases List.mem_cons.1 hp with rfl | hp
 ·simp only[List.getElem?_map,Option.map_eq_some_iff] at hc
  obtain⟨i,hi,rfl⟩:=hc
  obtain⟨hj,e⟩:=List.getElem?_eq_some_iff.1 hi
  simp only[List.getElem_range] at e
  subst e
  exact memOf_some (h.1 _ (by simpa using hj)) rfl
 ·rw[List.mem_singleton] at hp
  subst hp
  simp only[List.getElem?_map,Option.map_eq_some_iff] at hc
  obtain⟨i,hi,rfl⟩:=hc
  obtain⟨hj,e⟩:=List.getElem?_eq_some_iff.1 hi
  simp only[List.getElem_range] at e
  subst e
  have hj:j<32:=by simpa using hj
  obtain⟨a,b⟩:=h.2 (j / 2) (by omega)
  unfold accT
  by_cases q:j % 2=0
  ·rw[if_pos q]
   have e:2 * (j / 2)=j:=by omega
   rw[e] at a
   exact memOf_some a rfl
  ·rw[if_neg q]
   have e:2 * (j / 2)+1=j:=by omega
   rw[e] at b
   exact memOf_some b rfl
end Go.Proofs.YtgbbhilflgekhaaDoor
end
