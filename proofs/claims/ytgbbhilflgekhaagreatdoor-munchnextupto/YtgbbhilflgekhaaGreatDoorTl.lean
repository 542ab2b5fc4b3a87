/- Parts of the proof, laid together. -/
import Derived.Test.YtgbbhilflgekhaaGreatDoorTk
set_option linter.unusedVariables false
set_option linter.unusedSimpArgs false
set_option maxRecDepth 20000
set_option maxHeartbeats 16000000
section
namespace Go.Proofs.Y
open Go Go.Ab
def nbB (s:ByteArray)(i:Nat):Bool:=decide (i<s.size) && decide (bt s i / 64=2)
def nbV (s:ByteArray)(i:Nat):Nat:=if nbB s i then bt s i % 64 else 0
theorem Jy6{b:Nat}(h:b<256):(IntKind.u8.wrap ((BitVec.ofInt IntKind.u8.bits (b:Int) &&& BitVec.ofInt IntKind.u8.bits 192).toNat:Int)==128)=decide (b / 64=2):=by
 have key:∀ x:Fin 256,(IntKind.u8.wrap ((BitVec.ofInt IntKind.u8.bits ((x.1:Nat):Int) &&& BitVec.ofInt IntKind.u8.bits 192).toNat:Int)==128)=decide (x.1 / 64=2):=by decide +kernel
 exact key ⟨b,h⟩
theorem JzY{b:Nat}(h:b<256):IntKind.u8.wrap ((BitVec.ofInt IntKind.u8.bits (b:Int) &&& BitVec.ofInt IntKind.u8.bits 63).toNat:Int)=((b % 64:Nat):Int):=by
 have key:∀ x:Fin 256,IntKind.u8.wrap ((BitVec.ofInt IntKind.u8.bits ((x.1:Nat):Int) &&& BitVec.ofInt IntKind.u8.bits 63).toNat:Int)=((x.1 % 64:Nat):Int):=by decide +kernel
 exact key ⟨b,h⟩
theorem JzZ{b:Nat}(h:b<256):IntKind.i32.wrap ((BitVec.ofInt IntKind.i32.bits (b:Int) &&& BitVec.ofInt IntKind.i32.bits 31).toNat:Int)=((b % 32:Nat):Int):=by
 have key:∀ x:Fin 256,IntKind.i32.wrap ((BitVec.ofInt IntKind.i32.bits ((x.1:Nat):Int) &&& BitVec.ofInt IntKind.i32.bits 31).toNat:Int)=((x.1 % 32:Nat):Int):=by decide +kernel
 exact key ⟨b,h⟩
theorem Jz0{b:Nat}(h:b<256):IntKind.i32.wrap ((BitVec.ofInt IntKind.i32.bits (b:Int) &&& BitVec.ofInt IntKind.i32.bits 15).toNat:Int)=((b % 16:Nat):Int):=by
 have key:∀ x:Fin 256,IntKind.i32.wrap ((BitVec.ofInt IntKind.i32.bits ((x.1:Nat):Int) &&& BitVec.ofInt IntKind.i32.bits 15).toNat:Int)=((x.1 % 16:Nat):Int):=by decide +kernel
 exact key ⟨b,h⟩
theorem JB4{b:Nat}(h:b<256):IntKind.i32.wrap ((BitVec.ofInt IntKind.i32.bits (b:Int) &&& BitVec.ofInt IntKind.i32.bits 7).toNat:Int)=((b % 8:Nat):Int):=by
 have key:∀ x:Fin 256,IntKind.i32.wrap ((BitVec.ofInt IntKind.i32.bits ((x.1:Nat):Int) &&& BitVec.ofInt IntKind.i32.bits 7).toNat:Int)=((x.1 % 8:Nat):Int):=by decide +kernel
 exact key ⟨b,h⟩
theorem Jpq{a:Nat}(h:a<4294967296):(BitVec.ofInt 32 (a:Int)).toNat=a:=by
 rw[BitVec.ofInt_natCast,BitVec.toNat_ofNat];exact Nat.mod_eq_of_lt h
theorem Jzz{x:Nat}(h:x<1000000):IntKind.i32.wrap ((x:Int) * 2 ^ min (Int.toNat 6) IntKind.i32.bits)=((x * 64:Nat):Int):=by
 have e:((x:Int) * 2 ^ min (Int.toNat 6) IntKind.i32.bits)=((x * 64:Nat):Int):=by
  show (x:Int) * 2 ^ 6=_;omega
 rw[e];exact IntWalk.i32_in _ ⟨by omega,by omega⟩
theorem Jtq{x:Nat}(h:x<1000000):IntKind.i32.wrap ((x:Int) * 2 ^ min 6 IntKind.i32.bits)=((x * 64:Nat):Int):=Jzz h
theorem or6{x y:Nat}(h:x<1000000)(hy:y<64):IntKind.i32.wrap ((BitVec.ofInt IntKind.i32.bits ((x * 64:Nat):Int) ||| BitVec.ofInt IntKind.i32.bits (y:Int)).toNat:Int)=((x * 64+y:Nat):Int):=by
 have e:(BitVec.ofInt IntKind.i32.bits ((x * 64:Nat):Int) ||| BitVec.ofInt IntKind.i32.bits (y:Int)).toNat=x * 64+y:=by
  show (BitVec.ofInt 32 ((x * 64:Nat):Int) ||| BitVec.ofInt 32 (y:Int)).toNat=_;rw[BitVec.toNat_or,Jpq (by omega),Jpq (by omega)];have:=Nat.two_pow_add_eq_or_of_lt (i:=6) (b:=y) (by omega) x;rw[show x * 64=2 ^ 6 * x by omega,this]
 rw[e];exact IntWalk.i32_in _ ⟨by omega,by omega⟩
theorem byQ(l:List UInt8)(i:Nat):JaN (l.getD i default)=[.lit (.int .u8 (bt (ofB l) i:Int))]:=by
 unfold JaN;rw[JjW];rfl
theorem Jk9(L:List (Nat × List Value))(l:List UInt8)(f:Bool)(i:Nat)(hl:l.length<=1000000000)(hi:i<=2000000000):JO Tryz.prog 36 [inV L l f,.lit (.int .i64 (i:Int))] (.tup [.lit (.int .i32 (nbV (ofB l) i:Int)),.lit (.bool (nbB (ofB l) i))]):=by
 refine JD (Jr Tryz.func36 rfl Tryz.ntmps36 (rs:=[.tmp 4,.tmp 5]) rfl (by simp) ?_);have hsz:=Ja0 l;unfold nbV nbB;rw[hsz];refine Jk ?_;rcases Nat.lt_or_ge i l.length with hlt | hge
 ·have hq:=byQ l i;have hb:=Jer (ofB l) i;generalize bt (ofB l) i=b at hq hb ⊢;have h1:=Jy6 hb;have h2:=JzY hb;have hw:IntKind.i32.wrap ((b % 64:Nat):Int)=((b % 64:Nat):Int):=IntWalk.i32_in _ ⟨by omega,by omega⟩;rw[decide_eq_true hlt,Bool.true_and];by_cases h:b / 64=2
  ·rw[decide_eq_true h] at h1;rw[if_pos (decide_eq_true h),decide_eq_true h];simp -implicitDefEqProofs (disch:=omega) only[Wz,seval,inV,hq,h1,h2,hw];exact JH (Jg (Ja (.lit _)) (Jg (Ja (.lit _)) Jz))
  ·rw[decide_eq_false h] at h1;rw[if_neg (by rw[decide_eq_false h];decide),decide_eq_false h];simp -implicitDefEqProofs (disch:=omega) only[Wz,seval,inV,hq,h1,h2,hw];exact JH (Jg (Ja (.lit _)) (Jg (Ja (.lit _)) Jz))
 ·rw[decide_eq_false (by omega),Bool.false_and,if_neg (by decide)];simp -implicitDefEqProofs (disch:=omega) only[Wz,seval,inV];exact JH (Jg (Ja (.lit _)) (Jg (Ja (.lit _)) Jz))
def Jdm (s:ByteArray)(i x0:Nat):Nat->Nat
 | 0=>x0
 | k+1=>Jdm s i x0 k * 64+bt s (i+(k+1)) % 64
def Jkk (s:ByteArray)(i:Nat):Nat->Bool
 | 0=>true
 | k+1=>Jkk s i k && nbB s (i+(k+1))
theorem JiF{s:ByteArray}{i:Nat}:∀ {k j:Nat},nbB s (i+(j+1))=false->j<k->Jkk s i k=false
 | k+1,j,h,hj=>by
  simp only[Jkk,Bool.and_eq_false_iff];rcases Nat.lt_or_ge j k with q | q
  ·exact .inl (JiF h q)
  ·have:j=k:=by omega
   subst this;exact .inr h
def JpT (n c x least:Nat):Bool:=(decide (n=1) && decide (128<=c)) || (decide (x<least) || (decide (1114111<x) || (decide (55296<=x) && decide (x<=57343))))
def rU (s:ByteArray)(i n x0 least:Nat):Nat × Nat :=
 if Jkk s i (n - 1) then (if JpT n (bt s i) (Jdm s i x0 (n - 1)) least then (1114112+bt s i,1) else (Jdm s i x0 (n - 1),n)) else (1114112+bt s i,1)
theorem Jq8(L:List (Nat × List Value))(l:List UInt8)(f:Bool)(i:Nat)(hl:l.length<=1000000000)(hi:i<l.length)(h0:192<=bt (ofB l) i)(h9:bt (ofB l) i<224) :
    JO Tryz.prog 15 [inV L l f,.lit (.int .i64 (i:Int))] (.tup [.lit (.int .i32 ((rU (ofB l) i 2 (bt (ofB l) i % 32) 128).1:Int)),.lit (.int .i64 ((rU (ofB l) i 2 (bt (ofB l) i % 32) 128).2:Int))]):=by
  refine JD (Jr Tryz.func15 rfl Tryz.ntmps15 (rs:=[.tmp 4,.tmp 5]) rfl (by simp) ?_);have hq:=byQ l i;have hpx:=JaC L l f;have hnx:=fun k hk=>Jk9 L l f k hl hk
  have hrU:rU (ofB l) i 2 (bt (ofB l) i % 32) 128=if Jkk (ofB l) i (2 - 1) then (if JpT 2 (bt (ofB l) i) (Jdm (ofB l) i (bt (ofB l) i % 32) (2 - 1)) 128 then (1114112+bt (ofB l) i,1) else (Jdm (ofB l) i (bt (ofB l) i % 32) (2 - 1),2)) else (1114112+bt (ofB l) i,1):=rfl
  unfold inV at hpx hnx ⊢;generalize hs:ofB l=s at hq hnx hrU h0 h9 ⊢;generalize hb:bt s i=b at hq hrU h0 h9 ⊢;have ha:=JzZ (b:=b) (by omega);have hw:IntKind.i32.wrap (b:Int)=(b:Int):=IntWalk.i32_in _ ⟨by omega,by omega⟩;have hwb:IntKind.i32.wrap ((1114112+b:Nat):Int)=((1114112+b:Nat):Int):=IntWalk.i32_in _ ⟨by omega,by omega⟩;have hcast:(1114112+(b:Int))=((1114112+b:Nat):Int):=by omega
  refine Jk ?_;simp -implicitDefEqProofs (disch:=omega) only[Wz,seval,hq,hw,ha];have hacc:∀ k,k<=2 - 1->Jdm s i (b % 32) k<32 * 64 ^ k:=by
    intro k;induction k with
    | zero=>intro _;show b % 32<_;omega
    | succ k ih=>intro hk;have:=ih (by omega);show Jdm s i (b % 32) k * 64+bt s (i+(k+1)) % 64<_;rw[Nat.pow_succ];omega
  have hacc2:∀ k,k<=2 - 1->Jdm s i (b % 32) k<4000000:=fun k hk=>by
    have:=hacc k hk;have h2:64 ^ k<=64 ^ (2 - 1):=Nat.pow_le_pow_right (by omega) hk;have h3:=Nat.mul_le_mul_left 32 h2;have h4:32 * 64 ^ (2 - 1)<=4000000:=by decide
    omega
  have hacc3:∀ k,k<2 - 1->Jdm s i (b % 32) k<1000000:=fun k hk=>by
    have:=hacc k (by omega);have h2:64 ^ k<=64 ^ (2 - 2):=Nat.pow_le_pow_right (by omega) (by omega);have h3:=Nat.mul_le_mul_left 32 h2;have h4:32 * 64 ^ (2 - 2)<=1000000:=by decide
    omega
  refine Jp (fun k:Nat=>⟨[(0,.wit L (.vec (l.map JaN) f)),(1,.lit (.int .i64 (i:Int))),(6,.lit (.int .i32 (b:Int))),(7,.lit (.int .i64 2)),(8,.lit (.int .i32 (Jdm s i (b % 32) k:Int))),(9,.lit (.int .i32 128)),(10,.lit (.int .i64 ((k+1:Nat):Int)))],.none,99⟩) (fun k=>k<=2 - 1/\Jkk s i k=true) (fun k=>2 - k) 0 (Jj (by simp[lk,Jdm]) (fun _ _ e=>e) (fun _ _ e=>e) rfl rfl) ⟨by omega,rfl⟩ ?_;rintro k ⟨hk,hall⟩;refine Jk ?_;rcases Nat.lt_or_ge k (2 - 1) with hlt | hge
  · have hki:(i:Int)+((k+1:Nat):Int)=((i+(k+1):Nat):Int):=by omega
    have hwi:IntKind.i64.wrap ((i+(k+1):Nat):Int)=((i+(k+1):Nat):Int):=Jdi (by omega) (by omega);simp -implicitDefEqProofs (disch:=omega) only[Wz,seval,hki,hwi];refine Jf Jok (hnx _ (by omega)) (Jb hpx (Jb (.lit _) Jl)) (.tup (Jb (.lit _) (Jb (.lit _) Jl))) ?_;have hnv:nbV s (i+(k+1))=if nbB s (i+(k+1)) then bt s (i+(k+1)) % 64 else 0:=rfl
    cases hn:nbB s (i+(k+1)) with
    | false =>
      rw[hrU,if_neg (by rw[JiF hn hlt];decide)];simp -implicitDefEqProofs (disch:=omega) only[Wz,seval,hwb,hcast];exact JH (Jg (Ja (.lit _)) (Jg (Ja (.lit _)) Jz))
    | true =>
      rw[hn,if_pos rfl] at hnv;have hx3:=hacc3 k hlt;have hs6:=Jzz hx3;have hs6b:=Jtq hx3;have ho6:=or6 hx3 (y:=nbV s (i+(k+1))) (by rw[hnv];omega);have hk1:IntKind.i64.wrap (((k+1:Nat):Int)+1)=((k+1+1:Nat):Int):=Jdi (by omega) (by omega);simp -implicitDefEqProofs (disch:=omega) only[Wz,seval,hs6,hs6b,ho6,hk1];refine⟨k+1,⟨by omega,?_⟩,by omega,?_⟩
      · simp only[Jkk,hall,hn,Bool.and_self]
      · refine Jj ?_ (fun _ _ e=>e) (fun _ _ e=>e) rfl rfl
        have e:Jdm s i (b % 32) k * 64+nbV s (i+(k+1))=Jdm s i (b % 32) (k+1):=by rw[hnv];rfl
        rw[e];simp[lk]
  · have hke:k=2 - 1:=by omega
    subst hke;rw[hrU,if_pos hall];have hx:=hacc2 _ (Nat.le_refl _);generalize Jdm s i (b % 32) (2 - 1)=x at hx ⊢;unfold JpT;by_cases h1:x<128
    · rw[if_pos (by simp only[decide_eq_true h1,Bool.true_or,Bool.or_true])]
      simp -implicitDefEqProofs (disch:=omega) only[Wz,seval,hwb,hcast];exact JH (Jg (Ja (.lit _)) (Jg (Ja (.lit _)) Jz))
    by_cases h2:1114111<x
    · rw[if_pos (by simp only[decide_eq_true h2,Bool.true_or,Bool.or_true])]
      simp -implicitDefEqProofs (disch:=omega) only[Wz,seval,hwb,hcast];exact JH (Jg (Ja (.lit _)) (Jg (Ja (.lit _)) Jz))
    by_cases h3:55296<=x
    · by_cases h4:x<=57343
      · rw[if_pos (by simp only[decide_eq_true h3,decide_eq_true h4,Bool.and_self,Bool.or_true])]
        first
        | (exfalso;omega)
        | (simp -implicitDefEqProofs (disch:=omega) only[Wz,seval,hwb,hcast]
           exact JH (Jg (Ja (.lit _)) (Jg (Ja (.lit _)) Jz)))
      · rw[if_neg (by simp only[decide_eq_false h1,decide_eq_false h2,decide_eq_false h4];simp)]
        first
        | (exfalso;omega)
        | (simp -implicitDefEqProofs (disch:=omega) only[Wz,seval,hwb,hcast]
           exact JH (Jg (Ja (.lit _)) (Jg (Ja (.lit _)) Jz)))
    · rw[if_neg (by simp only[decide_eq_false h1,decide_eq_false h2,decide_eq_false h3];simp)]
      first
      | (exfalso;omega)
      | (simp -implicitDefEqProofs (disch:=omega) only[Wz,seval,hwb,hcast]
         exact JH (Jg (Ja (.lit _)) (Jg (Ja (.lit _)) Jz)))
theorem Jq9(L:List (Nat × List Value))(l:List UInt8)(f:Bool)(i:Nat)(hl:l.length<=1000000000)(hi:i<l.length)(h0:224<=bt (ofB l) i)(h9:bt (ofB l) i<240) :
    JO Tryz.prog 15 [inV L l f,.lit (.int .i64 (i:Int))] (.tup [.lit (.int .i32 ((rU (ofB l) i 3 (bt (ofB l) i % 16) 2048).1:Int)),.lit (.int .i64 ((rU (ofB l) i 3 (bt (ofB l) i % 16) 2048).2:Int))]):=by
  refine JD (Jr Tryz.func15 rfl Tryz.ntmps15 (rs:=[.tmp 4,.tmp 5]) rfl (by simp) ?_);have hq:=byQ l i;have hpx:=JaC L l f;have hnx:=fun k hk=>Jk9 L l f k hl hk
  have hrU:rU (ofB l) i 3 (bt (ofB l) i % 16) 2048=if Jkk (ofB l) i (3 - 1) then (if JpT 3 (bt (ofB l) i) (Jdm (ofB l) i (bt (ofB l) i % 16) (3 - 1)) 2048 then (1114112+bt (ofB l) i,1) else (Jdm (ofB l) i (bt (ofB l) i % 16) (3 - 1),3)) else (1114112+bt (ofB l) i,1):=rfl
  unfold inV at hpx hnx ⊢;generalize hs:ofB l=s at hq hnx hrU h0 h9 ⊢;generalize hb:bt s i=b at hq hrU h0 h9 ⊢;have ha:=Jz0 (b:=b) (by omega);have hw:IntKind.i32.wrap (b:Int)=(b:Int):=IntWalk.i32_in _ ⟨by omega,by omega⟩;have hwb:IntKind.i32.wrap ((1114112+b:Nat):Int)=((1114112+b:Nat):Int):=IntWalk.i32_in _ ⟨by omega,by omega⟩;have hcast:(1114112+(b:Int))=((1114112+b:Nat):Int):=by omega
  refine Jk ?_;simp -implicitDefEqProofs (disch:=omega) only[Wz,seval,hq,hw,ha];have hacc:∀ k,k<=3 - 1->Jdm s i (b % 16) k<16 * 64 ^ k:=by
    intro k;induction k with
    | zero=>intro _;show b % 16<_;omega
    | succ k ih=>intro hk;have:=ih (by omega);show Jdm s i (b % 16) k * 64+bt s (i+(k+1)) % 64<_;rw[Nat.pow_succ];omega
  have hacc2:∀ k,k<=3 - 1->Jdm s i (b % 16) k<4000000:=fun k hk=>by
    have:=hacc k hk;have h2:64 ^ k<=64 ^ (3 - 1):=Nat.pow_le_pow_right (by omega) hk;have h3:=Nat.mul_le_mul_left 16 h2;have h4:16 * 64 ^ (3 - 1)<=4000000:=by decide
    omega
  have hacc3:∀ k,k<3 - 1->Jdm s i (b % 16) k<1000000:=fun k hk=>by
    have:=hacc k (by omega);have h2:64 ^ k<=64 ^ (3 - 2):=Nat.pow_le_pow_right (by omega) (by omega);have h3:=Nat.mul_le_mul_left 16 h2;have h4:16 * 64 ^ (3 - 2)<=1000000:=by decide
    omega
  refine Jp (fun k:Nat=>⟨[(0,.wit L (.vec (l.map JaN) f)),(1,.lit (.int .i64 (i:Int))),(6,.lit (.int .i32 (b:Int))),(7,.lit (.int .i64 3)),(8,.lit (.int .i32 (Jdm s i (b % 16) k:Int))),(9,.lit (.int .i32 2048)),(10,.lit (.int .i64 ((k+1:Nat):Int)))],.none,99⟩) (fun k=>k<=3 - 1/\Jkk s i k=true) (fun k=>3 - k) 0 (Jj (by simp[lk,Jdm]) (fun _ _ e=>e) (fun _ _ e=>e) rfl rfl) ⟨by omega,rfl⟩ ?_;rintro k ⟨hk,hall⟩;refine Jk ?_;rcases Nat.lt_or_ge k (3 - 1) with hlt | hge
  · have hki:(i:Int)+((k+1:Nat):Int)=((i+(k+1):Nat):Int):=by omega
    have hwi:IntKind.i64.wrap ((i+(k+1):Nat):Int)=((i+(k+1):Nat):Int):=Jdi (by omega) (by omega);simp -implicitDefEqProofs (disch:=omega) only[Wz,seval,hki,hwi];refine Jf Jok (hnx _ (by omega)) (Jb hpx (Jb (.lit _) Jl)) (.tup (Jb (.lit _) (Jb (.lit _) Jl))) ?_;have hnv:nbV s (i+(k+1))=if nbB s (i+(k+1)) then bt s (i+(k+1)) % 64 else 0:=rfl
    cases hn:nbB s (i+(k+1)) with
    | false =>
      rw[hrU,if_neg (by rw[JiF hn hlt];decide)];simp -implicitDefEqProofs (disch:=omega) only[Wz,seval,hwb,hcast];exact JH (Jg (Ja (.lit _)) (Jg (Ja (.lit _)) Jz))
    | true =>
      rw[hn,if_pos rfl] at hnv;have hx3:=hacc3 k hlt;have hs6:=Jzz hx3;have hs6b:=Jtq hx3;have ho6:=or6 hx3 (y:=nbV s (i+(k+1))) (by rw[hnv];omega);have hk1:IntKind.i64.wrap (((k+1:Nat):Int)+1)=((k+1+1:Nat):Int):=Jdi (by omega) (by omega);simp -implicitDefEqProofs (disch:=omega) only[Wz,seval,hs6,hs6b,ho6,hk1];refine⟨k+1,⟨by omega,?_⟩,by omega,?_⟩
      · simp only[Jkk,hall,hn,Bool.and_self]
      · refine Jj ?_ (fun _ _ e=>e) (fun _ _ e=>e) rfl rfl
        have e:Jdm s i (b % 16) k * 64+nbV s (i+(k+1))=Jdm s i (b % 16) (k+1):=by rw[hnv];rfl
        rw[e];simp[lk]
  · have hke:k=3 - 1:=by omega
    subst hke;rw[hrU,if_pos hall];have hx:=hacc2 _ (Nat.le_refl _);generalize Jdm s i (b % 16) (3 - 1)=x at hx ⊢;unfold JpT;by_cases h1:x<2048
    · rw[if_pos (by simp only[decide_eq_true h1,Bool.true_or,Bool.or_true])]
      simp -implicitDefEqProofs (disch:=omega) only[Wz,seval,hwb,hcast];exact JH (Jg (Ja (.lit _)) (Jg (Ja (.lit _)) Jz))
    by_cases h2:1114111<x
    · rw[if_pos (by simp only[decide_eq_true h2,Bool.true_or,Bool.or_true])]
      simp -implicitDefEqProofs (disch:=omega) only[Wz,seval,hwb,hcast];exact JH (Jg (Ja (.lit _)) (Jg (Ja (.lit _)) Jz))
    by_cases h3:55296<=x
    · by_cases h4:x<=57343
      · rw[if_pos (by simp only[decide_eq_true h3,decide_eq_true h4,Bool.and_self,Bool.or_true])]
        first
        | (exfalso;omega)
        | (simp -implicitDefEqProofs (disch:=omega) only[Wz,seval,hwb,hcast]
           exact JH (Jg (Ja (.lit _)) (Jg (Ja (.lit _)) Jz)))
      · rw[if_neg (by simp only[decide_eq_false h1,decide_eq_false h2,decide_eq_false h4];simp)]
        first
        | (exfalso;omega)
        | (simp -implicitDefEqProofs (disch:=omega) only[Wz,seval,hwb,hcast]
           exact JH (Jg (Ja (.lit _)) (Jg (Ja (.lit _)) Jz)))
    · rw[if_neg (by simp only[decide_eq_false h1,decide_eq_false h2,decide_eq_false h3];simp)]
      first
      | (exfalso;omega)
      | (simp -implicitDefEqProofs (disch:=omega) only[Wz,seval,hwb,hcast]
         exact JH (Jg (Ja (.lit _)) (Jg (Ja (.lit _)) Jz)))
theorem Jra(L:List (Nat × List Value))(l:List UInt8)(f:Bool)(i:Nat)(hl:l.length<=1000000000)(hi:i<l.length)(h0:240<=bt (ofB l) i)(h9:bt (ofB l) i<248) :
    JO Tryz.prog 15 [inV L l f,.lit (.int .i64 (i:Int))] (.tup [.lit (.int .i32 ((rU (ofB l) i 4 (bt (ofB l) i % 8) 65536).1:Int)),.lit (.int .i64 ((rU (ofB l) i 4 (bt (ofB l) i % 8) 65536).2:Int))]):=by
  refine JD (Jr Tryz.func15 rfl Tryz.ntmps15 (rs:=[.tmp 4,.tmp 5]) rfl (by simp) ?_);have hq:=byQ l i;have hpx:=JaC L l f;have hnx:=fun k hk=>Jk9 L l f k hl hk
  have hrU:rU (ofB l) i 4 (bt (ofB l) i % 8) 65536=if Jkk (ofB l) i (4 - 1) then (if JpT 4 (bt (ofB l) i) (Jdm (ofB l) i (bt (ofB l) i % 8) (4 - 1)) 65536 then (1114112+bt (ofB l) i,1) else (Jdm (ofB l) i (bt (ofB l) i % 8) (4 - 1),4)) else (1114112+bt (ofB l) i,1):=rfl
  unfold inV at hpx hnx ⊢;generalize hs:ofB l=s at hq hnx hrU h0 h9 ⊢;generalize hb:bt s i=b at hq hrU h0 h9 ⊢;have ha:=JB4 (b:=b) (by omega);have hw:IntKind.i32.wrap (b:Int)=(b:Int):=IntWalk.i32_in _ ⟨by omega,by omega⟩;have hwb:IntKind.i32.wrap ((1114112+b:Nat):Int)=((1114112+b:Nat):Int):=IntWalk.i32_in _ ⟨by omega,by omega⟩;have hcast:(1114112+(b:Int))=((1114112+b:Nat):Int):=by omega
  refine Jk ?_;simp -implicitDefEqProofs (disch:=omega) only[Wz,seval,hq,hw,ha];have hacc:∀ k,k<=4 - 1->Jdm s i (b % 8) k<8 * 64 ^ k:=by
    intro k;induction k with
    | zero=>intro _;show b % 8<_;omega
    | succ k ih=>intro hk;have:=ih (by omega);show Jdm s i (b % 8) k * 64+bt s (i+(k+1)) % 64<_;rw[Nat.pow_succ];omega
  have hacc2:∀ k,k<=4 - 1->Jdm s i (b % 8) k<4000000:=fun k hk=>by
    have:=hacc k hk;have h2:64 ^ k<=64 ^ (4 - 1):=Nat.pow_le_pow_right (by omega) hk;have h3:=Nat.mul_le_mul_left 8 h2;have h4:8 * 64 ^ (4 - 1)<=4000000:=by decide
    omega
  have hacc3:∀ k,k<4 - 1->Jdm s i (b % 8) k<1000000:=fun k hk=>by
    have:=hacc k (by omega);have h2:64 ^ k<=64 ^ (4 - 2):=Nat.pow_le_pow_right (by omega) (by omega);have h3:=Nat.mul_le_mul_left 8 h2;have h4:8 * 64 ^ (4 - 2)<=1000000:=by decide
    omega
  refine Jp (fun k:Nat=>⟨[(0,.wit L (.vec (l.map JaN) f)),(1,.lit (.int .i64 (i:Int))),(6,.lit (.int .i32 (b:Int))),(7,.lit (.int .i64 4)),(8,.lit (.int .i32 (Jdm s i (b % 8) k:Int))),(9,.lit (.int .i32 65536)),(10,.lit (.int .i64 ((k+1:Nat):Int)))],.none,99⟩) (fun k=>k<=4 - 1/\Jkk s i k=true) (fun k=>4 - k) 0 (Jj (by simp[lk,Jdm]) (fun _ _ e=>e) (fun _ _ e=>e) rfl rfl) ⟨by omega,rfl⟩ ?_;rintro k ⟨hk,hall⟩;refine Jk ?_;rcases Nat.lt_or_ge k (4 - 1) with hlt | hge
  · have hki:(i:Int)+((k+1:Nat):Int)=((i+(k+1):Nat):Int):=by omega
    have hwi:IntKind.i64.wrap ((i+(k+1):Nat):Int)=((i+(k+1):Nat):Int):=Jdi (by omega) (by omega);simp -implicitDefEqProofs (disch:=omega) only[Wz,seval,hki,hwi];refine Jf Jok (hnx _ (by omega)) (Jb hpx (Jb (.lit _) Jl)) (.tup (Jb (.lit _) (Jb (.lit _) Jl))) ?_;have hnv:nbV s (i+(k+1))=if nbB s (i+(k+1)) then bt s (i+(k+1)) % 64 else 0:=rfl
    cases hn:nbB s (i+(k+1)) with
    | false =>
      rw[hrU,if_neg (by rw[JiF hn hlt];decide)];simp -implicitDefEqProofs (disch:=omega) only[Wz,seval,hwb,hcast];exact JH (Jg (Ja (.lit _)) (Jg (Ja (.lit _)) Jz))
    | true =>
      rw[hn,if_pos rfl] at hnv;have hx3:=hacc3 k hlt;have hs6:=Jzz hx3;have hs6b:=Jtq hx3;have ho6:=or6 hx3 (y:=nbV s (i+(k+1))) (by rw[hnv];omega);have hk1:IntKind.i64.wrap (((k+1:Nat):Int)+1)=((k+1+1:Nat):Int):=Jdi (by omega) (by omega);simp -implicitDefEqProofs (disch:=omega) only[Wz,seval,hs6,hs6b,ho6,hk1];refine⟨k+1,⟨by omega,?_⟩,by omega,?_⟩
      · simp only[Jkk,hall,hn,Bool.and_self]
      · refine Jj ?_ (fun _ _ e=>e) (fun _ _ e=>e) rfl rfl
        have e:Jdm s i (b % 8) k * 64+nbV s (i+(k+1))=Jdm s i (b % 8) (k+1):=by rw[hnv];rfl
        rw[e];simp[lk]
  · have hke:k=4 - 1:=by omega
    subst hke;rw[hrU,if_pos hall];have hx:=hacc2 _ (Nat.le_refl _);generalize Jdm s i (b % 8) (4 - 1)=x at hx ⊢;unfold JpT;by_cases h1:x<65536
    · rw[if_pos (by simp only[decide_eq_true h1,Bool.true_or,Bool.or_true])]
      simp -implicitDefEqProofs (disch:=omega) only[Wz,seval,hwb,hcast];exact JH (Jg (Ja (.lit _)) (Jg (Ja (.lit _)) Jz))
    by_cases h2:1114111<x
    · rw[if_pos (by simp only[decide_eq_true h2,Bool.true_or,Bool.or_true])]
      simp -implicitDefEqProofs (disch:=omega) only[Wz,seval,hwb,hcast];exact JH (Jg (Ja (.lit _)) (Jg (Ja (.lit _)) Jz))
    by_cases h3:55296<=x
    · by_cases h4:x<=57343
      · rw[if_pos (by simp only[decide_eq_true h3,decide_eq_true h4,Bool.and_self,Bool.or_true])]
        first
        | (exfalso;omega)
        | (simp -implicitDefEqProofs (disch:=omega) only[Wz,seval,hwb,hcast]
           exact JH (Jg (Ja (.lit _)) (Jg (Ja (.lit _)) Jz)))
      · rw[if_neg (by simp only[decide_eq_false h1,decide_eq_false h2,decide_eq_false h4];simp)]
        first
        | (exfalso;omega)
        | (simp -implicitDefEqProofs (disch:=omega) only[Wz,seval,hwb,hcast]
           exact JH (Jg (Ja (.lit _)) (Jg (Ja (.lit _)) Jz)))
    · rw[if_neg (by simp only[decide_eq_false h1,decide_eq_false h2,decide_eq_false h3];simp)]
      first
      | (exfalso;omega)
      | (simp -implicitDefEqProofs (disch:=omega) only[Wz,seval,hwb,hcast]
         exact JH (Jg (Ja (.lit _)) (Jg (Ja (.lit _)) Jz)))
end Go.Proofs.Y
end
section
namespace Go.Proofs.Y
open Go Go.Ab
theorem Jrb(L:List (Nat × List Value))(l:List UInt8)(f:Bool)(i:Nat)(hl:l.length<=1000000000)(hi:i<l.length)(h0:bt (ofB l) i<192\/248<=bt (ofB l) i) :
  JO Tryz.prog 15 [inV L l f,.lit (.int .i64 (i:Int))] (.tup [.lit (.int .i32 (((if 128<=bt (ofB l) i then 1114112+bt (ofB l) i else bt (ofB l) i):Nat):Int)),.lit (.int .i64 1)]):=by
 refine JD (Jr Tryz.func15 rfl Tryz.ntmps15 (rs:=[.tmp 4,.tmp 5]) rfl (by simp) ?_);have hq:=byQ l i;have hb9:=Jer (ofB l) i;generalize ofB l=s at hq h0 hb9 ⊢;generalize hb:bt s i=b at hq h0 hb9 ⊢;have hw:IntKind.i32.wrap (b:Int)=(b:Int):=IntWalk.i32_in _ ⟨by omega,by omega⟩;have hwb:IntKind.i32.wrap ((1114112+b:Nat):Int)=((1114112+b:Nat):Int):=IntWalk.i32_in _ ⟨by omega,by omega⟩;have hcast:(1114112+(b:Int))=((1114112+b:Nat):Int):=by omega
 obtain⟨v,hv⟩:∃ v:Nat,(if 128<=b then 1114112+b else b)=v:=⟨_,rfl⟩;rw[hv];refine Jk ?_;unfold inV;rcases h0 with h0 | h0
 ·simp -implicitDefEqProofs (disch:=omega) only[Wz,seval,hq,hw];refine Jp (A:=Unit) (fun _=>⟨[(6,.lit (.int .i32 (b:Int))),(7,.lit (.int .i64 1)),(8,.lit (.int .i32 (b:Int))),(9,.lit (.int .i32 0)),(10,.lit (.int .i64 1))],.none,99⟩) (fun _=>True) (fun _=>0) () (Jj (by simp[lk]) (fun _ _ e=>e) (fun _ _ e=>e) rfl rfl) trivial ?_;rintro _ _;refine Jk ?_;by_cases h1:128<=b
  ·rw[if_pos h1] at hv;subst hv;simp -implicitDefEqProofs (disch:=omega) only[Wz,seval,hwb,hcast];exact JH (Jg (Ja (.lit _)) (Jg (Ja (.lit _)) Jz))
  ·rw[if_neg h1] at hv;subst hv;simp -implicitDefEqProofs (disch:=omega) only[Wz,seval,hwb,hcast];exact JH (Jg (Ja (.lit _)) (Jg (Ja (.lit _)) Jz))
 ·simp -implicitDefEqProofs (disch:=omega) only[Wz,seval,hq,hw];refine Jp (A:=Unit) (fun _=>⟨[(6,.lit (.int .i32 (b:Int))),(7,.lit (.int .i64 1)),(8,.lit (.int .i32 (b:Int))),(9,.lit (.int .i32 0)),(10,.lit (.int .i64 1))],.none,99⟩) (fun _=>True) (fun _=>0) () (Jj (by simp[lk]) (fun _ _ e=>e) (fun _ _ e=>e) rfl rfl) trivial ?_;rintro _ _;refine Jk ?_;rw[if_pos (by omega)] at hv;subst hv;simp -implicitDefEqProofs (disch:=omega) only[Wz,seval,hwb,hcast];exact JH (Jg (Ja (.lit _)) (Jg (Ja (.lit _)) Jz))
theorem rU2{s:ByteArray}{i:Nat}(hi:i<s.size)(h0:192<=bt s i)(h9:bt s i<224):rU s i 2 (bt s i % 32) 128=uV s i:=by
 have h1:=Jer s (i+1);unfold rU uV dcV Lib.decodeN JpT;simp only[Jkk,Jdm,nbB,Bool.true_and];generalize bt s i=b at h0 h9 ⊢;generalize bt s (i+1)=b1 at h1 ⊢;generalize bt s (i+2)=b2;generalize bt s (i+3)=b3;simp only[Bool.and_eq_true,Bool.or_eq_true,decide_eq_true_eq];repeat' split
 all_goals first | (exfalso;omega) | (simp only[Prod.mk.injEq,and_true,true_and];done) | (apply Prod.ext <;> simp only <;> omega)
theorem rU3{s:ByteArray}{i:Nat}(hi:i<s.size)(h0:224<=bt s i)(h9:bt s i<240):rU s i 3 (bt s i % 16) 2048=uV s i:=by
 have h1:=Jer s (i+1);have h2:=Jer s (i+2);unfold rU uV dcV Lib.decodeN JpT;simp only[Jkk,Jdm,nbB,Bool.true_and];generalize bt s i=b at h0 h9 ⊢;generalize bt s (i+1)=b1 at h1 ⊢;generalize bt s (i+2)=b2 at h2 ⊢;generalize bt s (i+3)=b3;simp only[Bool.and_eq_true,Bool.or_eq_true,decide_eq_true_eq];repeat' split
 all_goals first | (exfalso;omega) | (simp only[Prod.mk.injEq,and_true,true_and];done) | (apply Prod.ext <;> simp only <;> omega)
theorem rU4{s:ByteArray}{i:Nat}(hi:i<s.size)(h0:240<=bt s i)(h9:bt s i<248):rU s i 4 (bt s i % 8) 65536=uV s i:=by
 have h1:=Jer s (i+1);have h2:=Jer s (i+2);have h3:=Jer s (i+3);unfold rU uV dcV Lib.decodeN JpT;simp only[Jkk,Jdm,nbB,Bool.true_and];generalize bt s i=b at h0 h9 ⊢;generalize bt s (i+1)=b1 at h1 ⊢;generalize bt s (i+2)=b2 at h2 ⊢;generalize bt s (i+3)=b3 at h3 ⊢;simp only[Bool.and_eq_true,Bool.or_eq_true,decide_eq_true_eq];repeat' split
 all_goals first | (exfalso;omega) | (simp only[Prod.mk.injEq,and_true,true_and];done) | (apply Prod.ext <;> simp only <;> omega)
theorem rU1{s:ByteArray}{i:Nat}(h0:bt s i<192\/248<=bt s i):uV s i=(if 128<=bt s i then 1114112+bt s i else bt s i,1):=by
 have hb:=Jer s i;unfold uV dcV Lib.decodeN;generalize bt s i=b at h0 hb ⊢;generalize bt s (i+1)=b1;generalize bt s (i+2)=b2;generalize bt s (i+3)=b3;repeat' split
 all_goals first | (exfalso;omega) | (apply Prod.ext <;> simp only <;> omega)
theorem Jm7(L:List (Nat × List Value))(l:List UInt8)(f:Bool)(i:Nat)(hl:l.length<=1000000000)(hi:i<l.length) :
  JO Tryz.prog 15 [inV L l f,.lit (.int .i64 (i:Int))] (.tup [.lit (.int .i32 ((uV (ofB l) i).1:Int)),.lit (.int .i64 ((uV (ofB l) i).2:Int))]):=by
 have hs:i<(ofB l).size:=by rw[Ja0];exact hi
 by_cases h1:bt (ofB l) i<192\/248<=bt (ofB l) i
 ·rw[rU1 h1];exact Jrb L l f i hl hi h1
 by_cases h2:bt (ofB l) i<224
 ·rw[<- rU2 hs (by omega) h2];exact Jq8 L l f i hl hi (by omega) h2
 by_cases h3:bt (ofB l) i<240
 ·rw[<- rU3 hs (by omega) h3];exact Jq9 L l f i hl hi (by omega) h3
 ·rw[<- rU4 hs (by omega) (by omega)];exact Jra L l f i hl hi (by omega) (by omega)
end Go.Proofs.Y
end
section
namespace Go.Proofs.Y
open Go Go.Ab
def Jla (u:Un):List AV:=[.lit (.int .i64 (u.pos:Int))]
def Jl4 (u:Un):List AV:=[.lit (.int .i32 u.x)]
def Jnw (u:Un):List AV:=[.lit (.int .i64 (u.col:Int))]
theorem Jj6(u:Un):∀ c∈Jla u,Ab.Pure c:=Jap (by simp[Jla])
theorem Jj7(u:Un):∀ c∈Jl4 u,Ab.Pure c:=Jap (by simp[Jl4])
theorem Jj8(u:Un):∀ c∈Jnw u,Ab.Pure c:=Jap (by simp[Jnw])
def hdV (L:List (Nat × List Value))(l:List UInt8)(f:Bool)(X:List Un):List AV:=[inV L l f,.vec (X.map Jla) false,.vec (X.map Jl4) false,.vec (X.map Jnw) false]
theorem Jrc(L:List (Nat × List Value))(l:List UInt8)(f:Bool)(X:List Un):∀ c∈hdV L l f X,Ab.Pure c :=
 Jb (JaC _ _ _) (Jb (.vec (Ji Jj6 _)) (Jb (.vec (Ji Jj7 _)) (Jb (.vec (Ji Jj8 _)) Jl)))
def hdQ (W:AV)(q:Bool)(n:Nat):List AV:=if q then [W,.own 2 n,.own 3 n,.own 4 n] else [W,.vec [] true,.vec [] true,.vec [] true]
def hdT (q:Bool)(X:List Un):List (Nat × Tk):=if q then [(2,⟨X.map Jla,0,1⟩),(3,⟨X.map Jl4,0,1⟩),(4,⟨X.map Jnw,0,1⟩)] else []
theorem Jlb(L:List (Nat × List Value))(l:List UInt8)(f:Bool)(hl:l.length<=1000):JO Tryz.prog 46 [inV L l f] (.agg (hdV L l f (Jbf (ofB l)))):=by
 refine JD (Jr Tryz.func46 rfl Tryz.ntmps46 (rs:=[.cell 2 108]) rfl (by simp) ?_);have hsz:=Ja0 l;have hatA:=fun p hp=>Jm7 L l f p (by omega) hp
 have hpure:=JaC L l f;unfold hdV;unfold inV at hatA hpure ⊢;obtain⟨s,hs⟩:∃ s,ofB l=s:=⟨_,rfl⟩;rw[hs] at hsz hatA ⊢;obtain⟨W,hW⟩:∃ W:AV,.wit L (.vec (l.map JaN) f)=W:=⟨_,rfl⟩;have hu:unw W = .vec (l.map JaN) f:=by rw[<- hW];rfl
 have hWc:W.cells=some [W]:=by rw[<- hW];rfl
 obtain⟨SS,hSS⟩:∃ SS:Nat × Nat × Bool × List Un->St,∀ p c q X,SS (p,c,q,X)=⟨[(0,.wit L (.vec (l.map JaN) f)),(2,.ptr 0 0),(3,.ptr 1 0),(4,.lit (.int .i64 (c:Int))),(5,.lit (.int .i64 (p:Int)))],⟨[(0,[.vec [] true,.vec [] true,.vec [] true,.vec [] true]),(1,hdQ (.wit L (.vec (l.map JaN) f)) q X.length)],hdT q X,if q then 5 else 2⟩,64⟩:=⟨fun z=>⟨[(0,.wit L (.vec (l.map JaN) f)),(2,.ptr 0 0),(3,.ptr 1 0),(4,.lit (.int .i64 (z.2.1:Int))),(5,.lit (.int .i64 (z.1:Int)))],⟨[(0,[.vec [] true,.vec [] true,.vec [] true,.vec [] true]),(1,hdQ (.wit L (.vec (l.map JaN) f)) z.2.2.1 z.2.2.2.length)],hdT z.2.2.1 z.2.2.2,if z.2.2.1 then 5 else 2⟩,64⟩,fun _ _ _ _=>rfl⟩;obtain⟨Iv,hIv⟩:∃ Iv:Nat × Nat × Bool × List Un->Prop,∀ p c q X,Iv (p,c,q,X)↔(p<=l.length/\c<=p/\X.length<=p/\(q=false->X=[])/\∃ k,s.size - p<=k/\X++Jes k s p c=Jbf s):=⟨fun z=>z.1<=l.length/\z.2.1<=z.1/\z.2.2.2.length<=z.1/\(z.2.2.1=false->z.2.2.2=[])/\∃ k,s.size - z.1<=k/\z.2.2.2++Jes k s z.1 z.2.1=Jbf s,fun _ _ _ _=>Iff.rfl⟩;have one1:∀ v:AV,(∀ q,q∈[[v]]->q.length=1)=True:=fun v=>by simp
 have nil1:(∀ q:List AV,q∈[]->q.length=1)=True:=by simp
 refine Jk ?_;simp -implicitDefEqProofs (disch:=omega) only[Wz,seval];refine Jp SS Iv (fun z=>l.length - z.1) (0,0,false,[]) (by rw[hSS];exact Jj (by simp[lk]) (fun _ _ e=>e) (fun _ _ e=>e) rfl rfl) ((hIv _ _ _ _).2 ⟨Nat.zero_le _,Nat.le_refl _,Nat.le_refl _,fun _=>rfl,s.size,by omega,rfl⟩) ?_;rintro⟨p,c,q,X⟩ hIx;obtain⟨hp,hc,hX,hq,k,hk,hcut⟩:=(hIv _ _ _ _).1 hIx;rw[hSS];refine Jk ?_;have hf0:Ja4 1 8=True:=eq_true (JM (by decide) (by decide));have hf1:Ja4 (X.length+1) 8=True:=eq_true (JM (by omega) (by omega));have hf2:Ja4 1 4=True:=eq_true (JM (by decide) (by decide));have hf3:Ja4 (X.length+1) 4=True:=eq_true (JM (by omega) (by omega));rcases Nat.lt_or_ge p l.length with hlt | hge
 ·have hat:=hatA p hlt;have hu:=JqM (s:=s) (i:=p) (by rw[hsz];exact hlt);obtain⟨k,rfl⟩:∃ k',k=k'+1:=⟨k - 1,by omega⟩;rw[Jes,if_pos (by omega)] at hcut;obtain⟨x,m,hxm⟩:∃ x m,uV s p=(x,m):=⟨_,_,rfl⟩;rw[hxm] at hat hu hcut;simp only at hat hu hcut;simp -implicitDefEqProofs (disch:=omega) only[Wz,seval];refine Jf JxD hat (Jb hpure (Jb (.lit _) Jl)) (.tup (Jb (.lit _) (Jb (.lit _) Jl))) ?_;have fin:∀ c':Nat,c'<=p+1->(c'=if x=10 then 0 else c+1)->∀ (sl:List (Nat × AV)) (H:Hp),lk sl 0=some (.wit L (.vec (l.map JaN) f))->lk sl 2=some (.ptr 0 0)->lk sl 3=some (.ptr 1 0)->lk sl 4=some (.lit (.int .i64 (c':Int)))->lk sl 5=some (.lit (.int .i64 ((p+m:Nat):Int))) ->
    H=⟨[(0,[.vec [] true,.vec [] true,.vec [] true,.vec [] true]),(1,[.wit L (.vec (l.map JaN) f),.own 2 (X.length+1),.own 3 (X.length+1),.own 4 (X.length+1)])],[(2,⟨X.map Jla++[Jla ⟨x,p,c⟩],0,1⟩),(3,⟨X.map Jl4++[Jl4 ⟨x,p,c⟩],0,1⟩),(4,⟨X.map Jnw++[Jnw ⟨x,p,c⟩],0,1⟩)],5⟩ ->
    ∃ x':Nat × Nat × Bool × List Un,Iv x'/\l.length - x'.1<l.length - p/\St.wk ⟨sl,H,64⟩ (SS x'):=fun c' h1 h2 sl H e0 e2 e3 e4 e5 hT=>by
   refine⟨(p+m,c',true,X++[⟨x,p,c⟩]),(hIv _ _ _ _).2 ⟨by omega,by omega,by simp;omega,fun q=>(by cases q),k,by omega,?_⟩,by show l.length - (p+m)<_;omega,?_⟩
   ·rw[h2,List.append_assoc];exact hcut
   ·subst hT;rw[hSS];exact Jj (Jb e0 (Jb e2 (Jb e3 (Jb e4 (Jb e5 Jl))))) (fun _ _ e=>by simpa [hdQ] using e) (fun _ _ e=>by simpa [hdT] using e) rfl rfl
  have hwc:IntKind.i64.wrap ((c:Int)+1)=((c+1:Nat):Int):=Jdi (by omega) (by omega);have hwp:IntKind.i64.wrap ((p:Int)+(m:Int))=((p+m:Nat):Int):=by rw[<- Int.natCast_add];exact Jdi (by omega) (by omega)
  have go:∀ c':Nat,∀ bx:Bool,((x:Int)==10)=bx->(c'=if bx then 0 else c+1)->c'<=p+1/\(c'=if x=10 then 0 else c+1):=fun c' bx h1 h2=>by
   subst h1;by_cases hx:x=10
   ·rw[if_pos (by rw[Jg4 (by omega)])] at h2;exact⟨by omega,by rw[if_pos hx];exact h2⟩
   ·rw[if_neg (by rw[Jkh (by omega)];decide)] at h2;exact⟨by omega,by rw[if_neg hx];exact h2⟩
  cases hxb:((x:Int)==10) with
  | false =>
   obtain⟨g1,g2⟩:=go (c+1) false hxb rfl;have fin:=fin (c+1) g1 g2;clear go g2;cases q with
   | false =>
    have:=hq rfl;subst this;simp -implicitDefEqProofs (disch:=omega) only[Wz,seval,hdQ,hdT,one1,nil1,hf0,hf2,true_and,if_true,if_false,Bool.false_eq_true,hwc,hwp,hxb];exact fin _ _ rfl rfl rfl rfl rfl rfl
   | true =>
    simp -implicitDefEqProofs (disch:=omega) only[Wz,seval,hdQ,hdT,one1,hf1,hf3,true_and,if_true,hwc,hwp,hxb];exact fin _ _ rfl rfl rfl rfl rfl rfl
  | true =>
   obtain⟨g1,g2⟩:=go 0 true hxb rfl;have fin:=fin 0 g1 g2;clear go g2;cases q with
   | false =>
    have:=hq rfl;subst this;simp -implicitDefEqProofs (disch:=omega) only[Wz,seval,hdQ,hdT,one1,nil1,hf0,hf2,true_and,if_true,if_false,Bool.false_eq_true,hwc,hwp,hxb];exact fin _ _ rfl rfl rfl rfl rfl rfl
   | true =>
    simp -implicitDefEqProofs (disch:=omega) only[Wz,seval,hdQ,hdT,one1,hf1,hf3,true_and,if_true,hwc,hwp,hxb];exact fin _ _ rfl rfl rfl rfl rfl rfl
 ·have hcl:Jbf s=X++[⟨-1,s.size,c⟩]:=by
   rw[<- hcut];cases k with
   | zero=>rfl
   | succ k=>rw[Jes,if_neg (by omega)]
  rw[hcl,hsz];have end3:∀ (h:Hp),lk h.toks 2=some ⟨(X++[(⟨-1,l.length,c⟩:Un)]).map Jla,0,1⟩->lk h.toks 3=some ⟨(X++[(⟨-1,l.length,c⟩:Un)]).map Jl4,0,1⟩->lk h.toks 4=some ⟨(X++[(⟨-1,l.length,c⟩:Un)]).map Jnw,0,1⟩ ->
    JcS h (.agg [.wit L (.vec (l.map JaN) f),.own 2 (X.length+1),.own 3 (X.length+1),.own 4 (X.length+1)]) (.agg [.wit L (.vec (l.map JaN) f),.vec ((X++[(⟨-1,l.length,c⟩:Un)]).map Jla) false,.vec ((X++[(⟨-1,l.length,c⟩:Un)]).map Jl4) false,.vec ((X++[(⟨-1,l.length,c⟩:Un)]).map Jnw) false]):=fun h q1 q2 q3 =>
   Jp2 (Jg (Ja hpure) (Jg (Jbr q1 (by simp) (Ji Jj6 _)) (Jg (Jbr q2 (by simp) (Ji Jj7 _)) (Jg (Jbr q3 (by simp) (Ji Jj8 _)) Jz))))
  cases q with
  | false =>
   have:=hq rfl;subst this;simp -implicitDefEqProofs (disch:=omega) only[Wz,seval,hdQ,hdT,one1,nil1,hf0,hf2,true_and,if_true,if_false,Bool.false_eq_true];exact end3 _ rfl rfl rfl
  | true =>
   simp -implicitDefEqProofs (disch:=omega) only[Wz,seval,hdQ,hdT,one1,hf1,hf3,true_and,if_true];refine end3 _ ?_ ?_ ?_ <;> (rw[List.map_append];rfl)
def ixF (l:List Un)(p:Int)(i:Nat):Int:=match l with | [] => -1 | u :: l=>if (u.pos:Int)=p then (i:Int) else ixF l p (i+1)
theorem Jpr:∀ (l:List Un) (p:Int) (i:Nat),(decide (0<=ixF l p i))=l.any fun u=>decide ((u.pos:Int)=p)
 | [],p,i=>by simp[ixF]
 | u :: l,p,i=>by
  unfold ixF;by_cases h:(u.pos:Int)=p
  ·rw[if_pos h,List.any_cons,decide_eq_true h,decide_eq_true (by omega)];rfl
  ·rw[if_neg h,List.any_cons,decide_eq_false h,Jpr l p (i+1)];rfl
theorem Jr9:∀ (l:List Un) (p:Int) (i:Nat),-1<=ixF l p i
 | [],p,i=>by simp[ixF]
 | u :: l,p,i=>by
  unfold ixF;split
  ·omega
  ·exact Jr9 l p (i+1)
theorem Jm8(L:List (Nat × List Value))(l:List UInt8)(f:Bool)(X:List Un)(p:Int)(hX:X.length<=1000000):JO Tryz.prog 47 [.agg (hdV L l f X),.lit (.int .i64 p)] (.lit (.int .i64 (ixF X p 0))):=by
 refine JD (Jr Tryz.func47 rfl Tryz.ntmps47 (rs:=[.tmp 4]) rfl (by simp) ?_);obtain⟨v,hv⟩:∃ v,ixF X p 0=v:=⟨_,rfl⟩;rw[hv];refine Jk ?_;simp -implicitDefEqProofs (disch:=omega) only[Wz,seval,hdV,inV];refine Jp (fun i:Nat=>⟨[(2,.ptr 0 0),(1,.lit (.int .i64 p)),(5,.lit (.int .i64 (i:Int)))],⟨[(0,hdV L l f X)],[],1⟩,21⟩) (fun i=>i<=X.length/\ixF (X.drop i) p i=v) (fun i=>X.length - i) 0 (Jj (by simp[lk]) (fun _ _ e=>e) (fun _ _ e=>e) rfl rfl) ⟨Nat.zero_le _,by rw[List.drop_zero];exact hv⟩ ?_;rintro i ⟨hi,hiv⟩;refine Jk ?_;rcases Nat.lt_or_ge i X.length with hlt | hge
 ·obtain⟨u,hu⟩:∃ u,X.getD i default=u:=⟨_,rfl⟩;rw[Ja7 hlt,hu] at hiv;unfold ixF at hiv;by_cases hp:(u.pos:Int)=p
  ·rw[if_pos hp] at hiv;subst hiv;have hb:((u.pos:Int)==p)=true:=Jg4 hp;simp -implicitDefEqProofs (disch:=omega) only[Wz,seval,hdV,hu,Jla,hb];exact Ja (.lit _)
  ·rw[if_neg hp] at hiv;have hb:((u.pos:Int)==p)=false:=Jkh hp;simp -implicitDefEqProofs (disch:=omega) only[Wz,seval,hdV,hu,Jla,hb];exact⟨i+1,⟨by omega,hiv⟩,by omega,Jj (by simp[lk]) (fun _ _ e=>e) (fun _ _ e=>e) rfl rfl⟩
 ·have hie:i=X.length:=by omega
  subst hie;rw[List.drop_length] at hiv;have:v = -1:=hiv.symm;subst this;simp -implicitDefEqProofs (disch:=omega) only[Wz,seval,hdV];exact Ja (.lit _)
end Go.Proofs.Y
end
section
namespace Go.Proofs.Y
open Go Go.Ab
open Go.Proofs.Tryz renaming prog->Pg
theorem JfA(c:Int):JO Pg 130 [.lit (.int .u8 c)] (.lit (.bool (Jcl c))):=by
  refine Jm Tryz.func130 rfl Tryz.ntmps130 (rs:=[.tmp 2]) rfl (by simp) ?_;unfold Jcl;by_cases h1:c >= 97 <;> by_cases h2:c<=122 <;> by_cases h3:c >= 65 <;> by_cases h4:c<=90 <;> first
    | omega
    | (simp -implicitDefEqProofs (disch:=omega) only[Wz,seval,Bool.and_true,Bool.true_and,Bool.or_true,Bool.true_or,Bool.false_or,Bool.or_false,Bool.and_false,Bool.false_and]
       exact Ja (.lit _))
theorem Jlc(c:Int):JO Pg 131 [.lit (.int .u8 c)] (.lit (.bool (Jgu c))):=by
  refine Jm Tryz.func131 rfl Tryz.ntmps131 (rs:=[.tmp 2]) rfl (by simp) ?_;unfold Jgu;by_cases h1:c >= 48 <;> by_cases h2:c<=57 <;> first
    | omega
    | (simp -implicitDefEqProofs (disch:=omega) only[Wz,seval,Bool.and_true,Bool.true_and,Bool.or_true,Bool.true_or,Bool.false_or,Bool.or_false,Bool.and_false,Bool.false_and]
       exact Ja (.lit _))
def Jps(s:ByteArray):Bool:=if Jqs s then false else !(JmA.any fun x=>s.toList==x.toList)
def JgX(s:ByteArray)(i:Nat):Bool:=((s.data.toList.drop i).all fun b=>JbZ (b.toNat:Int)) && Jps s
theorem JiG{α:Type}(p:α->Bool)(l:List α):decide ((l.takeWhile p).length<l.length) = !(l.all p):=by
 induction l with
 | nil=>rfl
 | cons x l ih =>
  rw[List.all_cons,List.takeWhile_cons];cases p x with
  | true=>simp only[if_true,List.length_cons,Nat.add_lt_add_iff_right,Bool.true_and];exact ih
  | false=>simp
theorem Jld(s:ByteArray):Jho s=if s.size=0 then false else if s.size > 40 then false else if Jcl (Jc0 s 0)=false then false else JgX s 0:=by
 unfold Jho;split
 ·rfl
 split
 ·rfl
 split
 ·rfl
 have h:=JiG (fun b:UInt8=>JbZ (b.toNat:Int)) s.data.toList;have e:s.data.toList.length=s.size:=by rw[Array.length_toList];rfl
 unfold JgX Jps JcB;rw[List.drop_zero];cases ha:s.data.toList.all fun b=>JbZ (b.toNat:Int) with
 | true =>
  rw[ha,e] at h;have h':¬ (s.data.toList.takeWhile fun b=>JbZ (b.toNat:Int)).length<s.size:=of_decide_eq_false h;rw[if_neg h'];rfl
 | false =>
  rw[ha,e] at h;have h':(s.data.toList.takeWhile fun b=>JbZ (b.toNat:Int)).length<s.size:=of_decide_eq_true h;rw[if_pos h'];rfl
theorem Jm9{s:ByteArray}{i:Nat}(h:i<s.size):JgX s i=(JbZ (Jc0 s i) && JgX s (i+1)):=by
 have h':i<s.data.toList.length:=by rw[Array.length_toList];exact h
 unfold JgX;rw[List.drop_eq_getElem_cons h',List.all_cons,Bool.and_assoc];congr 2
 unfold Jc0;rw[Array.getD_eq_getD_getElem?,Array.getElem?_eq_getElem h];rfl
theorem Jl5{s:ByteArray}{i:Nat}(h:i<s.size):((s[i]).toNat:Int)=Jc0 s i:=by
 unfold Jc0;rw[Array.getD_eq_getD_getElem?,Array.getElem?_eq_getElem (show i<s.data.size from h)];rfl
theorem Jna(s:ByteArray)(hs:s.size<=9000000000000000000):JO Pg 123 [.lit (.string s)] (.lit (.bool (Jho s))):=by
 refine Jm Tryz.func123 rfl Tryz.ntmps123 (rs:=[.tmp 2]) rfl (by simp) ?_;rw[Jld];have fin:∀ h (b:Bool),JcS h (.lit (.bool b)) (.lit (.bool b)):=fun h b=>Ja (.lit _);by_cases h0:s.size=0
 ·simp -implicitDefEqProofs (disch:=omega) only[Wz,seval,JbR];exact fin _ _
 by_cases h1:s.size > 40
 ·simp -implicitDefEqProofs (disch:=omega) only[Wz,seval,JbR];exact fin _ _
 have gb:s[0]? = some s[0]:=getElem?_pos s 0 (by omega);have gb':(s[Int.toNat 0]?)=some s[0]:=gb;simp -implicitDefEqProofs (disch:=omega) only[Wz,seval,JbR,gb',gb];refine Jf JoA (JfA _) (Jb (.lit _) Jl) (.lit _) ?_;rw[Jl5 (by omega)];cases hl:Jcl (Jc0 s 0) with
 | false =>
  simp -implicitDefEqProofs (disch:=omega) only[Wz,seval];exact fin _ _
 | true =>
 obtain⟨v,hv⟩:∃ v,JgX s 0=v:=⟨_,rfl⟩;simp -implicitDefEqProofs (disch:=omega) only[Wz,seval,hv];refine Jp (fun i:Nat=>⟨[(3,.lit (.int .i64 (i:Int))),(0,.lit (.string s))],.none,50⟩) (fun i=>i<=s.size/\(JgX s i=v)) (fun i=>s.size - i) 0 (Jj (by simp[lk]) (fun _ _ q=>q) (fun _ _ q=>q) rfl rfl) ⟨Nat.zero_le _,hv⟩ ?_;rintro i ⟨hi,hiv⟩;refine Jk ?_;rcases Nat.lt_or_ge i s.size with hlt | hge
 ·rw[Jm9 hlt] at hiv;have gi:s[i]? = some s[i]:=getElem?_pos s i hlt;have bi:=Jl5 hlt;simp -implicitDefEqProofs (disch:=omega) only[Wz,seval,gi];refine Jf JoA (JfA _) (Jb (.lit _) Jl) (.lit _) ?_;rw[bi];unfold JbZ at hiv;cases h2:Jcl (Jc0 s i) with
  | true =>
   have hiv:JgX s (i+1)=v:=by rw[<- hiv,h2];rfl
   simp -implicitDefEqProofs (disch:=omega) only[Wz,seval];exact⟨i+1,⟨by omega,hiv⟩,by omega,Jj (by simp[lk]) (fun _ _ q=>q) (fun _ _ q=>q) rfl rfl⟩
  | false =>
   simp -implicitDefEqProofs (disch:=omega) only[Wz,seval,gi];refine Jf JsQ (Jlc _) (Jb (.lit _) Jl) (.lit _) ?_;rw[bi];cases h3:Jgu (Jc0 s i) with
   | true =>
    have hiv:JgX s (i+1)=v:=by rw[<- hiv,h2,h3];rfl
    simp -implicitDefEqProofs (disch:=omega) only[Wz,seval];exact⟨i+1,⟨by omega,hiv⟩,by omega,Jj (by simp[lk]) (fun _ _ q=>q) (fun _ _ q=>q) rfl rfl⟩
   | false =>
    by_cases h4:Jc0 s i=95
    ·have hiv:JgX s (i+1)=v:=by rw[<- hiv,h2,h3,h4];rfl
     simp -implicitDefEqProofs (disch:=omega) only[Wz,seval,gi,bi];exact⟨i+1,⟨by omega,hiv⟩,by omega,Jj (by simp[lk]) (fun _ _ q=>q) (fun _ _ q=>q) rfl rfl⟩
    ·have hiv:false=v:=by rw[<- hiv,h2,h3,Jkh h4];rfl
     subst hiv;simp -implicitDefEqProofs (disch:=omega) only[Wz,seval,gi,bi];exact fin _ _
 ·have e:i=s.size:=by omega
  subst e;have hv':Jps s=v:=by
   rw[<- hiv];unfold JgX;rw[List.drop_eq_nil_of_le (by rw[Array.length_toList];exact Nat.le_refl _)];rfl
  simp -implicitDefEqProofs (disch:=omega) only[Wz,seval];have tl:Jps s = !(sEq s ⟨#[116,114,117,101]⟩ || (sEq s ⟨#[102,97,108,115,101]⟩ || (sEq s ⟨#[111,114,97,99,108,101]⟩ || (sEq s ⟨#[105,110,100,101,120]⟩ || (sEq s ⟨#[99,111,108,117,109,110]⟩ || (sEq s ⟨#[108,97]⟩ || sEq s ⟨#[109,111,100,101]⟩)))))):=by
   unfold Jps Jqs JmA;simp only[List.any_cons,List.any_nil,Bool.or_false];show _ = !(_ || (_ || (_ || ((s.toList==_) || ((s.toList==_) || ((s.toList==_) || (s.toList==_)))))));generalize sEq s ⟨#[116,114,117,101]⟩=b1;generalize sEq s ⟨#[102,97,108,115,101]⟩=b2;generalize sEq s ⟨#[111,114,97,99,108,101]⟩=b3;cases b1 <;> cases b2 <;> cases b3 <;> simp
  rw[tl] at hv';unfold sEq at hv';subst hv';generalize hb1:(s.toList==(⟨#[116,114,117,101]⟩:ByteArray).toList)=b1;generalize hb2:(s.toList==(⟨#[102,97,108,115,101]⟩:ByteArray).toList)=b2;generalize hb3:(s.toList==(⟨#[111,114,97,99,108,101]⟩:ByteArray).toList)=b3;generalize hb4:(s.toList==(⟨#[105,110,100,101,120]⟩:ByteArray).toList)=b4;generalize hb5:(s.toList==(⟨#[99,111,108,117,109,110]⟩:ByteArray).toList)=b5;generalize hb6:(s.toList==(⟨#[108,97]⟩:ByteArray).toList)=b6;generalize hb7:(s.toList==(⟨#[109,111,100,101]⟩:ByteArray).toList)=b7;cases b1 with
  | true =>
   simp -implicitDefEqProofs (disch:=omega) only[Wz,seval,hb1,Bool.true_or,Bool.or_true];exact fin _ _
  | false =>
  cases b2 with
  | true =>
   simp -implicitDefEqProofs (disch:=omega) only[Wz,seval,hb1,hb2,Bool.true_or,Bool.or_true];exact fin _ _
  | false =>
  cases b3 with
  | true =>
   simp -implicitDefEqProofs (disch:=omega) only[Wz,seval,hb1,hb2,hb3,Bool.true_or,Bool.or_true];exact fin _ _
  | false =>
  cases b4 with
  | true =>
   simp -implicitDefEqProofs (disch:=omega) only[Wz,seval,hb1,hb2,hb3,hb4,Bool.true_or,Bool.or_true];exact fin _ _
  | false =>
  cases b5 with
  | true =>
   simp -implicitDefEqProofs (disch:=omega) only[Wz,seval,hb1,hb2,hb3,hb4,hb5,Bool.true_or,Bool.or_true];exact fin _ _
  | false =>
  cases b6 with
  | true =>
   simp -implicitDefEqProofs (disch:=omega) only[Wz,seval,hb1,hb2,hb3,hb4,hb5,hb6,Bool.true_or,Bool.or_true];exact fin _ _
  | false =>
  cases b7;all_goals (simp -implicitDefEqProofs (disch:=omega) only[Wz,seval,hb1,hb2,hb3,hb4,hb5,hb6,hb7,Bool.true_or,Bool.or_true,Bool.or_false];exact fin _ _)
def gdB (g:Gd):List AV:=[.lit (.int .i8 g.op.1),.lit (.int .i64 g.n),.lit (.string g.name),.vec (g.kids.map JaU) false]
theorem JhG:∀ (m:Nat) (g:Gd),gsz g<=m->m<=2000000000->JO Pg 85 [.agg (JaU g)] (.lit (.int .i64 (Jcy g)))
 | 0,g,h,_=>by have:=JcF g;omega
 | m+1,g,h,hm=>by
  have hl:=Jbv g;refine Jm Tryz.func85 rfl Tryz.ntmps85 (rs:=[.tmp 2]) rfl (by simp) ?_;simp -implicitDefEqProofs (disch:=omega) only[Wz,seval,Jw];refine Jp (fun i:Nat=>⟨[(4,.lit (.int .i64 (i:Int))),(3,.lit (.int .i64 (sizeGs 1 (g.kids.take i)))),(1,.ptr 0 0)],⟨[(0,gdB g)],[],1⟩,22⟩) (fun i=>i<=g.kids.length) (fun i=>g.kids.length - i) 0 (Jj (by simp[lk,sizeGs]) (fun _ _ q=>q) (fun _ _ q=>q) rfl rfl) (Nat.zero_le _) ?_;intro i hi;refine Jk ?_;rcases Nat.lt_or_ge i g.kids.length with hlt | hge
  ·have hk:=Jt (l:=g.kids) hlt;have ih:=JhG m (g.kids.getD i default) (by have:=Jbg hk;omega) (by omega);have r1:=Jgy (g.kids.getD i default);have r2:=Jhp (g.kids.take i);have nx:sizeGs 1 (g.kids.take (i+1))=min (sizeGs 1 (g.kids.take i)+Jcy (g.kids.getD i default)) 2147483647:=by
    rw[List.take_add_one,JfQ hlt,Option.toList_some,Jgz]
   have mn:(if (2147483647:Int)<sizeGs 1 (g.kids.take i)+Jcy (g.kids.getD i default) then 2147483647 else sizeGs 1 (g.kids.take i)+Jcy (g.kids.getD i default))=min (sizeGs 1 (g.kids.take i)+Jcy (g.kids.getD i default)) 2147483647:=by omega
   simp -implicitDefEqProofs (disch:=omega) only[Wz,seval,gdB];refine Jf JrW ih (Jb (.agg (JN _)) Jl) (.lit _) ?_;simp -implicitDefEqProofs (disch:=omega) only[Wa,tyW,seval,tyW,Jdi,mn];exact⟨i+1,by omega,by omega,Jj (by simp[lk,nx]) (fun _ _ q=>q) (fun _ _ q=>q) rfl rfl⟩
  ·have e:i=g.kids.length:=by omega
   subst e;simp -implicitDefEqProofs (disch:=omega) only[Wz,seval,gdB,List.take_length];rw[<- JlG];exact Ja (.lit _)
theorem JfB(g:Gd)(p:Pl):JO Pg 120 [.agg (JaU g),.agg (JaF p)] (.tup [.lit (.int .i64 (JmD g p)),.lit (.bool (decide (9<=g.op.1/\g.op.1<=14)))]):=by
 refine Jm Tryz.func120 rfl Tryz.ntmps120 (rs:=[.tmp 4,.tmp 5]) rfl (by simp) ?_;unfold JmD;by_cases h1:g.op.1=9
 ·simp -implicitDefEqProofs (disch:=omega) only[Wz,seval,Jw,JaF];exact Ja (.tup (Jb (.lit _) (Jb (.lit _) Jl)))
 by_cases h2:g.op.1=10
 ·simp -implicitDefEqProofs (disch:=omega) only[Wz,seval,Jw,JaF];exact Ja (.tup (Jb (.lit _) (Jb (.lit _) Jl)))
 by_cases h3:g.op.1=11
 ·simp -implicitDefEqProofs (disch:=omega) only[Wz,seval,Jw,JaF];exact Ja (.tup (Jb (.lit _) (Jb (.lit _) Jl)))
 by_cases h4:g.op.1=12
 ·simp -implicitDefEqProofs (disch:=omega) only[Wz,seval,Jw,JaF];exact Ja (.tup (Jb (.lit _) (Jb (.lit _) Jl)))
 by_cases h5:g.op.1=13
 ·simp -implicitDefEqProofs (disch:=omega) only[Wz,seval,Jw,JaF];exact Ja (.tup (Jb (.lit _) (Jb (.lit _) Jl)))
 by_cases h6:g.op.1=14;all_goals
  simp -implicitDefEqProofs (disch:=omega) only[Wz,seval,Jw,JaF];exact Ja (.tup (Jb (.lit _) (Jb (.lit _) Jl)))
theorem JfC(g:Gd)(hs:g.name.size<=9000000000000000000)(hg:g.kids.length<=2000000000):JO Pg 108 [.agg (JaU g)] (.lit (.bool (JjE g))):=by
 refine Jm Tryz.func108 rfl Tryz.ntmps108 (rs:=[.tmp 2]) rfl (by simp) ?_;have fin:∀ h (b:Bool),JcS h (.lit (.bool b)) (.lit (.bool b)):=fun h b=>Ja (.lit _);unfold JjE;by_cases h1:g.kids.length > 0
 ·simp -implicitDefEqProofs (disch:=omega) only[Wz,seval,Jw];exact fin _ _
 by_cases h4:g.op.1=9
 ·simp -implicitDefEqProofs (disch:=omega) only[Wz,seval,Jw];unfold sEq;generalize hb:(g.name.toList==(⟨#[]⟩:ByteArray).toList)=b1;by_cases h5:g.n<1000000000000000000 <;> by_cases h6:g.n > -1000000000000000000 <;> cases b1
  all_goals
   simp -implicitDefEqProofs (disch:=omega) only[Wz,seval,hb,Bool.true_and,Bool.false_and,Bool.and_true,Bool.and_false];exact fin _ _
 by_cases h5:g.op.1=14
 ·by_cases h6:g.n=0
  ·simp -implicitDefEqProofs (disch:=omega) only[Wz,seval,Jw,Bool.true_and];refine Jf JsL (Jna g.name hs) (Jb (.lit _) Jl) (.lit _) ?_;simp -implicitDefEqProofs (disch:=omega) only[Wz,seval];exact fin _ _
  ·simp -implicitDefEqProofs (disch:=omega) only[Wz,seval,Jw,Bool.false_and];exact fin _ _
 by_cases h2:g.op.1<9
 ·simp -implicitDefEqProofs (disch:=omega) only[Wz,seval,Jw];exact fin _ _
 by_cases h3:g.op.1 > 14
 ·simp -implicitDefEqProofs (disch:=omega) only[Wz,seval,Jw];exact fin _ _
 rcases(by omega:g.op.1=10\/g.op.1=11\/g.op.1=12\/g.op.1=13) with q | q | q | q;all_goals
  simp -implicitDefEqProofs (disch:=omega) only[Wz,seval,Jw];unfold sEq;generalize hb:(g.name.toList==(⟨#[]⟩:ByteArray).toList)=b1;by_cases h6:g.n=0 <;> cases b1
 all_goals
  simp -implicitDefEqProofs (disch:=omega) only[Wz,seval,hb,Bool.true_and,Bool.false_and,Bool.and_true,Bool.and_false];exact fin _ _
theorem Jpt(x:Orc)(o:List Orc)(n index:Int):Jqt (x :: o) n index=if x.id=n/\x.index=index then x.says else Jqt o n index:=by
 unfold Jqt;rw[List.find?_cons];by_cases h1:x.id=n
 ·by_cases h2:x.index=index
  ·rw[Jg4 h1,Jg4 h2,if_pos ⟨h1,h2⟩];rfl
  ·rw[Jg4 h1,Jkh h2,if_neg fun q=>h2 q.2];rfl
 ·rw[Jkh h1,if_neg fun q=>h1 q.1];rfl
theorem Jpu{T:Type}[Inhabited T]{l:List T}{i:Nat}(h:i<l.length):l.drop i=l.getD i default :: l.drop (i+1):=by
 rw[List.drop_eq_getElem_cons h,List.getD_eq_getElem?_getD,List.getElem?_eq_getElem h];rfl
theorem Jj9(o:List Orc)(id index:Int)(ho:o.length<=2000000000):JO Pg 119 [.lit (.int .i64 id),.lit (.int .i64 index),.vec (o.map Jct) false] (.lit (.bool (Jqt o id index))):=by
 refine Jm Tryz.func119 rfl Tryz.ntmps119 (rs:=[.tmp 6]) rfl (by simp) ?_;have fin:∀ h (b:Bool),JcS h (.lit (.bool b)) (.lit (.bool b)):=fun h b=>Ja (.lit _);obtain⟨v,hv⟩:∃ v,Jqt o id index=v:=⟨_,rfl⟩;rw[hv];simp -implicitDefEqProofs (disch:=omega) only[Wz,seval];refine Jp (fun i:Nat=>⟨[(7,.lit (.int .i64 (i:Int))),(0,.lit (.int .i64 id)),(1,.lit (.int .i64 index)),(2,.vec (o.map Jct) false)],.none,35⟩) (fun i=>i<=o.length/\(Jqt (o.drop i) id index=v)) (fun i=>o.length - i) 0 (Jj (by simp[lk]) (fun _ _ q=>q) (fun _ _ q=>q) rfl rfl) ⟨Nat.zero_le _,by rw[List.drop_zero];exact hv⟩ ?_;rintro i ⟨hi,hiv⟩;refine Jk ?_;rcases Nat.lt_or_ge i o.length with hlt | hge
 ·obtain⟨x,hx⟩:∃ x,o.getD i default=x:=⟨_,rfl⟩;rw[Jpu hlt,hx,Jpt] at hiv;by_cases h1:x.id=id
  ·by_cases h2:x.index=index
   ·rw[if_pos ⟨h1,h2⟩] at hiv;subst hiv;simp -implicitDefEqProofs (disch:=omega) only[Wz,seval,hx,Jct];exact fin _ _
   ·rw[if_neg fun q=>h2 q.2] at hiv;simp -implicitDefEqProofs (disch:=omega) only[Wz,seval,hx,Jct];exact⟨i+1,⟨by omega,hiv⟩,by omega,Jj (by simp[lk]) (fun _ _ q=>q) (fun _ _ q=>q) rfl rfl⟩
  ·rw[if_neg fun q=>h1 q.1] at hiv;simp -implicitDefEqProofs (disch:=omega) only[Wz,seval,hx,Jct];exact⟨i+1,⟨by omega,hiv⟩,by omega,Jj (by simp[lk]) (fun _ _ q=>q) (fun _ _ q=>q) rfl rfl⟩
 ·have e:i=o.length:=by omega
  subst e;rw[List.drop_length] at hiv;have hiv:false=v:=hiv;subst hiv;simp -implicitDefEqProofs (disch:=omega) only[Wz,seval];exact fin _ _
theorem Jpv(l:List Gd)(hl:l.length<=2000000000)(h:∀ k∈l,JO Pg 86 [.agg (JaU k)] (.lit (.bool (JaM k)))):JO Pg 107 [.vec (l.map JaU) false] (.lit (.bool (l.all JaM))):=by
 refine Jm Tryz.func107 rfl Tryz.ntmps107 (rs:=[.tmp 2]) rfl (by simp) ?_;have fin:∀ h (b:Bool),JcS h (.lit (.bool b)) (.lit (.bool b)):=fun h b=>Ja (.lit _);obtain⟨v,hv⟩:∃ v,l.all JaM=v:=⟨_,rfl⟩;rw[hv];simp -implicitDefEqProofs (disch:=omega) only[Wz,seval];refine Jp (fun i:Nat=>⟨[(3,.lit (.int .i64 (i:Int))),(0,.vec (l.map JaU) false)],.none,16⟩) (fun i=>i<=l.length/\((l.drop i).all JaM=v)) (fun i=>l.length - i) 0 (Jj (by simp[lk]) (fun _ _ q=>q) (fun _ _ q=>q) rfl rfl) ⟨Nat.zero_le _,by rw[List.drop_zero];exact hv⟩ ?_;rintro i ⟨hi,hiv⟩;refine Jk ?_;rcases Nat.lt_or_ge i l.length with hlt | hge
 ·obtain⟨x,hx⟩:∃ x,l.getD i default=x:=⟨_,rfl⟩;have ih:=h (l.getD i default) (Jt hlt);rw[hx] at ih;rw[Ja7 hlt,hx,List.all_cons] at hiv;simp -implicitDefEqProofs (disch:=omega) only[Wz,seval,hx];refine Jf JrX ih (Jb (.agg (JN _)) Jl) (.lit _) ?_;cases hc:JaM x with
  | true =>
   have hiv:(l.drop (i+1)).all JaM=v:=by rw[<- hiv,hc];rfl
   simp -implicitDefEqProofs (disch:=omega) only[Wz,seval];exact⟨i+1,⟨by omega,hiv⟩,by omega,Jj (by simp[lk]) (fun _ _ q=>q) (fun _ _ q=>q) rfl rfl⟩
  | false =>
   have hiv:false=v:=by rw[<- hiv,hc];rfl
   subst hiv;simp -implicitDefEqProofs (disch:=omega) only[Wz,seval];exact fin _ _
 ·have e:i=l.length:=by omega
  subst e;rw[List.drop_length] at hiv;have hiv:true=v:=hiv;subst hiv;simp -implicitDefEqProofs (disch:=omega) only[Wz,seval];exact fin _ _
theorem JhH:∀ (m:Nat) (g:Gd),gsz g<=m->m<=2000000000->Jnq g->JO Pg 86 [.agg (JaU g)] (.lit (.bool (JaM g)))
  | 0,g,h,_,_=>by have:=JcF g;omega
  | m+1,g,h,hm,hok=>by
    have hl:=Jbv g;have hall:=Jpv g.kids (by omega) fun k hk=>JhH m k (by have:=Jbg hk;omega) (by omega) (by cases hok with | mk _ h2=>exact h2 k hk);have pk:∀ v∈[AV.vec (g.kids.map JaU) false],Ab.Pure v:=Jb (.vec (Ji JN _)) Jl;refine Jm Tryz.func86 rfl Tryz.ntmps86 (rs:=[.tmp 2]) rfl (by simp) ?_;have fin:∀ h (b:Bool),JcS h (.lit (.bool b)) (.lit (.bool b)):=fun h b=>Ja (.lit _);rw[Jib];have hsE:(g.name.toList==(⟨#[]⟩:ByteArray).toList)=sEq g.name ⟨#[]⟩:=rfl;have bools:∀ b:Bool,(b && true)=b/\(true && b)=b/\(b && false)=false/\(false && b)=false:=fun b=>by cases b <;> decide
    cases hE:sEq g.name ⟨#[]⟩ with
    | false =>
      simp -implicitDefEqProofs (disch:=omega) only[Wz,seval,Jw,hsE,hE];exact fin _ _
    | true =>
    by_cases h2:g.op.1=8
    · by_cases h3:g.kids.length=0 <;> by_cases h4:g.n<1000000000000000000 <;> by_cases h5:g.n > -1000000000000000000 <;> by_cases h6:g.n=0
      all_goals first
        | omega
        | (simp -implicitDefEqProofs (disch:=omega) only[Wz,seval,Jw,hsE,hE,bools]
           exact fin _ _)
    by_cases h1:¬ g.n=0
    · simp -implicitDefEqProofs (disch:=omega) only[Wz,seval,Jw,hsE,hE]
      exact fin _ _
    by_cases h3:g.op.1=0
    · by_cases h4:g.kids.length=0
      all_goals
        simp -implicitDefEqProofs (disch:=omega) only[Wz,seval,Jw,hsE,hE,bools];exact fin _ _
    by_cases h4:g.op.1=1
    · by_cases h4:g.kids.length=0
      all_goals
        simp -implicitDefEqProofs (disch:=omega) only[Wz,seval,Jw,hsE,hE,bools];exact fin _ _
    by_cases h5:g.op.1=2
    · by_cases h6:g.kids.length=1
      · simp -implicitDefEqProofs (disch:=omega) only[Wz,seval,Jw,hsE,hE,bools]
        refine Jf Joq hall pk (.lit _) ?_;cases g.kids.all JaM;all_goals
          simp -implicitDefEqProofs (disch:=omega) only[Wz,seval,bools];exact fin _ _
      · simp -implicitDefEqProofs (disch:=omega) only[Wz,seval,Jw,hsE,hE,bools]
        exact fin _ _
    by_cases h6:g.op.1=3\/g.op.1=4
    · by_cases h7:g.kids.length >= 2
      · rcases h6 with h6 | h6
        all_goals
          simp -implicitDefEqProofs (disch:=omega) only[Wz,seval,Jw,hsE,hE,bools];refine Jf Joq hall pk (.lit _) ?_;cases g.kids.all JaM;all_goals
            simp -implicitDefEqProofs (disch:=omega) only[Wz,seval,bools];exact fin _ _
      · rcases h6 with h6 | h6
        all_goals
          simp -implicitDefEqProofs (disch:=omega) only[Wz,seval,Jw,hsE,hE,bools];exact fin _ _
    by_cases h7:5<=g.op.1/\g.op.1<=7
    · have ok2:∀ k∈g.kids,k.name.size<=9000000000000000000:=fun k hk=>by cases hok with | mk _ h2=>cases h2 k hk with | mk h3 _=>exact h3
      by_cases h8:g.kids.length=2
      · obtain⟨k,j,hk⟩:∃ k j,g.kids=[k,j]:=by
          match hq:g.kids,h8 with
          | [k,j],_=>exact⟨k,j,rfl⟩
        have hkm:k∈g.kids:=by rw[hk];simp
        have hjm:j∈g.kids:=by rw[hk];simp
        have gk:g.kids.getD 0 default=k:=by rw[hk];rfl
        have gj:g.kids.getD 1 default=j:=by rw[hk];rfl
        have ea:g.kids.all JjE=(JjE k && JjE j):=by rw[hk];simp
        have nk:=JfC k (ok2 k hkm) (by have:=Jbg hkm;have:=Jbv k;omega);have nj:=JfC j (ok2 j hjm) (by have:=Jbg hjm;have:=Jbv j;omega);rw[ea];have pk:=JN k;have pj:=JN j;rw[Jw] at nk nj pk pj;rcases(by omega:g.op.1=5\/g.op.1=6\/g.op.1=7) with q | q | q
        all_goals
          simp -implicitDefEqProofs (disch:=omega) only[Wz,seval,Jw,hsE,hE,bools,gk];refine Jf Jor nk (Jb (.agg pk) Jl) (.lit _) ?_;cases JjE k with
          | false =>
            simp -implicitDefEqProofs (disch:=omega) only[Wz,seval,bools];exact fin _ _
          | true =>
            simp -implicitDefEqProofs (disch:=omega) only[Wz,seval,Jw,bools,gj];refine Jf Jor nj (Jb (.agg pj) Jl) (.lit _) ?_;cases JjE j;all_goals
              simp -implicitDefEqProofs (disch:=omega) only[Wz,seval,bools];exact fin _ _
      · rcases(by omega:g.op.1=5\/g.op.1=6\/g.op.1=7) with q | q | q
        all_goals
          simp -implicitDefEqProofs (disch:=omega) only[Wz,seval,Jw,hsE,hE,bools];exact fin _ _
    · simp -implicitDefEqProofs (disch:=omega) only[Wz,seval,Jw,hsE,hE,bools]
      exact fin _ _
theorem JfD(g:Gd)(h:gsz g<=2000000000)(hok:Jnq g):JO Pg 67 [.agg (JaU g)] (.lit (.int .i64 (if ckG g then 0 else 40))):=by
 refine Jm Tryz.func67 rfl Tryz.ntmps67 (rs:=[.tmp 2]) rfl (by simp) ?_;have hs:=JhG (gsz g) g (Nat.le_refl _) h;have hc:=JhH (gsz g) g (Nat.le_refl _) h hok;rw[Jw] at hs hc;have pg:=JN g;rw[Jw] at pg;have fin:∀ h (b:Int),JcS h (.lit (.int .i64 b)) (.lit (.int .i64 b)):=fun h b=>Ja (.lit _);unfold ckG;simp -implicitDefEqProofs (disch:=omega) only[Wz,seval,Jw];refine Jf JrW hs (Jb (.agg pg) Jl) (.lit _) ?_;by_cases h1:Jcy g<=64
 ·simp -implicitDefEqProofs (disch:=omega) only[Wz,seval];refine Jf JrX hc (Jb (.agg pg) Jl) (.lit _) ?_;cases JaM g;all_goals
   simp -implicitDefEqProofs (disch:=omega) only[Wz,seval,Bool.true_and,Bool.false_eq_true];exact fin _ _
 ·simp -implicitDefEqProofs (disch:=omega) only[Wz,seval,Bool.false_and,Bool.false_eq_true];exact fin _ _
def plB (p:Pl):List AV:=[.lit (.int .i64 p.index),.lit (.int .i64 p.column),.lit (.int .i64 p.la),.lit (.int .i64 p.mode)]
theorem JhI(p:Pl)(o:List Orc)(ho:o.length<=2000000000):∀ (m:Nat) (g:Gd),gsz g<=m->m<=2000000000->JaM g=true->JO Pg 92 [.agg (JaU g),.agg (JaF p),.vec (o.map Jct) false] (.lit (.bool (JaI p o g)))
 | 0,g,h,_,_=>by have:=JcF g;omega
 | m+1,g,h,hm,hok=>by
  have hl:=Jbv g;have po:Ab.Pure (.vec (o.map Jct) false):=.vec (Ji Jbu _);have ih:∀ k∈g.kids,JaM k=true->JO Pg 92 [.agg (JaU k),.agg (JaF p),.vec (o.map Jct) false] (.lit (.bool (JaI p o k))):=fun k hk hc=>JhI p o ho m k (by have:=Jbg hk;omega) (by omega) hc;have pk:∀ k,∀ v∈[AV.agg (JaU k),.agg (JaF p),.vec (o.map Jct) false],Ab.Pure v:=fun k=>Jb (.agg (JN k)) (Jb (.agg (JaQ p)) (Jb po Jl));refine Jm Tryz.func92 rfl Tryz.ntmps92 (rs:=[.tmp 6]) rfl (by simp) ?_;obtain⟨c1,c2,c3⟩:=JgC hok;rw[JlH];have fin:∀ h (b:Bool),JcS h (.lit (.bool b)) (.lit (.bool b)):=fun h b=>Ja (.lit _);by_cases h0:g.op.1=0
  ·simp -implicitDefEqProofs (disch:=omega) only[Wz,seval,Jw,JaF];exact fin _ _
  by_cases h1:g.op.1=1
  ·simp -implicitDefEqProofs (disch:=omega) only[Wz,seval,Jw,JaF];exact fin _ _
  by_cases h8:g.op.1=8
  ·simp -implicitDefEqProofs (disch:=omega) only[Wz,seval,Jw,JaF];refine Jf JsI (Jj9 o g.n p.index ho) (Jb (.lit _) (Jb (.lit _) (Jb po Jl))) (.lit _) ?_;simp -implicitDefEqProofs (disch:=omega) only[Wz,seval];exact fin _ _
  by_cases h2:g.op.1=2
  ·have l1:=c1 h2;have ck:=c2 (by omega) (by omega);obtain⟨k,hk⟩:∃ k,g.kids=[k]:=by
    match hq:g.kids,l1 with
    | [k],_=>exact⟨k,rfl⟩
   have hkm:k∈g.kids:=by rw[hk];simp
   have gk:g.kids.getD 0 default=k:=by rw[hk];rfl
   have ea:g.kids.all (JaI p o)=JaI p o k:=by rw[hk];simp
   rw[ea];simp -implicitDefEqProofs (disch:=omega) only[Wz,seval,Jw,JaF,gk];refine JbM (n:=120) 7 (.alt 7 (.alt 8 .leaf .nil) .nil) rfl (by decide) (by decide) mixed (by kernel_rfl) (by decide) ?_;simp -implicitDefEqProofs (disch:=omega) only[Wz,seval,gk];refine J8 JlC (ih k hkm (ck k hkm)) (pk k) (.lit _) ?_;simp -implicitDefEqProofs (disch:=omega) only[Wz,seval];exact fin _ _
  by_cases h3:g.op.1=3
  ·have ck:=c2 (by omega) (by omega);obtain⟨v,hv⟩:∃ v,g.kids.all (JaI p o)=v:=⟨_,rfl⟩;simp -implicitDefEqProofs (disch:=omega) only[Wz,seval,Jw,JaF,hv];refine Jp (fun i:Nat=>⟨[(7,.lit (.int .i64 (i:Int))),(2,.vec (o.map Jct) false),(3,.ptr 0 0),(4,.ptr 1 0)],⟨[(0,gdB g),(1,plB p)],[],2⟩,120⟩) (fun i=>i<=g.kids.length/\((g.kids.drop i).all (JaI p o)=v)) (fun i=>g.kids.length - i) 0 (Jj (by simp[lk]) (fun _ _ q=>q) (fun _ _ q=>q) rfl rfl) ⟨Nat.zero_le _,by rw[List.drop_zero];exact hv⟩ ?_;rintro i ⟨hi,hiv⟩;refine Jk ?_;rcases Nat.lt_or_ge i g.kids.length with hlt | hge
   ·have hkm:=Jt (l:=g.kids) hlt;obtain⟨x,hx⟩:∃ x,g.kids.getD i default=x:=⟨_,rfl⟩;rw[Ja7 hlt,List.all_cons,hx] at hiv;rw[hx] at hkm;simp -implicitDefEqProofs (disch:=omega) only[Wz,seval,gdB,plB,hx];refine JbM (n:=120) 7 (.alt 7 (.alt 8 .leaf .nil) .nil) rfl (by decide) (by decide) mixed (by kernel_rfl) (by decide) ?_;simp -implicitDefEqProofs (disch:=omega) only[Wz,seval,gdB,plB,hx];refine Jf JlC (ih x hkm (ck x hkm)) (pk x) (.lit _) ?_;cases hc:JaI p o x with
    | true =>
     have hiv:(g.kids.drop (i+1)).all (JaI p o)=v:=by rw[<- hiv,hc];rfl
     simp -implicitDefEqProofs (disch:=omega) only[Wz,seval];exact⟨i+1,⟨by omega,hiv⟩,by omega,Jj (by simp[lk]) (fun _ _ q=>q) (fun _ _ q=>q) rfl rfl⟩
    | false =>
     have hiv:false=v:=by rw[<- hiv,hc];rfl
     subst hiv;simp -implicitDefEqProofs (disch:=omega) only[Wz,seval];exact fin _ _
   ·have e:i=g.kids.length:=by omega
    subst e;rw[List.drop_length] at hiv;have hiv:true=v:=hiv;subst hiv;simp -implicitDefEqProofs (disch:=omega) only[Wz,seval,gdB,plB];exact fin _ _
  by_cases h4:g.op.1=4
  ·have ck:=c2 (by omega) (by omega);obtain⟨v,hv⟩:∃ v,g.kids.any (JaI p o)=v:=⟨_,rfl⟩;simp -implicitDefEqProofs (disch:=omega) only[Wz,seval,Jw,JaF,hv];refine Jp (fun i:Nat=>⟨[(8,.lit (.int .i64 (i:Int))),(2,.vec (o.map Jct) false),(3,.ptr 0 0),(4,.ptr 1 0)],⟨[(0,gdB g),(1,plB p)],[],2⟩,120⟩) (fun i=>i<=g.kids.length/\((g.kids.drop i).any (JaI p o)=v)) (fun i=>g.kids.length - i) 0 (Jj (by simp[lk]) (fun _ _ q=>q) (fun _ _ q=>q) rfl rfl) ⟨Nat.zero_le _,by rw[List.drop_zero];exact hv⟩ ?_;rintro i ⟨hi,hiv⟩;refine Jk ?_;rcases Nat.lt_or_ge i g.kids.length with hlt | hge
   ·have hkm:=Jt (l:=g.kids) hlt;obtain⟨x,hx⟩:∃ x,g.kids.getD i default=x:=⟨_,rfl⟩;rw[Ja7 hlt,List.any_cons,hx] at hiv;rw[hx] at hkm;simp -implicitDefEqProofs (disch:=omega) only[Wz,seval,gdB,plB,hx];refine JbM (n:=120) 7 (.alt 7 .leaf .nil) rfl (by decide) (by decide) mixed (by kernel_rfl) (by decide) ?_;simp -implicitDefEqProofs (disch:=omega) only[Wz,seval,gdB,plB,hx];refine Jf JlC (ih x hkm (ck x hkm)) (pk x) (.lit _) ?_;cases hc:JaI p o x with
    | false =>
     have hiv:(g.kids.drop (i+1)).any (JaI p o)=v:=by rw[<- hiv,hc];rfl
     simp -implicitDefEqProofs (disch:=omega) only[Wz,seval];exact⟨i+1,⟨by omega,hiv⟩,by omega,Jj (by simp[lk]) (fun _ _ q=>q) (fun _ _ q=>q) rfl rfl⟩
    | true =>
     have hiv:true=v:=by rw[<- hiv,hc];rfl
     subst hiv;simp -implicitDefEqProofs (disch:=omega) only[Wz,seval];exact fin _ _
   ·have e:i=g.kids.length:=by omega
    subst e;rw[List.drop_length] at hiv;have hiv:false=v:=hiv;subst hiv;simp -implicitDefEqProofs (disch:=omega) only[Wz,seval,gdB,plB];exact fin _ _
  obtain⟨c4,c5⟩:=c3 h0 h1 h8 h2 h3 h4;obtain⟨k,j,hk⟩:∃ k j,g.kids=[k,j]:=by
   match hq:g.kids,c5 with
   | [k,j],_=>exact⟨k,j,rfl⟩
  have gk:g.kids.getD 0 default=k:=by rw[hk];rfl
  have gj:g.kids.getD 1 default=j:=by rw[hk];rfl
  rw[gk,gj];obtain⟨x,hx⟩:∃ x,JmD k p=x:=⟨_,rfl⟩;obtain⟨y,hy⟩:∃ y,JmD j p=y:=⟨_,rfl⟩;have nk:=JfB k p;have nj:=JfB j p;rw[hx] at nk;rw[hy] at nj;rw[hx,hy];unfold Jzr;rcases(by omega:g.op.1=5\/g.op.1=6\/g.op.1=7) with h | h | h
  all_goals
   simp -implicitDefEqProofs (disch:=omega) only[Wz,seval,Jw,JaF,gk,gj];refine Jba (n:=120) (σ':=⟨[(9,.lit (.int .i64 x)),(3,.ptr 0 0),(4,.ptr 1 0)],⟨[(0,gdB g),(1,plB p)],[],2⟩,120⟩) 2 6 (.alt 6 (.alt 7 (.alt 8 (.alt 9 (.alt 10 .leaf .nil) .nil) (.alt 9 (.alt 8 (.alt 10 .leaf .nil) .nil) .nil)) (.alt 8 (.alt 7 (.alt 9 (.alt 10 .leaf .nil) .nil) .nil) .nil)) .nil) rfl (by decide) (by decide) mixed (by kernel_rfl) (by decide) ?_ ?_
   ·simp -implicitDefEqProofs (disch:=omega) only[Wz,seval,gk,gj];refine J8 Jow nk (Jb (.agg (JN k)) (Jb (.agg (JaQ p)) Jl)) (.tup (Jb (.lit _) (Jb (.lit _) Jl))) ?_;simp -implicitDefEqProofs (disch:=omega) only[Wz,seval];exact⟨⟨St.wk.cp (St.wk_slots1 (by simp[lk]) (by simp[lk,gdB,plB]) (fun t=>rfl)),St.wk.cp (St.wk_slots1 (by simp[lk]) (by simp[lk,gdB,plB]) (fun t=>rfl))⟩,St.wk.cp (St.wk_slots1 (by simp[lk]) (by simp[lk,gdB,plB]) (fun t=>rfl))⟩
   simp -implicitDefEqProofs (disch:=omega) only[Wz,seval,gdB,plB];refine Jba (n:=120) (σ':=⟨[(11,.lit (.int .i64 y)),(9,.lit (.int .i64 x)),(3,.ptr 0 0)],⟨[(0,gdB g)],[],2⟩,120⟩) 2 6 (.alt 6 (.alt 7 (.alt 8 (.alt 9 (.alt 10 .leaf .nil) .nil) (.alt 9 (.alt 8 (.alt 10 .leaf .nil) .nil) .nil)) (.alt 8 (.alt 7 (.alt 9 (.alt 10 .leaf .nil) .nil) .nil) .nil)) .nil) rfl (by decide) (by decide) mixed (by kernel_rfl) (by decide) ?_ ?_
   ·simp -implicitDefEqProofs (disch:=omega) only[Wz,seval,gk,gj];refine J8 Jow nj (Jb (.agg (JN j)) (Jb (.agg (JaQ p)) Jl)) (.tup (Jb (.lit _) (Jb (.lit _) Jl))) ?_;simp -implicitDefEqProofs (disch:=omega) only[Wz,seval];exact⟨⟨St.wk.cp (St.wk_slots1 (by simp[lk]) (by simp[lk,gdB]) (fun t=>rfl)),St.wk.cp (St.wk_slots1 (by simp[lk]) (by simp[lk,gdB]) (fun t=>rfl))⟩,St.wk.cp (St.wk_slots1 (by simp[lk]) (by simp[lk,gdB]) (fun t=>rfl))⟩
   simp -implicitDefEqProofs (disch:=omega) only[Wz,seval,gdB]
  ·by_cases hxy:x<y;all_goals
    simp -implicitDefEqProofs (disch:=omega) only[Wz,seval];exact fin _ _
  ·by_cases hxy:x<=y;all_goals
    simp -implicitDefEqProofs (disch:=omega) only[Wz,seval];exact fin _ _
  ·by_cases hxy:x=y;all_goals
    simp -implicitDefEqProofs (disch:=omega) only[Wz,seval];exact fin _ _
theorem Jle(g:Gd)(p:Pl)(o:List Orc)(h:gsz g<=2000000000)(hok:Jnq g)(ho:o.length<=2000000000):JO Pg 76 [.agg (JaU g),.agg (JaF p),.vec (o.map Jct) false] (.lit (.bool (ckG g && JaI p o g))):=by
 refine Jm Tryz.func76 rfl Tryz.ntmps76 (rs:=[.tmp 6]) rfl (by simp) ?_;have fin:∀ h (b:Bool),JcS h (.lit (.bool b)) (.lit (.bool b)):=fun h b=>Ja (.lit _);have hc:=JfD g h hok;have hs:=fun q=>JhI p o ho (gsz g) g (Nat.le_refl _) h q
 have pg:=JN g;rw[Jw] at hc hs pg;simp -implicitDefEqProofs (disch:=omega) only[Wz,seval,Jw,JaF];unfold JaF at hs;refine Jf JrT hc (Jb (.agg pg) Jl) (.lit _) ?_;cases hk:ckG g with
 | false =>
  simp -implicitDefEqProofs (disch:=omega) only[Wz,seval,Bool.false_and,Bool.false_eq_true];exact fin _ _
 | true =>
  have hcd:JaM g=true:=by unfold ckG at hk;simp only[Bool.and_eq_true] at hk;exact hk.2
  simp -implicitDefEqProofs (disch:=omega) only[Wz,seval,Bool.true_and];refine Jf JlC (hs hcd) (Jb (.agg pg) (Jb (.agg (JaQ p)) (Jb (.vec (Ji Jbu _)) Jl))) (.lit _) ?_;simp -implicitDefEqProofs (disch:=omega) only[Wz,seval];exact fin _ _
theorem Jpw(s:List (Int × Int))(x:Int)(h:s.length<=2000000000):JO Pg 74 [.vec (s.map Jbb) false,.lit (.int .i32 x)] (.lit (.bool (Jnr s x))):=by
 refine Jm Tryz.func74 rfl Tryz.ntmps74 (rs:=[.tmp 4]) rfl (by simp) ?_;have fin:∀ h (b:Bool),JcS h (.lit (.bool b)) (.lit (.bool b)):=fun h b=>Ja (.lit _);obtain⟨v,hv⟩:∃ v,Jnr s x=v:=⟨_,rfl⟩;rw[hv];simp -implicitDefEqProofs (disch:=omega) only[Wz,seval];refine Jp (fun i:Nat=>⟨[(5,.lit (.int .i64 (i:Int))),(0,.vec (s.map Jbb) false),(1,.lit (.int .i32 x))],.none,28⟩) (fun i=>i<=s.length/\(Jnr (s.drop i) x=v)) (fun i=>s.length - i) 0 (Jj (by simp[lk]) (fun _ _ q=>q) (fun _ _ q=>q) rfl rfl) ⟨Nat.zero_le _,by rw[List.drop_zero];exact hv⟩ ?_;rintro i ⟨hi,hiv⟩;refine Jk ?_;rcases Nat.lt_or_ge i s.length with hlt | hge
 ·obtain⟨r,hr⟩:∃ r,s.getD i default=r:=⟨_,rfl⟩;unfold Jnr at hiv;rw[Ja7 hlt,List.any_cons,hr] at hiv;unfold Jyw at hiv;by_cases h1:r.1<=x
  ·by_cases h2:x<=r.2
   ·have hiv:true=v:=by rw[<- hiv,decide_eq_true (⟨h1,h2⟩:r.1<=x/\x<=r.2)];rfl
    subst hiv;simp -implicitDefEqProofs (disch:=omega) only[Wz,seval,hr,Jbb];exact fin _ _
   ·have hiv:Jnr (s.drop (i+1)) x=v:=by rw[<- hiv,decide_eq_false (fun q:r.1<=x/\x<=r.2=>h2 q.2)];rfl
    simp -implicitDefEqProofs (disch:=omega) only[Wz,seval,hr,Jbb];exact⟨i+1,⟨by omega,hiv⟩,by omega,Jj (by simp[lk]) (fun _ _ q=>q) (fun _ _ q=>q) rfl rfl⟩
  ·have hiv:Jnr (s.drop (i+1)) x=v:=by rw[<- hiv,decide_eq_false (fun q:r.1<=x/\x<=r.2=>h1 q.1)];rfl
   simp -implicitDefEqProofs (disch:=omega) only[Wz,seval,hr,Jbb];exact⟨i+1,⟨by omega,hiv⟩,by omega,Jj (by simp[lk]) (fun _ _ q=>q) (fun _ _ q=>q) rfl rfl⟩
 ·have e:i=s.length:=by omega
  subst e;rw[List.drop_length] at hiv;have hiv:false=v:=hiv;subst hiv;simp -implicitDefEqProofs (disch:=omega) only[Wz,seval];exact fin _ _
end Go.Proofs.Y
end
