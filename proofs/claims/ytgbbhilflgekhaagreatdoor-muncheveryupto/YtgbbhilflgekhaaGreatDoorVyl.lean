/- Parts of the proof, laid together. -/
import Derived.Test.YtgbbhilflgekhaaGreatDoorVyk
set_option linter.unusedVariables false
set_option linter.unusedSimpArgs false
set_option maxRecDepth 20000
set_option maxHeartbeats 16000000
section
namespace Go.Proofs.Y
open Go Go.Ab
def nbB (s:ByteArray)(i:Nat):Bool:=decide (i<s.size) && decide (bt s i / 64=2)
def nbV (s:ByteArray)(i:Nat):Nat:=if nbB s i then bt s i % 64 else 0
theorem Jyp{b:Nat}(h:b<256):(IntKind.u8.wrap ((BitVec.ofInt IntKind.u8.bits (b:Int) &&& BitVec.ofInt IntKind.u8.bits 192).toNat:Int)==128)=decide (b / 64=2):=by
 have key:∀ x:Fin 256,(IntKind.u8.wrap ((BitVec.ofInt IntKind.u8.bits ((x.1:Nat):Int) &&& BitVec.ofInt IntKind.u8.bits 192).toNat:Int)==128)=decide (x.1 / 64=2):=by decide +kernel
 exact key ⟨b,h⟩
theorem Jzk{b:Nat}(h:b<256):IntKind.u8.wrap ((BitVec.ofInt IntKind.u8.bits (b:Int) &&& BitVec.ofInt IntKind.u8.bits 63).toNat:Int)=((b % 64:Nat):Int):=by
 have key:∀ x:Fin 256,IntKind.u8.wrap ((BitVec.ofInt IntKind.u8.bits ((x.1:Nat):Int) &&& BitVec.ofInt IntKind.u8.bits 63).toNat:Int)=((x.1 % 64:Nat):Int):=by decide +kernel
 exact key ⟨b,h⟩
theorem Jzl{b:Nat}(h:b<256):IntKind.i32.wrap ((BitVec.ofInt IntKind.i32.bits (b:Int) &&& BitVec.ofInt IntKind.i32.bits 31).toNat:Int)=((b % 32:Nat):Int):=by
 have key:∀ x:Fin 256,IntKind.i32.wrap ((BitVec.ofInt IntKind.i32.bits ((x.1:Nat):Int) &&& BitVec.ofInt IntKind.i32.bits 31).toNat:Int)=((x.1 % 32:Nat):Int):=by decide +kernel
 exact key ⟨b,h⟩
theorem Jzm{b:Nat}(h:b<256):IntKind.i32.wrap ((BitVec.ofInt IntKind.i32.bits (b:Int) &&& BitVec.ofInt IntKind.i32.bits 15).toNat:Int)=((b % 16:Nat):Int):=by
 have key:∀ x:Fin 256,IntKind.i32.wrap ((BitVec.ofInt IntKind.i32.bits ((x.1:Nat):Int) &&& BitVec.ofInt IntKind.i32.bits 15).toNat:Int)=((x.1 % 16:Nat):Int):=by decide +kernel
 exact key ⟨b,h⟩
theorem JBt{b:Nat}(h:b<256):IntKind.i32.wrap ((BitVec.ofInt IntKind.i32.bits (b:Int) &&& BitVec.ofInt IntKind.i32.bits 7).toNat:Int)=((b % 8:Nat):Int):=by
 have key:∀ x:Fin 256,IntKind.i32.wrap ((BitVec.ofInt IntKind.i32.bits ((x.1:Nat):Int) &&& BitVec.ofInt IntKind.i32.bits 7).toNat:Int)=((x.1 % 8:Nat):Int):=by decide +kernel
 exact key ⟨b,h⟩
theorem Jo0{a:Nat}(h:a<4294967296):(BitVec.ofInt 32 (a:Int)).toNat=a:=by
 rw[BitVec.ofInt_natCast,BitVec.toNat_ofNat];exact Nat.mod_eq_of_lt h
theorem JyU{x:Nat}(h:x<1000000):IntKind.i32.wrap ((x:Int) * 2 ^ min (Int.toNat 6) IntKind.i32.bits)=((x * 64:Nat):Int):=by
 have e:((x:Int) * 2 ^ min (Int.toNat 6) IntKind.i32.bits)=((x * 64:Nat):Int):=by
  show (x:Int) * 2 ^ 6=_;omega
 rw[e];exact IntWalk.i32_in _ ⟨by omega,by omega⟩
theorem JsS{x:Nat}(h:x<1000000):IntKind.i32.wrap ((x:Int) * 2 ^ min 6 IntKind.i32.bits)=((x * 64:Nat):Int):=JyU h
theorem or6{x y:Nat}(h:x<1000000)(hy:y<64):IntKind.i32.wrap ((BitVec.ofInt IntKind.i32.bits ((x * 64:Nat):Int) ||| BitVec.ofInt IntKind.i32.bits (y:Int)).toNat:Int)=((x * 64+y:Nat):Int):=by
 have e:(BitVec.ofInt IntKind.i32.bits ((x * 64:Nat):Int) ||| BitVec.ofInt IntKind.i32.bits (y:Int)).toNat=x * 64+y:=by
  show (BitVec.ofInt 32 ((x * 64:Nat):Int) ||| BitVec.ofInt 32 (y:Int)).toNat=_;rw[BitVec.toNat_or,Jo0 (by omega),Jo0 (by omega)];have:=Nat.two_pow_add_eq_or_of_lt (i:=6) (b:=y) (by omega) x;rw[show x * 64=2 ^ 6 * x by omega,this]
 rw[e];exact IntWalk.i32_in _ ⟨by omega,by omega⟩
theorem byQ(l:List UInt8)(i:Nat):Jbb (l.getD i default)=[.lit (.int .u8 (bt (ofB l) i:Int))]:=by
 unfold Jbb;rw[Jju];rfl
theorem JkO(L:List (Nat × List Value))(l:List UInt8)(f:Bool)(i:Nat)(hl:l.length<=1000000000)(hi:i<=2000000000):JN Tryz.prog 36 [inV L l f,.lit (.int .i64 (i:Int))] (.tup [.lit (.int .i32 (nbV (ofB l) i:Int)),.lit (.bool (nbB (ofB l) i))]):=by
 refine JD (Ju Tryz.func36 rfl Tryz.ntmps36 (rs:=[.tmp 4,.tmp 5]) rfl (by simp) ?_);have hsz:=JaR l;unfold nbV nbB;rw[hsz];refine Jl ?_;rcases Nat.lt_or_ge i l.length with hlt | hge
 ·have hq:=byQ l i;have hb:=Jeh (ofB l) i;generalize bt (ofB l) i=b at hq hb ⊢;have h1:=Jyp hb;have h2:=Jzk hb;have hw:IntKind.i32.wrap ((b % 64:Nat):Int)=((b % 64:Nat):Int):=IntWalk.i32_in _ ⟨by omega,by omega⟩;rw[decide_eq_true hlt,Bool.true_and];by_cases h:b / 64=2
  ·rw[decide_eq_true h] at h1;rw[if_pos (decide_eq_true h),decide_eq_true h];simp (disch:=omega) only[Wz,seval,inV,hq,h1,h2,hw];exact JH (Jj (Jb (.lit _)) (Jj (Jb (.lit _)) JA))
  ·rw[decide_eq_false h] at h1;rw[if_neg (by rw[decide_eq_false h];decide),decide_eq_false h];simp (disch:=omega) only[Wz,seval,inV,hq,h1,h2,hw];exact JH (Jj (Jb (.lit _)) (Jj (Jb (.lit _)) JA))
 ·rw[decide_eq_false (by omega),Bool.false_and,if_neg (by decide)];simp (disch:=omega) only[Wz,seval,inV];exact JH (Jj (Jb (.lit _)) (Jj (Jb (.lit _)) JA))
def Jc8 (s:ByteArray)(i x0:Nat):Nat->Nat
 | 0=>x0
 | k+1=>Jc8 s i x0 k * 64+bt s (i+(k+1)) % 64
def JjU (s:ByteArray)(i:Nat):Nat->Bool
 | 0=>true
 | k+1=>JjU s i k && nbB s (i+(k+1))
theorem Jip{s:ByteArray}{i:Nat}:∀ {k j:Nat},nbB s (i+(j+1))=false->j<k->JjU s i k=false
 | k+1,j,h,hj=>by
  simp only[JjU,Bool.and_eq_false_iff];rcases Nat.lt_or_ge j k with q | q
  ·exact .inl (Jip h q)
  ·have:j=k:=by omega
   subst this;exact .inr h
def Jpo (n c x least:Nat):Bool:=(decide (n=1) && decide (128<=c)) || (decide (x<least) || (decide (1114111<x) || (decide (55296<=x) && decide (x<=57343))))
def rU (s:ByteArray)(i n x0 least:Nat):Nat × Nat :=
 if JjU s i (n - 1) then (if Jpo n (bt s i) (Jc8 s i x0 (n - 1)) least then (1114112+bt s i,1) else (Jc8 s i x0 (n - 1),n)) else (1114112+bt s i,1)
theorem Jqz(L:List (Nat × List Value))(l:List UInt8)(f:Bool)(i:Nat)(hl:l.length<=1000000000)(hi:i<l.length)(h0:192<=bt (ofB l) i)(h9:bt (ofB l) i<224) :
    JN Tryz.prog 15 [inV L l f,.lit (.int .i64 (i:Int))] (.tup [.lit (.int .i32 ((rU (ofB l) i 2 (bt (ofB l) i % 32) 128).1:Int)),.lit (.int .i64 ((rU (ofB l) i 2 (bt (ofB l) i % 32) 128).2:Int))]):=by
  refine JD (Ju Tryz.func15 rfl Tryz.ntmps15 (rs:=[.tmp 4,.tmp 5]) rfl (by simp) ?_);have hq:=byQ l i;have hpx:=JaS L l f;have hnx:=fun k hk=>JkO L l f k hl hk
  have hrU:rU (ofB l) i 2 (bt (ofB l) i % 32) 128=if JjU (ofB l) i (2 - 1) then (if Jpo 2 (bt (ofB l) i) (Jc8 (ofB l) i (bt (ofB l) i % 32) (2 - 1)) 128 then (1114112+bt (ofB l) i,1) else (Jc8 (ofB l) i (bt (ofB l) i % 32) (2 - 1),2)) else (1114112+bt (ofB l) i,1):=rfl
  unfold inV at hpx hnx ⊢;generalize hs:ofB l=s at hq hnx hrU h0 h9 ⊢;generalize hb:bt s i=b at hq hrU h0 h9 ⊢;have ha:=Jzl (b:=b) (by omega);have hw:IntKind.i32.wrap (b:Int)=(b:Int):=IntWalk.i32_in _ ⟨by omega,by omega⟩;have hwb:IntKind.i32.wrap ((1114112+b:Nat):Int)=((1114112+b:Nat):Int):=IntWalk.i32_in _ ⟨by omega,by omega⟩;have hcast:(1114112+(b:Int))=((1114112+b:Nat):Int):=by omega
  refine Jl ?_;simp (disch:=omega) only[Wz,seval,hq,hw,ha];have hacc:∀ k,k<=2 - 1->Jc8 s i (b % 32) k<32 * 64 ^ k:=by
    intro k;induction k with
    | zero=>intro _;show b % 32<_;omega
    | succ k ih=>intro hk;have:=ih (by omega);show Jc8 s i (b % 32) k * 64+bt s (i+(k+1)) % 64<_;rw[Nat.pow_succ];omega
  have hacc2:∀ k,k<=2 - 1->Jc8 s i (b % 32) k<4000000:=fun k hk=>by
    have:=hacc k hk;have h2:64 ^ k<=64 ^ (2 - 1):=Nat.pow_le_pow_right (by omega) hk;have h3:=Nat.mul_le_mul_left 32 h2;have h4:32 * 64 ^ (2 - 1)<=4000000:=by decide
    omega
  have hacc3:∀ k,k<2 - 1->Jc8 s i (b % 32) k<1000000:=fun k hk=>by
    have:=hacc k (by omega);have h2:64 ^ k<=64 ^ (2 - 2):=Nat.pow_le_pow_right (by omega) (by omega);have h3:=Nat.mul_le_mul_left 32 h2;have h4:32 * 64 ^ (2 - 2)<=1000000:=by decide
    omega
  refine Js (fun k:Nat=>⟨[(0,.wit L (.vec (l.map Jbb) f)),(1,.lit (.int .i64 (i:Int))),(6,.lit (.int .i32 (b:Int))),(7,.lit (.int .i64 2)),(8,.lit (.int .i32 (Jc8 s i (b % 32) k:Int))),(9,.lit (.int .i32 128)),(10,.lit (.int .i64 ((k+1:Nat):Int)))],.none,99⟩) (fun k=>k<=2 - 1/\JjU s i k=true) (fun k=>2 - k) 0 (Jn (by simp[lk,Jc8]) (fun _ _ e=>e) (fun _ _ e=>e) rfl rfl) ⟨by omega,rfl⟩ ?_;rintro k ⟨hk,hall⟩;refine Jl ?_;rcases Nat.lt_or_ge k (2 - 1) with hlt | hge
  · have hki:(i:Int)+((k+1:Nat):Int)=((i+(k+1):Nat):Int):=by omega
    have hwi:IntKind.i64.wrap ((i+(k+1):Nat):Int)=((i+(k+1):Nat):Int):=Jdh (by omega) (by omega);simp (disch:=omega) only[Wz,seval,hki,hwi];refine Jg JnR (hnx _ (by omega)) (Jc hpx (Jc (.lit _) Jm)) (.tup (Jc (.lit _) (Jc (.lit _) Jm))) ?_;have hnv:nbV s (i+(k+1))=if nbB s (i+(k+1)) then bt s (i+(k+1)) % 64 else 0:=rfl
    cases hn:nbB s (i+(k+1)) with
    | false =>
      rw[hrU,if_neg (by rw[Jip hn hlt];decide)];simp (disch:=omega) only[Wz,seval,hwb,hcast];exact JH (Jj (Jb (.lit _)) (Jj (Jb (.lit _)) JA))
    | true =>
      rw[hn,if_pos rfl] at hnv;have hx3:=hacc3 k hlt;have hs6:=JyU hx3;have hs6b:=JsS hx3;have ho6:=or6 hx3 (y:=nbV s (i+(k+1))) (by rw[hnv];omega);have hk1:IntKind.i64.wrap (((k+1:Nat):Int)+1)=((k+1+1:Nat):Int):=Jdh (by omega) (by omega);simp (disch:=omega) only[Wz,seval,hs6,hs6b,ho6,hk1];refine⟨k+1,⟨by omega,?_⟩,by omega,?_⟩
      · simp only[JjU,hall,hn,Bool.and_self]
      · refine Jn ?_ (fun _ _ e=>e) (fun _ _ e=>e) rfl rfl
        have e:Jc8 s i (b % 32) k * 64+nbV s (i+(k+1))=Jc8 s i (b % 32) (k+1):=by rw[hnv];rfl
        rw[e];simp[lk]
  · have hke:k=2 - 1:=by omega
    subst hke;rw[hrU,if_pos hall];have hx:=hacc2 _ (Nat.le_refl _);generalize Jc8 s i (b % 32) (2 - 1)=x at hx ⊢;unfold Jpo;by_cases h1:x<128
    · rw[if_pos (by simp only[decide_eq_true h1,Bool.true_or,Bool.or_true])]
      simp (disch:=omega) only[Wz,seval,hwb,hcast];exact JH (Jj (Jb (.lit _)) (Jj (Jb (.lit _)) JA))
    by_cases h2:1114111<x
    · rw[if_pos (by simp only[decide_eq_true h2,Bool.true_or,Bool.or_true])]
      simp (disch:=omega) only[Wz,seval,hwb,hcast];exact JH (Jj (Jb (.lit _)) (Jj (Jb (.lit _)) JA))
    by_cases h3:55296<=x
    · by_cases h4:x<=57343
      · rw[if_pos (by simp only[decide_eq_true h3,decide_eq_true h4,Bool.and_self,Bool.or_true])]
        first
        | (exfalso;omega)
        | (simp (disch:=omega) only[Wz,seval,hwb,hcast]
           exact JH (Jj (Jb (.lit _)) (Jj (Jb (.lit _)) JA)))
      · rw[if_neg (by simp only[decide_eq_false h1,decide_eq_false h2,decide_eq_false h4];simp)]
        first
        | (exfalso;omega)
        | (simp (disch:=omega) only[Wz,seval,hwb,hcast]
           exact JH (Jj (Jb (.lit _)) (Jj (Jb (.lit _)) JA)))
    · rw[if_neg (by simp only[decide_eq_false h1,decide_eq_false h2,decide_eq_false h3];simp)]
      first
      | (exfalso;omega)
      | (simp (disch:=omega) only[Wz,seval,hwb,hcast]
         exact JH (Jj (Jb (.lit _)) (Jj (Jb (.lit _)) JA)))
theorem JqA(L:List (Nat × List Value))(l:List UInt8)(f:Bool)(i:Nat)(hl:l.length<=1000000000)(hi:i<l.length)(h0:224<=bt (ofB l) i)(h9:bt (ofB l) i<240) :
    JN Tryz.prog 15 [inV L l f,.lit (.int .i64 (i:Int))] (.tup [.lit (.int .i32 ((rU (ofB l) i 3 (bt (ofB l) i % 16) 2048).1:Int)),.lit (.int .i64 ((rU (ofB l) i 3 (bt (ofB l) i % 16) 2048).2:Int))]):=by
  refine JD (Ju Tryz.func15 rfl Tryz.ntmps15 (rs:=[.tmp 4,.tmp 5]) rfl (by simp) ?_);have hq:=byQ l i;have hpx:=JaS L l f;have hnx:=fun k hk=>JkO L l f k hl hk
  have hrU:rU (ofB l) i 3 (bt (ofB l) i % 16) 2048=if JjU (ofB l) i (3 - 1) then (if Jpo 3 (bt (ofB l) i) (Jc8 (ofB l) i (bt (ofB l) i % 16) (3 - 1)) 2048 then (1114112+bt (ofB l) i,1) else (Jc8 (ofB l) i (bt (ofB l) i % 16) (3 - 1),3)) else (1114112+bt (ofB l) i,1):=rfl
  unfold inV at hpx hnx ⊢;generalize hs:ofB l=s at hq hnx hrU h0 h9 ⊢;generalize hb:bt s i=b at hq hrU h0 h9 ⊢;have ha:=Jzm (b:=b) (by omega);have hw:IntKind.i32.wrap (b:Int)=(b:Int):=IntWalk.i32_in _ ⟨by omega,by omega⟩;have hwb:IntKind.i32.wrap ((1114112+b:Nat):Int)=((1114112+b:Nat):Int):=IntWalk.i32_in _ ⟨by omega,by omega⟩;have hcast:(1114112+(b:Int))=((1114112+b:Nat):Int):=by omega
  refine Jl ?_;simp (disch:=omega) only[Wz,seval,hq,hw,ha];have hacc:∀ k,k<=3 - 1->Jc8 s i (b % 16) k<16 * 64 ^ k:=by
    intro k;induction k with
    | zero=>intro _;show b % 16<_;omega
    | succ k ih=>intro hk;have:=ih (by omega);show Jc8 s i (b % 16) k * 64+bt s (i+(k+1)) % 64<_;rw[Nat.pow_succ];omega
  have hacc2:∀ k,k<=3 - 1->Jc8 s i (b % 16) k<4000000:=fun k hk=>by
    have:=hacc k hk;have h2:64 ^ k<=64 ^ (3 - 1):=Nat.pow_le_pow_right (by omega) hk;have h3:=Nat.mul_le_mul_left 16 h2;have h4:16 * 64 ^ (3 - 1)<=4000000:=by decide
    omega
  have hacc3:∀ k,k<3 - 1->Jc8 s i (b % 16) k<1000000:=fun k hk=>by
    have:=hacc k (by omega);have h2:64 ^ k<=64 ^ (3 - 2):=Nat.pow_le_pow_right (by omega) (by omega);have h3:=Nat.mul_le_mul_left 16 h2;have h4:16 * 64 ^ (3 - 2)<=1000000:=by decide
    omega
  refine Js (fun k:Nat=>⟨[(0,.wit L (.vec (l.map Jbb) f)),(1,.lit (.int .i64 (i:Int))),(6,.lit (.int .i32 (b:Int))),(7,.lit (.int .i64 3)),(8,.lit (.int .i32 (Jc8 s i (b % 16) k:Int))),(9,.lit (.int .i32 2048)),(10,.lit (.int .i64 ((k+1:Nat):Int)))],.none,99⟩) (fun k=>k<=3 - 1/\JjU s i k=true) (fun k=>3 - k) 0 (Jn (by simp[lk,Jc8]) (fun _ _ e=>e) (fun _ _ e=>e) rfl rfl) ⟨by omega,rfl⟩ ?_;rintro k ⟨hk,hall⟩;refine Jl ?_;rcases Nat.lt_or_ge k (3 - 1) with hlt | hge
  · have hki:(i:Int)+((k+1:Nat):Int)=((i+(k+1):Nat):Int):=by omega
    have hwi:IntKind.i64.wrap ((i+(k+1):Nat):Int)=((i+(k+1):Nat):Int):=Jdh (by omega) (by omega);simp (disch:=omega) only[Wz,seval,hki,hwi];refine Jg JnR (hnx _ (by omega)) (Jc hpx (Jc (.lit _) Jm)) (.tup (Jc (.lit _) (Jc (.lit _) Jm))) ?_;have hnv:nbV s (i+(k+1))=if nbB s (i+(k+1)) then bt s (i+(k+1)) % 64 else 0:=rfl
    cases hn:nbB s (i+(k+1)) with
    | false =>
      rw[hrU,if_neg (by rw[Jip hn hlt];decide)];simp (disch:=omega) only[Wz,seval,hwb,hcast];exact JH (Jj (Jb (.lit _)) (Jj (Jb (.lit _)) JA))
    | true =>
      rw[hn,if_pos rfl] at hnv;have hx3:=hacc3 k hlt;have hs6:=JyU hx3;have hs6b:=JsS hx3;have ho6:=or6 hx3 (y:=nbV s (i+(k+1))) (by rw[hnv];omega);have hk1:IntKind.i64.wrap (((k+1:Nat):Int)+1)=((k+1+1:Nat):Int):=Jdh (by omega) (by omega);simp (disch:=omega) only[Wz,seval,hs6,hs6b,ho6,hk1];refine⟨k+1,⟨by omega,?_⟩,by omega,?_⟩
      · simp only[JjU,hall,hn,Bool.and_self]
      · refine Jn ?_ (fun _ _ e=>e) (fun _ _ e=>e) rfl rfl
        have e:Jc8 s i (b % 16) k * 64+nbV s (i+(k+1))=Jc8 s i (b % 16) (k+1):=by rw[hnv];rfl
        rw[e];simp[lk]
  · have hke:k=3 - 1:=by omega
    subst hke;rw[hrU,if_pos hall];have hx:=hacc2 _ (Nat.le_refl _);generalize Jc8 s i (b % 16) (3 - 1)=x at hx ⊢;unfold Jpo;by_cases h1:x<2048
    · rw[if_pos (by simp only[decide_eq_true h1,Bool.true_or,Bool.or_true])]
      simp (disch:=omega) only[Wz,seval,hwb,hcast];exact JH (Jj (Jb (.lit _)) (Jj (Jb (.lit _)) JA))
    by_cases h2:1114111<x
    · rw[if_pos (by simp only[decide_eq_true h2,Bool.true_or,Bool.or_true])]
      simp (disch:=omega) only[Wz,seval,hwb,hcast];exact JH (Jj (Jb (.lit _)) (Jj (Jb (.lit _)) JA))
    by_cases h3:55296<=x
    · by_cases h4:x<=57343
      · rw[if_pos (by simp only[decide_eq_true h3,decide_eq_true h4,Bool.and_self,Bool.or_true])]
        first
        | (exfalso;omega)
        | (simp (disch:=omega) only[Wz,seval,hwb,hcast]
           exact JH (Jj (Jb (.lit _)) (Jj (Jb (.lit _)) JA)))
      · rw[if_neg (by simp only[decide_eq_false h1,decide_eq_false h2,decide_eq_false h4];simp)]
        first
        | (exfalso;omega)
        | (simp (disch:=omega) only[Wz,seval,hwb,hcast]
           exact JH (Jj (Jb (.lit _)) (Jj (Jb (.lit _)) JA)))
    · rw[if_neg (by simp only[decide_eq_false h1,decide_eq_false h2,decide_eq_false h3];simp)]
      first
      | (exfalso;omega)
      | (simp (disch:=omega) only[Wz,seval,hwb,hcast]
         exact JH (Jj (Jb (.lit _)) (Jj (Jb (.lit _)) JA)))
theorem JqB(L:List (Nat × List Value))(l:List UInt8)(f:Bool)(i:Nat)(hl:l.length<=1000000000)(hi:i<l.length)(h0:240<=bt (ofB l) i)(h9:bt (ofB l) i<248) :
    JN Tryz.prog 15 [inV L l f,.lit (.int .i64 (i:Int))] (.tup [.lit (.int .i32 ((rU (ofB l) i 4 (bt (ofB l) i % 8) 65536).1:Int)),.lit (.int .i64 ((rU (ofB l) i 4 (bt (ofB l) i % 8) 65536).2:Int))]):=by
  refine JD (Ju Tryz.func15 rfl Tryz.ntmps15 (rs:=[.tmp 4,.tmp 5]) rfl (by simp) ?_);have hq:=byQ l i;have hpx:=JaS L l f;have hnx:=fun k hk=>JkO L l f k hl hk
  have hrU:rU (ofB l) i 4 (bt (ofB l) i % 8) 65536=if JjU (ofB l) i (4 - 1) then (if Jpo 4 (bt (ofB l) i) (Jc8 (ofB l) i (bt (ofB l) i % 8) (4 - 1)) 65536 then (1114112+bt (ofB l) i,1) else (Jc8 (ofB l) i (bt (ofB l) i % 8) (4 - 1),4)) else (1114112+bt (ofB l) i,1):=rfl
  unfold inV at hpx hnx ⊢;generalize hs:ofB l=s at hq hnx hrU h0 h9 ⊢;generalize hb:bt s i=b at hq hrU h0 h9 ⊢;have ha:=JBt (b:=b) (by omega);have hw:IntKind.i32.wrap (b:Int)=(b:Int):=IntWalk.i32_in _ ⟨by omega,by omega⟩;have hwb:IntKind.i32.wrap ((1114112+b:Nat):Int)=((1114112+b:Nat):Int):=IntWalk.i32_in _ ⟨by omega,by omega⟩;have hcast:(1114112+(b:Int))=((1114112+b:Nat):Int):=by omega
  refine Jl ?_;simp (disch:=omega) only[Wz,seval,hq,hw,ha];have hacc:∀ k,k<=4 - 1->Jc8 s i (b % 8) k<8 * 64 ^ k:=by
    intro k;induction k with
    | zero=>intro _;show b % 8<_;omega
    | succ k ih=>intro hk;have:=ih (by omega);show Jc8 s i (b % 8) k * 64+bt s (i+(k+1)) % 64<_;rw[Nat.pow_succ];omega
  have hacc2:∀ k,k<=4 - 1->Jc8 s i (b % 8) k<4000000:=fun k hk=>by
    have:=hacc k hk;have h2:64 ^ k<=64 ^ (4 - 1):=Nat.pow_le_pow_right (by omega) hk;have h3:=Nat.mul_le_mul_left 8 h2;have h4:8 * 64 ^ (4 - 1)<=4000000:=by decide
    omega
  have hacc3:∀ k,k<4 - 1->Jc8 s i (b % 8) k<1000000:=fun k hk=>by
    have:=hacc k (by omega);have h2:64 ^ k<=64 ^ (4 - 2):=Nat.pow_le_pow_right (by omega) (by omega);have h3:=Nat.mul_le_mul_left 8 h2;have h4:8 * 64 ^ (4 - 2)<=1000000:=by decide
    omega
  refine Js (fun k:Nat=>⟨[(0,.wit L (.vec (l.map Jbb) f)),(1,.lit (.int .i64 (i:Int))),(6,.lit (.int .i32 (b:Int))),(7,.lit (.int .i64 4)),(8,.lit (.int .i32 (Jc8 s i (b % 8) k:Int))),(9,.lit (.int .i32 65536)),(10,.lit (.int .i64 ((k+1:Nat):Int)))],.none,99⟩) (fun k=>k<=4 - 1/\JjU s i k=true) (fun k=>4 - k) 0 (Jn (by simp[lk,Jc8]) (fun _ _ e=>e) (fun _ _ e=>e) rfl rfl) ⟨by omega,rfl⟩ ?_;rintro k ⟨hk,hall⟩;refine Jl ?_;rcases Nat.lt_or_ge k (4 - 1) with hlt | hge
  · have hki:(i:Int)+((k+1:Nat):Int)=((i+(k+1):Nat):Int):=by omega
    have hwi:IntKind.i64.wrap ((i+(k+1):Nat):Int)=((i+(k+1):Nat):Int):=Jdh (by omega) (by omega);simp (disch:=omega) only[Wz,seval,hki,hwi];refine Jg JnR (hnx _ (by omega)) (Jc hpx (Jc (.lit _) Jm)) (.tup (Jc (.lit _) (Jc (.lit _) Jm))) ?_;have hnv:nbV s (i+(k+1))=if nbB s (i+(k+1)) then bt s (i+(k+1)) % 64 else 0:=rfl
    cases hn:nbB s (i+(k+1)) with
    | false =>
      rw[hrU,if_neg (by rw[Jip hn hlt];decide)];simp (disch:=omega) only[Wz,seval,hwb,hcast];exact JH (Jj (Jb (.lit _)) (Jj (Jb (.lit _)) JA))
    | true =>
      rw[hn,if_pos rfl] at hnv;have hx3:=hacc3 k hlt;have hs6:=JyU hx3;have hs6b:=JsS hx3;have ho6:=or6 hx3 (y:=nbV s (i+(k+1))) (by rw[hnv];omega);have hk1:IntKind.i64.wrap (((k+1:Nat):Int)+1)=((k+1+1:Nat):Int):=Jdh (by omega) (by omega);simp (disch:=omega) only[Wz,seval,hs6,hs6b,ho6,hk1];refine⟨k+1,⟨by omega,?_⟩,by omega,?_⟩
      · simp only[JjU,hall,hn,Bool.and_self]
      · refine Jn ?_ (fun _ _ e=>e) (fun _ _ e=>e) rfl rfl
        have e:Jc8 s i (b % 8) k * 64+nbV s (i+(k+1))=Jc8 s i (b % 8) (k+1):=by rw[hnv];rfl
        rw[e];simp[lk]
  · have hke:k=4 - 1:=by omega
    subst hke;rw[hrU,if_pos hall];have hx:=hacc2 _ (Nat.le_refl _);generalize Jc8 s i (b % 8) (4 - 1)=x at hx ⊢;unfold Jpo;by_cases h1:x<65536
    · rw[if_pos (by simp only[decide_eq_true h1,Bool.true_or,Bool.or_true])]
      simp (disch:=omega) only[Wz,seval,hwb,hcast];exact JH (Jj (Jb (.lit _)) (Jj (Jb (.lit _)) JA))
    by_cases h2:1114111<x
    · rw[if_pos (by simp only[decide_eq_true h2,Bool.true_or,Bool.or_true])]
      simp (disch:=omega) only[Wz,seval,hwb,hcast];exact JH (Jj (Jb (.lit _)) (Jj (Jb (.lit _)) JA))
    by_cases h3:55296<=x
    · by_cases h4:x<=57343
      · rw[if_pos (by simp only[decide_eq_true h3,decide_eq_true h4,Bool.and_self,Bool.or_true])]
        first
        | (exfalso;omega)
        | (simp (disch:=omega) only[Wz,seval,hwb,hcast]
           exact JH (Jj (Jb (.lit _)) (Jj (Jb (.lit _)) JA)))
      · rw[if_neg (by simp only[decide_eq_false h1,decide_eq_false h2,decide_eq_false h4];simp)]
        first
        | (exfalso;omega)
        | (simp (disch:=omega) only[Wz,seval,hwb,hcast]
           exact JH (Jj (Jb (.lit _)) (Jj (Jb (.lit _)) JA)))
    · rw[if_neg (by simp only[decide_eq_false h1,decide_eq_false h2,decide_eq_false h3];simp)]
      first
      | (exfalso;omega)
      | (simp (disch:=omega) only[Wz,seval,hwb,hcast]
         exact JH (Jj (Jb (.lit _)) (Jj (Jb (.lit _)) JA)))
end Go.Proofs.Y
end
section
namespace Go.Proofs.Y
open Go Go.Ab
theorem JqC(L:List (Nat × List Value))(l:List UInt8)(f:Bool)(i:Nat)(hl:l.length<=1000000000)(hi:i<l.length)(h0:bt (ofB l) i<192\/248<=bt (ofB l) i) :
  JN Tryz.prog 15 [inV L l f,.lit (.int .i64 (i:Int))] (.tup [.lit (.int .i32 (((if 128<=bt (ofB l) i then 1114112+bt (ofB l) i else bt (ofB l) i):Nat):Int)),.lit (.int .i64 1)]):=by
 refine JD (Ju Tryz.func15 rfl Tryz.ntmps15 (rs:=[.tmp 4,.tmp 5]) rfl (by simp) ?_);have hq:=byQ l i;have hb9:=Jeh (ofB l) i;generalize ofB l=s at hq h0 hb9 ⊢;generalize hb:bt s i=b at hq h0 hb9 ⊢;have hw:IntKind.i32.wrap (b:Int)=(b:Int):=IntWalk.i32_in _ ⟨by omega,by omega⟩;have hwb:IntKind.i32.wrap ((1114112+b:Nat):Int)=((1114112+b:Nat):Int):=IntWalk.i32_in _ ⟨by omega,by omega⟩;have hcast:(1114112+(b:Int))=((1114112+b:Nat):Int):=by omega
 obtain⟨v,hv⟩:∃ v:Nat,(if 128<=b then 1114112+b else b)=v:=⟨_,rfl⟩;rw[hv];refine Jl ?_;unfold inV;rcases h0 with h0 | h0
 ·simp (disch:=omega) only[Wz,seval,hq,hw];refine Js (A:=Unit) (fun _=>⟨[(6,.lit (.int .i32 (b:Int))),(7,.lit (.int .i64 1)),(8,.lit (.int .i32 (b:Int))),(9,.lit (.int .i32 0)),(10,.lit (.int .i64 1))],.none,99⟩) (fun _=>True) (fun _=>0) () (Jn (by simp[lk]) (fun _ _ e=>e) (fun _ _ e=>e) rfl rfl) trivial ?_;rintro _ _;refine Jl ?_;by_cases h1:128<=b
  ·rw[if_pos h1] at hv;subst hv;simp (disch:=omega) only[Wz,seval,hwb,hcast];exact JH (Jj (Jb (.lit _)) (Jj (Jb (.lit _)) JA))
  ·rw[if_neg h1] at hv;subst hv;simp (disch:=omega) only[Wz,seval,hwb,hcast];exact JH (Jj (Jb (.lit _)) (Jj (Jb (.lit _)) JA))
 ·simp (disch:=omega) only[Wz,seval,hq,hw];refine Js (A:=Unit) (fun _=>⟨[(6,.lit (.int .i32 (b:Int))),(7,.lit (.int .i64 1)),(8,.lit (.int .i32 (b:Int))),(9,.lit (.int .i32 0)),(10,.lit (.int .i64 1))],.none,99⟩) (fun _=>True) (fun _=>0) () (Jn (by simp[lk]) (fun _ _ e=>e) (fun _ _ e=>e) rfl rfl) trivial ?_;rintro _ _;refine Jl ?_;rw[if_pos (by omega)] at hv;subst hv;simp (disch:=omega) only[Wz,seval,hwb,hcast];exact JH (Jj (Jb (.lit _)) (Jj (Jb (.lit _)) JA))
theorem rU2{s:ByteArray}{i:Nat}(hi:i<s.size)(h0:192<=bt s i)(h9:bt s i<224):rU s i 2 (bt s i % 32) 128=uV s i:=by
 have h1:=Jeh s (i+1);unfold rU uV dcV Lib.decodeN Jpo;simp only[JjU,Jc8,nbB,Bool.true_and];generalize bt s i=b at h0 h9 ⊢;generalize bt s (i+1)=b1 at h1 ⊢;generalize bt s (i+2)=b2;generalize bt s (i+3)=b3;simp only[Bool.and_eq_true,Bool.or_eq_true,decide_eq_true_eq];repeat' split
 all_goals first | (exfalso;omega) | (simp only[Prod.mk.injEq,and_true,true_and];done) | (apply Prod.ext <;> simp only <;> omega)
theorem rU3{s:ByteArray}{i:Nat}(hi:i<s.size)(h0:224<=bt s i)(h9:bt s i<240):rU s i 3 (bt s i % 16) 2048=uV s i:=by
 have h1:=Jeh s (i+1);have h2:=Jeh s (i+2);unfold rU uV dcV Lib.decodeN Jpo;simp only[JjU,Jc8,nbB,Bool.true_and];generalize bt s i=b at h0 h9 ⊢;generalize bt s (i+1)=b1 at h1 ⊢;generalize bt s (i+2)=b2 at h2 ⊢;generalize bt s (i+3)=b3;simp only[Bool.and_eq_true,Bool.or_eq_true,decide_eq_true_eq];repeat' split
 all_goals first | (exfalso;omega) | (simp only[Prod.mk.injEq,and_true,true_and];done) | (apply Prod.ext <;> simp only <;> omega)
theorem rU4{s:ByteArray}{i:Nat}(hi:i<s.size)(h0:240<=bt s i)(h9:bt s i<248):rU s i 4 (bt s i % 8) 65536=uV s i:=by
 have h1:=Jeh s (i+1);have h2:=Jeh s (i+2);have h3:=Jeh s (i+3);unfold rU uV dcV Lib.decodeN Jpo;simp only[JjU,Jc8,nbB,Bool.true_and];generalize bt s i=b at h0 h9 ⊢;generalize bt s (i+1)=b1 at h1 ⊢;generalize bt s (i+2)=b2 at h2 ⊢;generalize bt s (i+3)=b3 at h3 ⊢;simp only[Bool.and_eq_true,Bool.or_eq_true,decide_eq_true_eq];repeat' split
 all_goals first | (exfalso;omega) | (simp only[Prod.mk.injEq,and_true,true_and];done) | (apply Prod.ext <;> simp only <;> omega)
theorem rU1{s:ByteArray}{i:Nat}(h0:bt s i<192\/248<=bt s i):uV s i=(if 128<=bt s i then 1114112+bt s i else bt s i,1):=by
 have hb:=Jeh s i;unfold uV dcV Lib.decodeN;generalize bt s i=b at h0 hb ⊢;generalize bt s (i+1)=b1;generalize bt s (i+2)=b2;generalize bt s (i+3)=b3;repeat' split
 all_goals first | (exfalso;omega) | (apply Prod.ext <;> simp only <;> omega)
theorem JmR(L:List (Nat × List Value))(l:List UInt8)(f:Bool)(i:Nat)(hl:l.length<=1000000000)(hi:i<l.length) :
  JN Tryz.prog 15 [inV L l f,.lit (.int .i64 (i:Int))] (.tup [.lit (.int .i32 ((uV (ofB l) i).1:Int)),.lit (.int .i64 ((uV (ofB l) i).2:Int))]):=by
 have hs:i<(ofB l).size:=by rw[JaR];exact hi
 by_cases h1:bt (ofB l) i<192\/248<=bt (ofB l) i
 ·rw[rU1 h1];exact JqC L l f i hl hi h1
 by_cases h2:bt (ofB l) i<224
 ·rw[<- rU2 hs (by omega) h2];exact Jqz L l f i hl hi (by omega) h2
 by_cases h3:bt (ofB l) i<240
 ·rw[<- rU3 hs (by omega) h3];exact JqA L l f i hl hi (by omega) h3
 ·rw[<- rU4 hs (by omega) (by omega)];exact JqB L l f i hl hi (by omega) (by omega)
end Go.Proofs.Y
end
section
namespace Go.Proofs.Y
open Go Go.Ab
end Go.Proofs.Y
end
section
namespace Go.Proofs.Y
open Go Go.Ab
open Go.Proofs.Tryz renaming prog->Pg
theorem Jfl(c:Int):JN Pg 130 [.lit (.int .u8 c)] (.lit (.bool (Jb5 c))):=by
  refine Jo Tryz.func130 rfl Tryz.ntmps130 (rs:=[.tmp 2]) rfl (by simp) ?_;unfold Jb5;by_cases h1:c >= 97 <;> by_cases h2:c<=122 <;> by_cases h3:c >= 65 <;> by_cases h4:c<=90 <;> first
    | omega
    | (simp (disch:=omega) only[Wz,seval,Bool.and_true,Bool.true_and,Bool.or_true,Bool.true_or,Bool.false_or,Bool.or_false,Bool.and_false,Bool.false_and]
       exact Jb (.lit _))
theorem JkP(c:Int):JN Pg 131 [.lit (.int .u8 c)] (.lit (.bool (Jgg c))):=by
  refine Jo Tryz.func131 rfl Tryz.ntmps131 (rs:=[.tmp 2]) rfl (by simp) ?_;unfold Jgg;by_cases h1:c >= 48 <;> by_cases h2:c<=57 <;> first
    | omega
    | (simp (disch:=omega) only[Wz,seval,Bool.and_true,Bool.true_and,Bool.or_true,Bool.true_or,Bool.false_or,Bool.or_false,Bool.and_false,Bool.false_and]
       exact Jb (.lit _))
def Jo1(s:ByteArray):Bool:=if JpX s then false else !(Jmj.any fun x=>s.toList==x.toList)
def JgF(s:ByteArray)(i:Nat):Bool:=((s.data.toList.drop i).all fun b=>JbH (b.toNat:Int)) && Jo1 s
theorem Jiq{α:Type}(p:α->Bool)(l:List α):decide ((l.takeWhile p).length<l.length) = !(l.all p):=by
 induction l with
 | nil=>rfl
 | cons x l ih =>
  rw[List.all_cons,List.takeWhile_cons];cases p x with
  | true=>simp only[if_true,List.length_cons,Nat.add_lt_add_iff_right,Bool.true_and];exact ih
  | false=>simp
theorem JkQ(s:ByteArray):Jhb s=if s.size=0 then false else if s.size > 40 then false else if Jb5 (JcI s 0)=false then false else JgF s 0:=by
 unfold Jhb;split
 ·rfl
 split
 ·rfl
 split
 ·rfl
 have h:=Jiq (fun b:UInt8=>JbH (b.toNat:Int)) s.data.toList;have e:s.data.toList.length=s.size:=by rw[Array.length_toList];rfl
 unfold JgF Jo1 Jcj;rw[List.drop_zero];cases ha:s.data.toList.all fun b=>JbH (b.toNat:Int) with
 | true =>
  rw[ha,e] at h;have h':¬ (s.data.toList.takeWhile fun b=>JbH (b.toNat:Int)).length<s.size:=of_decide_eq_false h;rw[if_neg h'];rfl
 | false =>
  rw[ha,e] at h;have h':(s.data.toList.takeWhile fun b=>JbH (b.toNat:Int)).length<s.size:=of_decide_eq_true h;rw[if_pos h'];rfl
theorem JmS{s:ByteArray}{i:Nat}(h:i<s.size):JgF s i=(JbH (JcI s i) && JgF s (i+1)):=by
 have h':i<s.data.toList.length:=by rw[Array.length_toList];exact h
 unfold JgF;rw[List.drop_eq_getElem_cons h',List.all_cons,Bool.and_assoc];congr 2
 unfold JcI;rw[Array.getD_eq_getD_getElem?,Array.getElem?_eq_getElem h];rfl
theorem JlN{s:ByteArray}{i:Nat}(h:i<s.size):((s[i]).toNat:Int)=JcI s i:=by
 unfold JcI;rw[Array.getD_eq_getD_getElem?,Array.getElem?_eq_getElem (show i<s.data.size from h)];rfl
theorem JmT(s:ByteArray)(hs:s.size<=9000000000000000000):JN Pg 123 [.lit (.string s)] (.lit (.bool (Jhb s))):=by
 refine Jo Tryz.func123 rfl Tryz.ntmps123 (rs:=[.tmp 2]) rfl (by simp) ?_;rw[JkQ];have fin:∀ h (b:Bool),Jdg h (.lit (.bool b)) (.lit (.bool b)):=fun h b=>Jb (.lit _);by_cases h0:s.size=0
 ·simp (disch:=omega) only[Wz,seval,Jbz];exact fin _ _
 by_cases h1:s.size > 40
 ·simp (disch:=omega) only[Wz,seval,Jbz];exact fin _ _
 have gb:s[0]? = some s[0]:=getElem?_pos s 0 (by omega);have gb':(s[Int.toNat 0]?)=some s[0]:=gb;simp (disch:=omega) only[Wz,seval,Jbz,gb',gb];refine Jg Jn6 (Jfl _) (Jc (.lit _) Jm) (.lit _) ?_;rw[JlN (by omega)];cases hl:Jb5 (JcI s 0) with
 | false =>
  simp (disch:=omega) only[Wz,seval];exact fin _ _
 | true =>
 obtain⟨v,hv⟩:∃ v,JgF s 0=v:=⟨_,rfl⟩;simp (disch:=omega) only[Wz,seval,hv];refine Js (fun i:Nat=>⟨[(3,.lit (.int .i64 (i:Int))),(0,.lit (.string s))],.none,50⟩) (fun i=>i<=s.size/\(JgF s i=v)) (fun i=>s.size - i) 0 (Jn (by simp[lk]) (fun _ _ q=>q) (fun _ _ q=>q) rfl rfl) ⟨Nat.zero_le _,hv⟩ ?_;rintro i ⟨hi,hiv⟩;refine Jl ?_;rcases Nat.lt_or_ge i s.size with hlt | hge
 ·rw[JmS hlt] at hiv;have gi:s[i]? = some s[i]:=getElem?_pos s i hlt;have bi:=JlN hlt;simp (disch:=omega) only[Wz,seval,gi];refine Jg Jn6 (Jfl _) (Jc (.lit _) Jm) (.lit _) ?_;rw[bi];unfold JbH at hiv;cases h2:Jb5 (JcI s i) with
  | true =>
   have hiv:JgF s (i+1)=v:=by rw[<- hiv,h2];rfl
   simp (disch:=omega) only[Wz,seval];exact⟨i+1,⟨by omega,hiv⟩,by omega,Jn (by simp[lk]) (fun _ _ q=>q) (fun _ _ q=>q) rfl rfl⟩
  | false =>
   simp (disch:=omega) only[Wz,seval,gi];refine Jg Jsc (JkP _) (Jc (.lit _) Jm) (.lit _) ?_;rw[bi];cases h3:Jgg (JcI s i) with
   | true =>
    have hiv:JgF s (i+1)=v:=by rw[<- hiv,h2,h3];rfl
    simp (disch:=omega) only[Wz,seval];exact⟨i+1,⟨by omega,hiv⟩,by omega,Jn (by simp[lk]) (fun _ _ q=>q) (fun _ _ q=>q) rfl rfl⟩
   | false =>
    by_cases h4:JcI s i=95
    ·have hiv:JgF s (i+1)=v:=by rw[<- hiv,h2,h3,h4];rfl
     simp (disch:=omega) only[Wz,seval,gi,bi];exact⟨i+1,⟨by omega,hiv⟩,by omega,Jn (by simp[lk]) (fun _ _ q=>q) (fun _ _ q=>q) rfl rfl⟩
    ·have hiv:false=v:=by rw[<- hiv,h2,h3,Jsn h4];rfl
     subst hiv;simp (disch:=omega) only[Wz,seval,gi,bi];exact fin _ _
 ·have e:i=s.size:=by omega
  subst e;have hv':Jo1 s=v:=by
   rw[<- hiv];unfold JgF;rw[List.drop_eq_nil_of_le (by rw[Array.length_toList];exact Nat.le_refl _)];rfl
  simp (disch:=omega) only[Wz,seval];have tl:Jo1 s = !(sEq s ⟨#[116,114,117,101]⟩ || (sEq s ⟨#[102,97,108,115,101]⟩ || (sEq s ⟨#[111,114,97,99,108,101]⟩ || (sEq s ⟨#[105,110,100,101,120]⟩ || (sEq s ⟨#[99,111,108,117,109,110]⟩ || (sEq s ⟨#[108,97]⟩ || sEq s ⟨#[109,111,100,101]⟩)))))):=by
   unfold Jo1 JpX Jmj;simp only[List.any_cons,List.any_nil,Bool.or_false];show _ = !(_ || (_ || (_ || ((s.toList==_) || ((s.toList==_) || ((s.toList==_) || (s.toList==_)))))));generalize sEq s ⟨#[116,114,117,101]⟩=b1;generalize sEq s ⟨#[102,97,108,115,101]⟩=b2;generalize sEq s ⟨#[111,114,97,99,108,101]⟩=b3;cases b1 <;> cases b2 <;> cases b3 <;> simp
  rw[tl] at hv';unfold sEq at hv';subst hv';generalize hb1:(s.toList==(⟨#[116,114,117,101]⟩:ByteArray).toList)=b1;generalize hb2:(s.toList==(⟨#[102,97,108,115,101]⟩:ByteArray).toList)=b2;generalize hb3:(s.toList==(⟨#[111,114,97,99,108,101]⟩:ByteArray).toList)=b3;generalize hb4:(s.toList==(⟨#[105,110,100,101,120]⟩:ByteArray).toList)=b4;generalize hb5:(s.toList==(⟨#[99,111,108,117,109,110]⟩:ByteArray).toList)=b5;generalize hb6:(s.toList==(⟨#[108,97]⟩:ByteArray).toList)=b6;generalize hb7:(s.toList==(⟨#[109,111,100,101]⟩:ByteArray).toList)=b7;cases b1 with
  | true =>
   simp (disch:=omega) only[Wz,seval,hb1,Bool.true_or,Bool.or_true];exact fin _ _
  | false =>
  cases b2 with
  | true =>
   simp (disch:=omega) only[Wz,seval,hb1,hb2,Bool.true_or,Bool.or_true];exact fin _ _
  | false =>
  cases b3 with
  | true =>
   simp (disch:=omega) only[Wz,seval,hb1,hb2,hb3,Bool.true_or,Bool.or_true];exact fin _ _
  | false =>
  cases b4 with
  | true =>
   simp (disch:=omega) only[Wz,seval,hb1,hb2,hb3,hb4,Bool.true_or,Bool.or_true];exact fin _ _
  | false =>
  cases b5 with
  | true =>
   simp (disch:=omega) only[Wz,seval,hb1,hb2,hb3,hb4,hb5,Bool.true_or,Bool.or_true];exact fin _ _
  | false =>
  cases b6 with
  | true =>
   simp (disch:=omega) only[Wz,seval,hb1,hb2,hb3,hb4,hb5,hb6,Bool.true_or,Bool.or_true];exact fin _ _
  | false =>
  cases b7;all_goals (simp (disch:=omega) only[Wz,seval,hb1,hb2,hb3,hb4,hb5,hb6,hb7,Bool.true_or,Bool.or_true,Bool.or_false];exact fin _ _)
def gdB (g:Gd):List AV:=[.lit (.int .i8 g.op.1),.lit (.int .i64 g.n),.lit (.string g.name),.vec (g.kids.map JaT) false]
theorem Jhr:∀ (m:Nat) (g:Gd),gsz g<=m->m<=2000000000->JN Pg 85 [.agg (JaT g)] (.lit (.int .i64 (Jce g)))
 | 0,g,h,_=>by have:=Jc2 g;omega
 | m+1,g,h,hm=>by
  have hl:=Jbq g;refine Jo Tryz.func85 rfl Tryz.ntmps85 (rs:=[.tmp 2]) rfl (by simp) ?_;simp (disch:=omega) only[Wz,seval,JF];refine Js (fun i:Nat=>⟨[(4,.lit (.int .i64 (i:Int))),(3,.lit (.int .i64 (sizeGs 1 (g.kids.take i)))),(1,.ptr 0 0)],⟨[(0,gdB g)],[],1⟩,22⟩) (fun i=>i<=g.kids.length) (fun i=>g.kids.length - i) 0 (Jn (by simp[lk,sizeGs]) (fun _ _ q=>q) (fun _ _ q=>q) rfl rfl) (Nat.zero_le _) ?_;intro i hi;refine Jl ?_;rcases Nat.lt_or_ge i g.kids.length with hlt | hge
  ·have hk:=Jv (l:=g.kids) hlt;have ih:=Jhr m (g.kids.getD i default) (by have:=Jbj hk;omega) (by omega);have r1:=Jgk (g.kids.getD i default);have r2:=Jhc (g.kids.take i);have nx:sizeGs 1 (g.kids.take (i+1))=min (sizeGs 1 (g.kids.take i)+Jce (g.kids.getD i default)) 2147483647:=by
    rw[List.take_add_one,Jfz hlt,Option.toList_some,Jgl]
   have mn:(if (2147483647:Int)<sizeGs 1 (g.kids.take i)+Jce (g.kids.getD i default) then 2147483647 else sizeGs 1 (g.kids.take i)+Jce (g.kids.getD i default))=min (sizeGs 1 (g.kids.take i)+Jce (g.kids.getD i default)) 2147483647:=by omega
   simp (disch:=omega) only[Wz,seval,gdB];refine Jg Jrm ih (Jc (.agg (JS _)) Jm) (.lit _) ?_;simp (disch:=omega) only[Wa,tyW,seval,tyW,Jdh,mn];exact⟨i+1,by omega,by omega,Jn (by simp[lk,nx]) (fun _ _ q=>q) (fun _ _ q=>q) rfl rfl⟩
  ·have e:i=g.kids.length:=by omega
   subst e;simp (disch:=omega) only[Wz,seval,gdB,List.take_length];rw[<- Jlq];exact Jb (.lit _)
theorem Jfm(g:Gd)(hs:g.name.size<=9000000000000000000)(hg:g.kids.length<=2000000000):JN Pg 108 [.agg (JaT g)] (.lit (.bool (Jje g))):=by
 refine Jo Tryz.func108 rfl Tryz.ntmps108 (rs:=[.tmp 2]) rfl (by simp) ?_;have fin:∀ h (b:Bool),Jdg h (.lit (.bool b)) (.lit (.bool b)):=fun h b=>Jb (.lit _);unfold Jje;by_cases h1:g.kids.length > 0
 ·simp (disch:=omega) only[Wz,seval,JF];exact fin _ _
 by_cases h4:g.op.1=9
 ·simp (disch:=omega) only[Wz,seval,JF];unfold sEq;generalize hb:(g.name.toList==(⟨#[]⟩:ByteArray).toList)=b1;by_cases h5:g.n<1000000000000000000 <;> by_cases h6:g.n > -1000000000000000000 <;> cases b1
  all_goals
   simp (disch:=omega) only[Wz,seval,hb,Bx];exact fin _ _
 by_cases h5:g.op.1=14
 ·by_cases h6:g.n=0
  ·simp (disch:=omega) only[Wz,seval,JF,Bool.true_and];refine Jg Jr7 (JmT g.name hs) (Jc (.lit _) Jm) (.lit _) ?_;simp (disch:=omega) only[Wz,seval];exact fin _ _
  ·simp (disch:=omega) only[Wz,seval,JF,Bool.false_and];exact fin _ _
 by_cases h2:g.op.1<9
 ·simp (disch:=omega) only[Wz,seval,JF];exact fin _ _
 by_cases h3:g.op.1 > 14
 ·simp (disch:=omega) only[Wz,seval,JF];exact fin _ _
 rcases(by omega:g.op.1=10\/g.op.1=11\/g.op.1=12\/g.op.1=13) with q | q | q | q;all_goals
  simp (disch:=omega) only[Wz,seval,JF];unfold sEq;generalize hb:(g.name.toList==(⟨#[]⟩:ByteArray).toList)=b1;by_cases h6:g.n=0 <;> cases b1
 all_goals
  simp (disch:=omega) only[Wz,seval,hb,Bx];exact fin _ _
theorem Jo2(l:List Gd)(hl:l.length<=2000000000)(h:∀ k∈l,JN Pg 86 [.agg (JaT k)] (.lit (.bool (JaO k)))):JN Pg 107 [.vec (l.map JaT) false] (.lit (.bool (l.all JaO))):=by
 refine Jo Tryz.func107 rfl Tryz.ntmps107 (rs:=[.tmp 2]) rfl (by simp) ?_;have fin:∀ h (b:Bool),Jdg h (.lit (.bool b)) (.lit (.bool b)):=fun h b=>Jb (.lit _);obtain⟨v,hv⟩:∃ v,l.all JaO=v:=⟨_,rfl⟩;rw[hv];simp (disch:=omega) only[Wz,seval];refine Js (fun i:Nat=>⟨[(3,.lit (.int .i64 (i:Int))),(0,.vec (l.map JaT) false)],.none,16⟩) (fun i=>i<=l.length/\((l.drop i).all JaO=v)) (fun i=>l.length - i) 0 (Jn (by simp[lk]) (fun _ _ q=>q) (fun _ _ q=>q) rfl rfl) ⟨Nat.zero_le _,by rw[List.drop_zero];exact hv⟩ ?_;rintro i ⟨hi,hiv⟩;refine Jl ?_;rcases Nat.lt_or_ge i l.length with hlt | hge
 ·obtain⟨x,hx⟩:∃ x,l.getD i default=x:=⟨_,rfl⟩;have ih:=h (l.getD i default) (Jv hlt);rw[hx] at ih;rw[JbE hlt,hx,List.all_cons] at hiv;simp (disch:=omega) only[Wz,seval,hx];refine Jg Jrn ih (Jc (.agg (JS _)) Jm) (.lit _) ?_;cases hc:JaO x with
  | true =>
   have hiv:(l.drop (i+1)).all JaO=v:=by rw[<- hiv,hc];rfl
   simp (disch:=omega) only[Wz,seval];exact⟨i+1,⟨by omega,hiv⟩,by omega,Jn (by simp[lk]) (fun _ _ q=>q) (fun _ _ q=>q) rfl rfl⟩
  | false =>
   have hiv:false=v:=by rw[<- hiv,hc];rfl
   subst hiv;simp (disch:=omega) only[Wz,seval];exact fin _ _
 ·have e:i=l.length:=by omega
  subst e;rw[List.drop_length] at hiv;have hiv:true=v:=hiv;subst hiv;simp (disch:=omega) only[Wz,seval];exact fin _ _
theorem Jhs:∀ (m:Nat) (g:Gd),gsz g<=m->m<=2000000000->Jof g->JN Pg 86 [.agg (JaT g)] (.lit (.bool (JaO g)))
  | 0,g,h,_,_=>by have:=Jc2 g;omega
  | m+1,g,h,hm,hok=>by
    have hl:=Jbq g;have hall:=Jo2 g.kids (by omega) fun k hk=>Jhs m k (by have:=Jbj hk;omega) (by omega) (by cases hok with | mk _ h2=>exact h2 k hk);have pk:∀ v∈[AV.vec (g.kids.map JaT) false],Ab.Pure v:=Jc (.vec (Jk JS _)) Jm;refine Jo Tryz.func86 rfl Tryz.ntmps86 (rs:=[.tmp 2]) rfl (by simp) ?_;have fin:∀ h (b:Bool),Jdg h (.lit (.bool b)) (.lit (.bool b)):=fun h b=>Jb (.lit _);rw[JhX];have hsE:(g.name.toList==(⟨#[]⟩:ByteArray).toList)=sEq g.name ⟨#[]⟩:=rfl;have bools:∀ b:Bool,(b && true)=b/\(true && b)=b/\(b && false)=false/\(false && b)=false:=fun b=>by cases b <;> decide
    cases hE:sEq g.name ⟨#[]⟩ with
    | false =>
      simp (disch:=omega) only[Wz,seval,JF,hsE,hE];exact fin _ _
    | true =>
    by_cases h2:g.op.1=8
    · by_cases h3:g.kids.length=0 <;> by_cases h4:g.n<1000000000000000000 <;> by_cases h5:g.n > -1000000000000000000 <;> by_cases h6:g.n=0
      all_goals first
        | omega
        | (simp (disch:=omega) only[Wz,seval,JF,hsE,hE,bools]
           exact fin _ _)
    by_cases h1:¬ g.n=0
    · simp (disch:=omega) only[Wz,seval,JF,hsE,hE]
      exact fin _ _
    by_cases h3:g.op.1=0
    · by_cases h4:g.kids.length=0
      all_goals
        simp (disch:=omega) only[Wz,seval,JF,hsE,hE,bools];exact fin _ _
    by_cases h4:g.op.1=1
    · by_cases h4:g.kids.length=0
      all_goals
        simp (disch:=omega) only[Wz,seval,JF,hsE,hE,bools];exact fin _ _
    by_cases h5:g.op.1=2
    · by_cases h6:g.kids.length=1
      · simp (disch:=omega) only[Wz,seval,JF,hsE,hE,bools]
        refine Jg JnX hall pk (.lit _) ?_;cases g.kids.all JaO;all_goals
          simp (disch:=omega) only[Wz,seval,bools];exact fin _ _
      · simp (disch:=omega) only[Wz,seval,JF,hsE,hE,bools]
        exact fin _ _
    by_cases h6:g.op.1=3\/g.op.1=4
    · by_cases h7:g.kids.length >= 2
      · rcases h6 with h6 | h6
        all_goals
          simp (disch:=omega) only[Wz,seval,JF,hsE,hE,bools];refine Jg JnX hall pk (.lit _) ?_;cases g.kids.all JaO;all_goals
            simp (disch:=omega) only[Wz,seval,bools];exact fin _ _
      · rcases h6 with h6 | h6
        all_goals
          simp (disch:=omega) only[Wz,seval,JF,hsE,hE,bools];exact fin _ _
    by_cases h7:5<=g.op.1/\g.op.1<=7
    · have ok2:∀ k∈g.kids,k.name.size<=9000000000000000000:=fun k hk=>by cases hok with | mk _ h2=>cases h2 k hk with | mk h3 _=>exact h3
      by_cases h8:g.kids.length=2
      · obtain⟨k,j,hk⟩:∃ k j,g.kids=[k,j]:=by
          match hq:g.kids,h8 with
          | [k,j],_=>exact⟨k,j,rfl⟩
        have hkm:k∈g.kids:=by rw[hk];simp
        have hjm:j∈g.kids:=by rw[hk];simp
        have gk:g.kids.getD 0 default=k:=by rw[hk];rfl
        have gj:g.kids.getD 1 default=j:=by rw[hk];rfl
        have ea:g.kids.all Jje=(Jje k && Jje j):=by rw[hk];simp
        have nk:=Jfm k (ok2 k hkm) (by have:=Jbj hkm;have:=Jbq k;omega);have nj:=Jfm j (ok2 j hjm) (by have:=Jbj hjm;have:=Jbq j;omega);rw[ea];have pk:=JS k;have pj:=JS j;rw[JF] at nk nj pk pj;rcases(by omega:g.op.1=5\/g.op.1=6\/g.op.1=7) with q | q | q
        all_goals
          simp (disch:=omega) only[Wz,seval,JF,hsE,hE,bools,gk];refine Jg JnY nk (Jc (.agg pk) Jm) (.lit _) ?_;cases Jje k with
          | false =>
            simp (disch:=omega) only[Wz,seval,bools];exact fin _ _
          | true =>
            simp (disch:=omega) only[Wz,seval,JF,bools,gj];refine Jg JnY nj (Jc (.agg pj) Jm) (.lit _) ?_;cases Jje j;all_goals
              simp (disch:=omega) only[Wz,seval,bools];exact fin _ _
      · rcases(by omega:g.op.1=5\/g.op.1=6\/g.op.1=7) with q | q | q
        all_goals
          simp (disch:=omega) only[Wz,seval,JF,hsE,hE,bools];exact fin _ _
    · simp (disch:=omega) only[Wz,seval,JF,hsE,hE,bools]
      exact fin _ _
theorem JjG(g:Gd)(h:gsz g<=2000000000)(hok:Jof g):JN Pg 67 [.agg (JaT g)] (.lit (.int .i64 (if ckG g then 0 else 40))):=by
 refine Jo Tryz.func67 rfl Tryz.ntmps67 (rs:=[.tmp 2]) rfl (by simp) ?_;have hs:=Jhr (gsz g) g (Nat.le_refl _) h;have hc:=Jhs (gsz g) g (Nat.le_refl _) h hok;rw[JF] at hs hc;have pg:=JS g;rw[JF] at pg;have fin:∀ h (b:Int),Jdg h (.lit (.int .i64 b)) (.lit (.int .i64 b)):=fun h b=>Jb (.lit _);unfold ckG;simp (disch:=omega) only[Wz,seval,JF];refine Jg Jrm hs (Jc (.agg pg) Jm) (.lit _) ?_;by_cases h1:Jce g<=64
 ·simp (disch:=omega) only[Wz,seval];refine Jg Jrn hc (Jc (.agg pg) Jm) (.lit _) ?_;cases JaO g;all_goals
   simp (disch:=omega) only[Wz,seval,Bool.true_and,Bool.false_eq_true];exact fin _ _
 ·simp (disch:=omega) only[Wz,seval,Bool.false_and,Bool.false_eq_true];exact fin _ _
theorem Jo3(s:List (Int × Int))(x:Int)(h:s.length<=2000000000):JN Pg 74 [.vec (s.map Ja2) false,.lit (.int .i32 x)] (.lit (.bool (Jlr s x))):=by
 refine Jo Tryz.func74 rfl Tryz.ntmps74 (rs:=[.tmp 4]) rfl (by simp) ?_;have fin:∀ h (b:Bool),Jdg h (.lit (.bool b)) (.lit (.bool b)):=fun h b=>Jb (.lit _);obtain⟨v,hv⟩:∃ v,Jlr s x=v:=⟨_,rfl⟩;rw[hv];simp (disch:=omega) only[Wz,seval];refine Js (fun i:Nat=>⟨[(5,.lit (.int .i64 (i:Int))),(0,.vec (s.map Ja2) false),(1,.lit (.int .i32 x))],.none,28⟩) (fun i=>i<=s.length/\(Jlr (s.drop i) x=v)) (fun i=>s.length - i) 0 (Jn (by simp[lk]) (fun _ _ q=>q) (fun _ _ q=>q) rfl rfl) ⟨Nat.zero_le _,by rw[List.drop_zero];exact hv⟩ ?_;rintro i ⟨hi,hiv⟩;refine Jl ?_;rcases Nat.lt_or_ge i s.length with hlt | hge
 ·obtain⟨r,hr⟩:∃ r,s.getD i default=r:=⟨_,rfl⟩;unfold Jlr at hiv;rw[JbE hlt,List.any_cons,hr] at hiv;unfold Jtd at hiv;by_cases h1:r.1<=x
  ·by_cases h2:x<=r.2
   ·have hiv:true=v:=by rw[<- hiv,decide_eq_true (⟨h1,h2⟩:r.1<=x/\x<=r.2)];rfl
    subst hiv;simp (disch:=omega) only[Wz,seval,hr,Ja2];exact fin _ _
   ·have hiv:Jlr (s.drop (i+1)) x=v:=by rw[<- hiv,decide_eq_false (fun q:r.1<=x/\x<=r.2=>h2 q.2)];rfl
    simp (disch:=omega) only[Wz,seval,hr,Ja2];exact⟨i+1,⟨by omega,hiv⟩,by omega,Jn (by simp[lk]) (fun _ _ q=>q) (fun _ _ q=>q) rfl rfl⟩
  ·have hiv:Jlr (s.drop (i+1)) x=v:=by rw[<- hiv,decide_eq_false (fun q:r.1<=x/\x<=r.2=>h1 q.1)];rfl
   simp (disch:=omega) only[Wz,seval,hr,Ja2];exact⟨i+1,⟨by omega,hiv⟩,by omega,Jn (by simp[lk]) (fun _ _ q=>q) (fun _ _ q=>q) rfl rfl⟩
 ·have e:i=s.length:=by omega
  subst e;rw[List.drop_length] at hiv;have hiv:false=v:=hiv;subst hiv;simp (disch:=omega) only[Wz,seval];exact fin _ _
end Go.Proofs.Y
end
