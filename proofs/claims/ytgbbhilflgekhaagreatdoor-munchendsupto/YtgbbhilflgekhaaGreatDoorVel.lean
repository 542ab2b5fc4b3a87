/- Parts of the proof, laid together. -/
import Derived.Test.YtgbbhilflgekhaaGreatDoorVek
set_option linter.unusedVariables false
set_option linter.unusedSimpArgs false
set_option maxRecDepth 20000
set_option maxHeartbeats 16000000
section
namespace Go.Proofs.Y
open Go Go.Ab
def nbB (s:ByteArray)(i:Nat):Bool:=decide (i<s.size) && decide (bt s i / 64=2)
def nbV (s:ByteArray)(i:Nat):Nat:=if nbB s i then bt s i % 64 else 0
theorem Jzb{b:Nat}(h:b<256):(IntKind.u8.wrap ((BitVec.ofInt IntKind.u8.bits (b:Int) &&& BitVec.ofInt IntKind.u8.bits 192).toNat:Int)==128)=decide (b / 64=2):=by
 have key:∀ x:Fin 256,(IntKind.u8.wrap ((BitVec.ofInt IntKind.u8.bits ((x.1:Nat):Int) &&& BitVec.ofInt IntKind.u8.bits 192).toNat:Int)==128)=decide (x.1 / 64=2):=by decide +kernel
 exact key ⟨b,h⟩
theorem Jz3{b:Nat}(h:b<256):IntKind.u8.wrap ((BitVec.ofInt IntKind.u8.bits (b:Int) &&& BitVec.ofInt IntKind.u8.bits 63).toNat:Int)=((b % 64:Nat):Int):=by
 have key:∀ x:Fin 256,IntKind.u8.wrap ((BitVec.ofInt IntKind.u8.bits ((x.1:Nat):Int) &&& BitVec.ofInt IntKind.u8.bits 63).toNat:Int)=((x.1 % 64:Nat):Int):=by decide +kernel
 exact key ⟨b,h⟩
theorem Jz4{b:Nat}(h:b<256):IntKind.i32.wrap ((BitVec.ofInt IntKind.i32.bits (b:Int) &&& BitVec.ofInt IntKind.i32.bits 31).toNat:Int)=((b % 32:Nat):Int):=by
 have key:∀ x:Fin 256,IntKind.i32.wrap ((BitVec.ofInt IntKind.i32.bits ((x.1:Nat):Int) &&& BitVec.ofInt IntKind.i32.bits 31).toNat:Int)=((x.1 % 32:Nat):Int):=by decide +kernel
 exact key ⟨b,h⟩
theorem Jz5{b:Nat}(h:b<256):IntKind.i32.wrap ((BitVec.ofInt IntKind.i32.bits (b:Int) &&& BitVec.ofInt IntKind.i32.bits 15).toNat:Int)=((b % 16:Nat):Int):=by
 have key:∀ x:Fin 256,IntKind.i32.wrap ((BitVec.ofInt IntKind.i32.bits ((x.1:Nat):Int) &&& BitVec.ofInt IntKind.i32.bits 15).toNat:Int)=((x.1 % 16:Nat):Int):=by decide +kernel
 exact key ⟨b,h⟩
theorem JB9{b:Nat}(h:b<256):IntKind.i32.wrap ((BitVec.ofInt IntKind.i32.bits (b:Int) &&& BitVec.ofInt IntKind.i32.bits 7).toNat:Int)=((b % 8:Nat):Int):=by
 have key:∀ x:Fin 256,IntKind.i32.wrap ((BitVec.ofInt IntKind.i32.bits ((x.1:Nat):Int) &&& BitVec.ofInt IntKind.i32.bits 7).toNat:Int)=((x.1 % 8:Nat):Int):=by decide +kernel
 exact key ⟨b,h⟩
theorem Jpw{a:Nat}(h:a<4294967296):(BitVec.ofInt 32 (a:Int)).toNat=a:=by
 rw[BitVec.ofInt_natCast,BitVec.toNat_ofNat];exact Nat.mod_eq_of_lt h
theorem JzF{x:Nat}(h:x<1000000):IntKind.i32.wrap ((x:Int) * 2 ^ min (Int.toNat 6) IntKind.i32.bits)=((x * 64:Nat):Int):=by
 have e:((x:Int) * 2 ^ min (Int.toNat 6) IntKind.i32.bits)=((x * 64:Nat):Int):=by
  show (x:Int) * 2 ^ 6=_;omega
 rw[e];exact IntWalk.i32_in _ ⟨by omega,by omega⟩
theorem JtA{x:Nat}(h:x<1000000):IntKind.i32.wrap ((x:Int) * 2 ^ min 6 IntKind.i32.bits)=((x * 64:Nat):Int):=JzF h
theorem or6{x y:Nat}(h:x<1000000)(hy:y<64):IntKind.i32.wrap ((BitVec.ofInt IntKind.i32.bits ((x * 64:Nat):Int) ||| BitVec.ofInt IntKind.i32.bits (y:Int)).toNat:Int)=((x * 64+y:Nat):Int):=by
 have e:(BitVec.ofInt IntKind.i32.bits ((x * 64:Nat):Int) ||| BitVec.ofInt IntKind.i32.bits (y:Int)).toNat=x * 64+y:=by
  show (BitVec.ofInt 32 ((x * 64:Nat):Int) ||| BitVec.ofInt 32 (y:Int)).toNat=_;rw[BitVec.toNat_or,Jpw (by omega),Jpw (by omega)];have:=Nat.two_pow_add_eq_or_of_lt (i:=6) (b:=y) (by omega) x;rw[show x * 64=2 ^ 6 * x by omega,this]
 rw[e];exact IntWalk.i32_in _ ⟨by omega,by omega⟩
theorem byQ(l:List UInt8)(i:Nat):JaO (l.getD i default)=[.lit (.int .u8 (bt (ofB l) i:Int))]:=by
 unfold JaO;rw[Jj5];rfl
theorem Jlj(L:List (Nat × List Value))(l:List UInt8)(f:Bool)(i:Nat)(hl:l.length<=1000000000)(hi:i<=2000000000):JR Tryz.prog 36 [inV L l f,.lit (.int .i64 (i:Int))] (.tup [.lit (.int .i32 (nbV (ofB l) i:Int)),.lit (.bool (nbB (ofB l) i))]):=by
 refine JG (Jq Tryz.func36 rfl Tryz.ntmps36 (rs:=[.tmp 4,.tmp 5]) rfl (by simp) ?_);have hsz:=Ja4 l;unfold nbV nbB;rw[hsz];refine Jj ?_;rcases Nat.lt_or_ge i l.length with hlt | hge
 ·have hq:=byQ l i;have hb:=Jev (ofB l) i;generalize bt (ofB l) i=b at hq hb ⊢;have h1:=Jzb hb;have h2:=Jz3 hb;have hw:IntKind.i32.wrap ((b % 64:Nat):Int)=((b % 64:Nat):Int):=IntWalk.i32_in _ ⟨by omega,by omega⟩;rw[decide_eq_true hlt,Bool.true_and];by_cases h:b / 64=2
  ·rw[decide_eq_true h] at h1;rw[if_pos (decide_eq_true h),decide_eq_true h];simp (disch:=omega) only[Wz,seval,inV,hq,h1,h2,hw];exact JI (Jf (Ja (.lit _)) (Jf (Ja (.lit _)) Jw))
  ·rw[decide_eq_false h] at h1;rw[if_neg (by rw[decide_eq_false h];decide),decide_eq_false h];simp (disch:=omega) only[Wz,seval,inV,hq,h1,h2,hw];exact JI (Jf (Ja (.lit _)) (Jf (Ja (.lit _)) Jw))
 ·rw[decide_eq_false (by omega),Bool.false_and,if_neg (by decide)];simp (disch:=omega) only[Wz,seval,inV];exact JI (Jf (Ja (.lit _)) (Jf (Ja (.lit _)) Jw))
def Jdr (s:ByteArray)(i x0:Nat):Nat->Nat
 | 0=>x0
 | k+1=>Jdr s i x0 k * 64+bt s (i+(k+1)) % 64
def Jkw (s:ByteArray)(i:Nat):Nat->Bool
 | 0=>true
 | k+1=>Jkw s i k && nbB s (i+(k+1))
theorem JiQ{s:ByteArray}{i:Nat}:∀ {k j:Nat},nbB s (i+(j+1))=false->j<k->Jkw s i k=false
 | k+1,j,h,hj=>by
  simp only[Jkw,Bool.and_eq_false_iff];rcases Nat.lt_or_ge j k with q | q
  ·exact .inl (JiQ h q)
  ·have:j=k:=by omega
   subst this;exact .inr h
def Jp0 (n c x least:Nat):Bool:=(decide (n=1) && decide (128<=c)) || (decide (x<least) || (decide (1114111<x) || (decide (55296<=x) && decide (x<=57343))))
def rU (s:ByteArray)(i n x0 least:Nat):Nat × Nat :=
 if Jkw s i (n - 1) then (if Jp0 n (bt s i) (Jdr s i x0 (n - 1)) least then (1114112+bt s i,1) else (Jdr s i x0 (n - 1),n)) else (1114112+bt s i,1)
theorem Jrc(L:List (Nat × List Value))(l:List UInt8)(f:Bool)(i:Nat)(hl:l.length<=1000000000)(hi:i<l.length)(h0:192<=bt (ofB l) i)(h9:bt (ofB l) i<224) :
    JR Tryz.prog 15 [inV L l f,.lit (.int .i64 (i:Int))] (.tup [.lit (.int .i32 ((rU (ofB l) i 2 (bt (ofB l) i % 32) 128).1:Int)),.lit (.int .i64 ((rU (ofB l) i 2 (bt (ofB l) i % 32) 128).2:Int))]):=by
  refine JG (Jq Tryz.func15 rfl Tryz.ntmps15 (rs:=[.tmp 4,.tmp 5]) rfl (by simp) ?_);have hq:=byQ l i;have hpx:=JaC L l f;have hnx:=fun k hk=>Jlj L l f k hl hk
  have hrU:rU (ofB l) i 2 (bt (ofB l) i % 32) 128=if Jkw (ofB l) i (2 - 1) then (if Jp0 2 (bt (ofB l) i) (Jdr (ofB l) i (bt (ofB l) i % 32) (2 - 1)) 128 then (1114112+bt (ofB l) i,1) else (Jdr (ofB l) i (bt (ofB l) i % 32) (2 - 1),2)) else (1114112+bt (ofB l) i,1):=rfl
  unfold inV at hpx hnx ⊢;generalize hs:ofB l=s at hq hnx hrU h0 h9 ⊢;generalize hb:bt s i=b at hq hrU h0 h9 ⊢;have ha:=Jz4 (b:=b) (by omega);have hw:IntKind.i32.wrap (b:Int)=(b:Int):=IntWalk.i32_in _ ⟨by omega,by omega⟩;have hwb:IntKind.i32.wrap ((1114112+b:Nat):Int)=((1114112+b:Nat):Int):=IntWalk.i32_in _ ⟨by omega,by omega⟩;have hcast:(1114112+(b:Int))=((1114112+b:Nat):Int):=by omega
  refine Jj ?_;simp (disch:=omega) only[Wz,seval,hq,hw,ha];have hacc:∀ k,k<=2 - 1->Jdr s i (b % 32) k<32 * 64 ^ k:=by
    intro k;induction k with
    | zero=>intro _;show b % 32<_;omega
    | succ k ih=>intro hk;have:=ih (by omega);show Jdr s i (b % 32) k * 64+bt s (i+(k+1)) % 64<_;rw[Nat.pow_succ];omega
  have hacc2:∀ k,k<=2 - 1->Jdr s i (b % 32) k<4000000:=fun k hk=>by
    have:=hacc k hk;have h2:64 ^ k<=64 ^ (2 - 1):=Nat.pow_le_pow_right (by omega) hk;have h3:=Nat.mul_le_mul_left 32 h2;have h4:32 * 64 ^ (2 - 1)<=4000000:=by decide
    omega
  have hacc3:∀ k,k<2 - 1->Jdr s i (b % 32) k<1000000:=fun k hk=>by
    have:=hacc k (by omega);have h2:64 ^ k<=64 ^ (2 - 2):=Nat.pow_le_pow_right (by omega) (by omega);have h3:=Nat.mul_le_mul_left 32 h2;have h4:32 * 64 ^ (2 - 2)<=1000000:=by decide
    omega
  refine Jp (fun k:Nat=>⟨[(0,.wit L (.vec (l.map JaO) f)),(1,.lit (.int .i64 (i:Int))),(6,.lit (.int .i32 (b:Int))),(7,.lit (.int .i64 2)),(8,.lit (.int .i32 (Jdr s i (b % 32) k:Int))),(9,.lit (.int .i32 128)),(10,.lit (.int .i64 ((k+1:Nat):Int)))],.none,99⟩) (fun k=>k<=2 - 1/\Jkw s i k=true) (fun k=>2 - k) 0 (Jk (by simp[lk,Jdr]) (fun _ _ e=>e) (fun _ _ e=>e) rfl rfl) ⟨by omega,rfl⟩ ?_;rintro k ⟨hk,hall⟩;refine Jj ?_;rcases Nat.lt_or_ge k (2 - 1) with hlt | hge
  · have hki:(i:Int)+((k+1:Nat):Int)=((i+(k+1):Nat):Int):=by omega
    have hwi:IntKind.i64.wrap ((i+(k+1):Nat):Int)=((i+(k+1):Nat):Int):=Jdy (by omega) (by omega);simp (disch:=omega) only[Wz,seval,hki,hwi];refine Je Jor (hnx _ (by omega)) (Jb hpx (Jb (.lit _) Jl)) (.tup (Jb (.lit _) (Jb (.lit _) Jl))) ?_;have hnv:nbV s (i+(k+1))=if nbB s (i+(k+1)) then bt s (i+(k+1)) % 64 else 0:=rfl
    cases hn:nbB s (i+(k+1)) with
    | false =>
      rw[hrU,if_neg (by rw[JiQ hn hlt];decide)];simp (disch:=omega) only[Wz,seval,hwb,hcast];exact JI (Jf (Ja (.lit _)) (Jf (Ja (.lit _)) Jw))
    | true =>
      rw[hn,if_pos rfl] at hnv;have hx3:=hacc3 k hlt;have hs6:=JzF hx3;have hs6b:=JtA hx3;have ho6:=or6 hx3 (y:=nbV s (i+(k+1))) (by rw[hnv];omega);have hk1:IntKind.i64.wrap (((k+1:Nat):Int)+1)=((k+1+1:Nat):Int):=Jdy (by omega) (by omega);simp (disch:=omega) only[Wz,seval,hs6,hs6b,ho6,hk1];refine⟨k+1,⟨by omega,?_⟩,by omega,?_⟩
      · simp only[Jkw,hall,hn,Bool.and_self]
      · refine Jk ?_ (fun _ _ e=>e) (fun _ _ e=>e) rfl rfl
        have e:Jdr s i (b % 32) k * 64+nbV s (i+(k+1))=Jdr s i (b % 32) (k+1):=by rw[hnv];rfl
        rw[e];simp[lk]
  · have hke:k=2 - 1:=by omega
    subst hke;rw[hrU,if_pos hall];have hx:=hacc2 _ (Nat.le_refl _);generalize Jdr s i (b % 32) (2 - 1)=x at hx ⊢;unfold Jp0;by_cases h1:x<128
    · rw[if_pos (by simp only[decide_eq_true h1,Bool.true_or,Bool.or_true])]
      simp (disch:=omega) only[Wz,seval,hwb,hcast];exact JI (Jf (Ja (.lit _)) (Jf (Ja (.lit _)) Jw))
    by_cases h2:1114111<x
    · rw[if_pos (by simp only[decide_eq_true h2,Bool.true_or,Bool.or_true])]
      simp (disch:=omega) only[Wz,seval,hwb,hcast];exact JI (Jf (Ja (.lit _)) (Jf (Ja (.lit _)) Jw))
    by_cases h3:55296<=x
    · by_cases h4:x<=57343
      · rw[if_pos (by simp only[decide_eq_true h3,decide_eq_true h4,Bool.and_self,Bool.or_true])]
        first
        | (exfalso;omega)
        | (simp (disch:=omega) only[Wz,seval,hwb,hcast]
           exact JI (Jf (Ja (.lit _)) (Jf (Ja (.lit _)) Jw)))
      · rw[if_neg (by simp only[decide_eq_false h1,decide_eq_false h2,decide_eq_false h4];simp)]
        first
        | (exfalso;omega)
        | (simp (disch:=omega) only[Wz,seval,hwb,hcast]
           exact JI (Jf (Ja (.lit _)) (Jf (Ja (.lit _)) Jw)))
    · rw[if_neg (by simp only[decide_eq_false h1,decide_eq_false h2,decide_eq_false h3];simp)]
      first
      | (exfalso;omega)
      | (simp (disch:=omega) only[Wz,seval,hwb,hcast]
         exact JI (Jf (Ja (.lit _)) (Jf (Ja (.lit _)) Jw)))
theorem Jrd(L:List (Nat × List Value))(l:List UInt8)(f:Bool)(i:Nat)(hl:l.length<=1000000000)(hi:i<l.length)(h0:224<=bt (ofB l) i)(h9:bt (ofB l) i<240) :
    JR Tryz.prog 15 [inV L l f,.lit (.int .i64 (i:Int))] (.tup [.lit (.int .i32 ((rU (ofB l) i 3 (bt (ofB l) i % 16) 2048).1:Int)),.lit (.int .i64 ((rU (ofB l) i 3 (bt (ofB l) i % 16) 2048).2:Int))]):=by
  refine JG (Jq Tryz.func15 rfl Tryz.ntmps15 (rs:=[.tmp 4,.tmp 5]) rfl (by simp) ?_);have hq:=byQ l i;have hpx:=JaC L l f;have hnx:=fun k hk=>Jlj L l f k hl hk
  have hrU:rU (ofB l) i 3 (bt (ofB l) i % 16) 2048=if Jkw (ofB l) i (3 - 1) then (if Jp0 3 (bt (ofB l) i) (Jdr (ofB l) i (bt (ofB l) i % 16) (3 - 1)) 2048 then (1114112+bt (ofB l) i,1) else (Jdr (ofB l) i (bt (ofB l) i % 16) (3 - 1),3)) else (1114112+bt (ofB l) i,1):=rfl
  unfold inV at hpx hnx ⊢;generalize hs:ofB l=s at hq hnx hrU h0 h9 ⊢;generalize hb:bt s i=b at hq hrU h0 h9 ⊢;have ha:=Jz5 (b:=b) (by omega);have hw:IntKind.i32.wrap (b:Int)=(b:Int):=IntWalk.i32_in _ ⟨by omega,by omega⟩;have hwb:IntKind.i32.wrap ((1114112+b:Nat):Int)=((1114112+b:Nat):Int):=IntWalk.i32_in _ ⟨by omega,by omega⟩;have hcast:(1114112+(b:Int))=((1114112+b:Nat):Int):=by omega
  refine Jj ?_;simp (disch:=omega) only[Wz,seval,hq,hw,ha];have hacc:∀ k,k<=3 - 1->Jdr s i (b % 16) k<16 * 64 ^ k:=by
    intro k;induction k with
    | zero=>intro _;show b % 16<_;omega
    | succ k ih=>intro hk;have:=ih (by omega);show Jdr s i (b % 16) k * 64+bt s (i+(k+1)) % 64<_;rw[Nat.pow_succ];omega
  have hacc2:∀ k,k<=3 - 1->Jdr s i (b % 16) k<4000000:=fun k hk=>by
    have:=hacc k hk;have h2:64 ^ k<=64 ^ (3 - 1):=Nat.pow_le_pow_right (by omega) hk;have h3:=Nat.mul_le_mul_left 16 h2;have h4:16 * 64 ^ (3 - 1)<=4000000:=by decide
    omega
  have hacc3:∀ k,k<3 - 1->Jdr s i (b % 16) k<1000000:=fun k hk=>by
    have:=hacc k (by omega);have h2:64 ^ k<=64 ^ (3 - 2):=Nat.pow_le_pow_right (by omega) (by omega);have h3:=Nat.mul_le_mul_left 16 h2;have h4:16 * 64 ^ (3 - 2)<=1000000:=by decide
    omega
  refine Jp (fun k:Nat=>⟨[(0,.wit L (.vec (l.map JaO) f)),(1,.lit (.int .i64 (i:Int))),(6,.lit (.int .i32 (b:Int))),(7,.lit (.int .i64 3)),(8,.lit (.int .i32 (Jdr s i (b % 16) k:Int))),(9,.lit (.int .i32 2048)),(10,.lit (.int .i64 ((k+1:Nat):Int)))],.none,99⟩) (fun k=>k<=3 - 1/\Jkw s i k=true) (fun k=>3 - k) 0 (Jk (by simp[lk,Jdr]) (fun _ _ e=>e) (fun _ _ e=>e) rfl rfl) ⟨by omega,rfl⟩ ?_;rintro k ⟨hk,hall⟩;refine Jj ?_;rcases Nat.lt_or_ge k (3 - 1) with hlt | hge
  · have hki:(i:Int)+((k+1:Nat):Int)=((i+(k+1):Nat):Int):=by omega
    have hwi:IntKind.i64.wrap ((i+(k+1):Nat):Int)=((i+(k+1):Nat):Int):=Jdy (by omega) (by omega);simp (disch:=omega) only[Wz,seval,hki,hwi];refine Je Jor (hnx _ (by omega)) (Jb hpx (Jb (.lit _) Jl)) (.tup (Jb (.lit _) (Jb (.lit _) Jl))) ?_;have hnv:nbV s (i+(k+1))=if nbB s (i+(k+1)) then bt s (i+(k+1)) % 64 else 0:=rfl
    cases hn:nbB s (i+(k+1)) with
    | false =>
      rw[hrU,if_neg (by rw[JiQ hn hlt];decide)];simp (disch:=omega) only[Wz,seval,hwb,hcast];exact JI (Jf (Ja (.lit _)) (Jf (Ja (.lit _)) Jw))
    | true =>
      rw[hn,if_pos rfl] at hnv;have hx3:=hacc3 k hlt;have hs6:=JzF hx3;have hs6b:=JtA hx3;have ho6:=or6 hx3 (y:=nbV s (i+(k+1))) (by rw[hnv];omega);have hk1:IntKind.i64.wrap (((k+1:Nat):Int)+1)=((k+1+1:Nat):Int):=Jdy (by omega) (by omega);simp (disch:=omega) only[Wz,seval,hs6,hs6b,ho6,hk1];refine⟨k+1,⟨by omega,?_⟩,by omega,?_⟩
      · simp only[Jkw,hall,hn,Bool.and_self]
      · refine Jk ?_ (fun _ _ e=>e) (fun _ _ e=>e) rfl rfl
        have e:Jdr s i (b % 16) k * 64+nbV s (i+(k+1))=Jdr s i (b % 16) (k+1):=by rw[hnv];rfl
        rw[e];simp[lk]
  · have hke:k=3 - 1:=by omega
    subst hke;rw[hrU,if_pos hall];have hx:=hacc2 _ (Nat.le_refl _);generalize Jdr s i (b % 16) (3 - 1)=x at hx ⊢;unfold Jp0;by_cases h1:x<2048
    · rw[if_pos (by simp only[decide_eq_true h1,Bool.true_or,Bool.or_true])]
      simp (disch:=omega) only[Wz,seval,hwb,hcast];exact JI (Jf (Ja (.lit _)) (Jf (Ja (.lit _)) Jw))
    by_cases h2:1114111<x
    · rw[if_pos (by simp only[decide_eq_true h2,Bool.true_or,Bool.or_true])]
      simp (disch:=omega) only[Wz,seval,hwb,hcast];exact JI (Jf (Ja (.lit _)) (Jf (Ja (.lit _)) Jw))
    by_cases h3:55296<=x
    · by_cases h4:x<=57343
      · rw[if_pos (by simp only[decide_eq_true h3,decide_eq_true h4,Bool.and_self,Bool.or_true])]
        first
        | (exfalso;omega)
        | (simp (disch:=omega) only[Wz,seval,hwb,hcast]
           exact JI (Jf (Ja (.lit _)) (Jf (Ja (.lit _)) Jw)))
      · rw[if_neg (by simp only[decide_eq_false h1,decide_eq_false h2,decide_eq_false h4];simp)]
        first
        | (exfalso;omega)
        | (simp (disch:=omega) only[Wz,seval,hwb,hcast]
           exact JI (Jf (Ja (.lit _)) (Jf (Ja (.lit _)) Jw)))
    · rw[if_neg (by simp only[decide_eq_false h1,decide_eq_false h2,decide_eq_false h3];simp)]
      first
      | (exfalso;omega)
      | (simp (disch:=omega) only[Wz,seval,hwb,hcast]
         exact JI (Jf (Ja (.lit _)) (Jf (Ja (.lit _)) Jw)))
theorem Jre(L:List (Nat × List Value))(l:List UInt8)(f:Bool)(i:Nat)(hl:l.length<=1000000000)(hi:i<l.length)(h0:240<=bt (ofB l) i)(h9:bt (ofB l) i<248) :
    JR Tryz.prog 15 [inV L l f,.lit (.int .i64 (i:Int))] (.tup [.lit (.int .i32 ((rU (ofB l) i 4 (bt (ofB l) i % 8) 65536).1:Int)),.lit (.int .i64 ((rU (ofB l) i 4 (bt (ofB l) i % 8) 65536).2:Int))]):=by
  refine JG (Jq Tryz.func15 rfl Tryz.ntmps15 (rs:=[.tmp 4,.tmp 5]) rfl (by simp) ?_);have hq:=byQ l i;have hpx:=JaC L l f;have hnx:=fun k hk=>Jlj L l f k hl hk
  have hrU:rU (ofB l) i 4 (bt (ofB l) i % 8) 65536=if Jkw (ofB l) i (4 - 1) then (if Jp0 4 (bt (ofB l) i) (Jdr (ofB l) i (bt (ofB l) i % 8) (4 - 1)) 65536 then (1114112+bt (ofB l) i,1) else (Jdr (ofB l) i (bt (ofB l) i % 8) (4 - 1),4)) else (1114112+bt (ofB l) i,1):=rfl
  unfold inV at hpx hnx ⊢;generalize hs:ofB l=s at hq hnx hrU h0 h9 ⊢;generalize hb:bt s i=b at hq hrU h0 h9 ⊢;have ha:=JB9 (b:=b) (by omega);have hw:IntKind.i32.wrap (b:Int)=(b:Int):=IntWalk.i32_in _ ⟨by omega,by omega⟩;have hwb:IntKind.i32.wrap ((1114112+b:Nat):Int)=((1114112+b:Nat):Int):=IntWalk.i32_in _ ⟨by omega,by omega⟩;have hcast:(1114112+(b:Int))=((1114112+b:Nat):Int):=by omega
  refine Jj ?_;simp (disch:=omega) only[Wz,seval,hq,hw,ha];have hacc:∀ k,k<=4 - 1->Jdr s i (b % 8) k<8 * 64 ^ k:=by
    intro k;induction k with
    | zero=>intro _;show b % 8<_;omega
    | succ k ih=>intro hk;have:=ih (by omega);show Jdr s i (b % 8) k * 64+bt s (i+(k+1)) % 64<_;rw[Nat.pow_succ];omega
  have hacc2:∀ k,k<=4 - 1->Jdr s i (b % 8) k<4000000:=fun k hk=>by
    have:=hacc k hk;have h2:64 ^ k<=64 ^ (4 - 1):=Nat.pow_le_pow_right (by omega) hk;have h3:=Nat.mul_le_mul_left 8 h2;have h4:8 * 64 ^ (4 - 1)<=4000000:=by decide
    omega
  have hacc3:∀ k,k<4 - 1->Jdr s i (b % 8) k<1000000:=fun k hk=>by
    have:=hacc k (by omega);have h2:64 ^ k<=64 ^ (4 - 2):=Nat.pow_le_pow_right (by omega) (by omega);have h3:=Nat.mul_le_mul_left 8 h2;have h4:8 * 64 ^ (4 - 2)<=1000000:=by decide
    omega
  refine Jp (fun k:Nat=>⟨[(0,.wit L (.vec (l.map JaO) f)),(1,.lit (.int .i64 (i:Int))),(6,.lit (.int .i32 (b:Int))),(7,.lit (.int .i64 4)),(8,.lit (.int .i32 (Jdr s i (b % 8) k:Int))),(9,.lit (.int .i32 65536)),(10,.lit (.int .i64 ((k+1:Nat):Int)))],.none,99⟩) (fun k=>k<=4 - 1/\Jkw s i k=true) (fun k=>4 - k) 0 (Jk (by simp[lk,Jdr]) (fun _ _ e=>e) (fun _ _ e=>e) rfl rfl) ⟨by omega,rfl⟩ ?_;rintro k ⟨hk,hall⟩;refine Jj ?_;rcases Nat.lt_or_ge k (4 - 1) with hlt | hge
  · have hki:(i:Int)+((k+1:Nat):Int)=((i+(k+1):Nat):Int):=by omega
    have hwi:IntKind.i64.wrap ((i+(k+1):Nat):Int)=((i+(k+1):Nat):Int):=Jdy (by omega) (by omega);simp (disch:=omega) only[Wz,seval,hki,hwi];refine Je Jor (hnx _ (by omega)) (Jb hpx (Jb (.lit _) Jl)) (.tup (Jb (.lit _) (Jb (.lit _) Jl))) ?_;have hnv:nbV s (i+(k+1))=if nbB s (i+(k+1)) then bt s (i+(k+1)) % 64 else 0:=rfl
    cases hn:nbB s (i+(k+1)) with
    | false =>
      rw[hrU,if_neg (by rw[JiQ hn hlt];decide)];simp (disch:=omega) only[Wz,seval,hwb,hcast];exact JI (Jf (Ja (.lit _)) (Jf (Ja (.lit _)) Jw))
    | true =>
      rw[hn,if_pos rfl] at hnv;have hx3:=hacc3 k hlt;have hs6:=JzF hx3;have hs6b:=JtA hx3;have ho6:=or6 hx3 (y:=nbV s (i+(k+1))) (by rw[hnv];omega);have hk1:IntKind.i64.wrap (((k+1:Nat):Int)+1)=((k+1+1:Nat):Int):=Jdy (by omega) (by omega);simp (disch:=omega) only[Wz,seval,hs6,hs6b,ho6,hk1];refine⟨k+1,⟨by omega,?_⟩,by omega,?_⟩
      · simp only[Jkw,hall,hn,Bool.and_self]
      · refine Jk ?_ (fun _ _ e=>e) (fun _ _ e=>e) rfl rfl
        have e:Jdr s i (b % 8) k * 64+nbV s (i+(k+1))=Jdr s i (b % 8) (k+1):=by rw[hnv];rfl
        rw[e];simp[lk]
  · have hke:k=4 - 1:=by omega
    subst hke;rw[hrU,if_pos hall];have hx:=hacc2 _ (Nat.le_refl _);generalize Jdr s i (b % 8) (4 - 1)=x at hx ⊢;unfold Jp0;by_cases h1:x<65536
    · rw[if_pos (by simp only[decide_eq_true h1,Bool.true_or,Bool.or_true])]
      simp (disch:=omega) only[Wz,seval,hwb,hcast];exact JI (Jf (Ja (.lit _)) (Jf (Ja (.lit _)) Jw))
    by_cases h2:1114111<x
    · rw[if_pos (by simp only[decide_eq_true h2,Bool.true_or,Bool.or_true])]
      simp (disch:=omega) only[Wz,seval,hwb,hcast];exact JI (Jf (Ja (.lit _)) (Jf (Ja (.lit _)) Jw))
    by_cases h3:55296<=x
    · by_cases h4:x<=57343
      · rw[if_pos (by simp only[decide_eq_true h3,decide_eq_true h4,Bool.and_self,Bool.or_true])]
        first
        | (exfalso;omega)
        | (simp (disch:=omega) only[Wz,seval,hwb,hcast]
           exact JI (Jf (Ja (.lit _)) (Jf (Ja (.lit _)) Jw)))
      · rw[if_neg (by simp only[decide_eq_false h1,decide_eq_false h2,decide_eq_false h4];simp)]
        first
        | (exfalso;omega)
        | (simp (disch:=omega) only[Wz,seval,hwb,hcast]
           exact JI (Jf (Ja (.lit _)) (Jf (Ja (.lit _)) Jw)))
    · rw[if_neg (by simp only[decide_eq_false h1,decide_eq_false h2,decide_eq_false h3];simp)]
      first
      | (exfalso;omega)
      | (simp (disch:=omega) only[Wz,seval,hwb,hcast]
         exact JI (Jf (Ja (.lit _)) (Jf (Ja (.lit _)) Jw)))
end Go.Proofs.Y
end
section
namespace Go.Proofs.Y
open Go Go.Ab
theorem Jrf(L:List (Nat × List Value))(l:List UInt8)(f:Bool)(i:Nat)(hl:l.length<=1000000000)(hi:i<l.length)(h0:bt (ofB l) i<192\/248<=bt (ofB l) i) :
  JR Tryz.prog 15 [inV L l f,.lit (.int .i64 (i:Int))] (.tup [.lit (.int .i32 (((if 128<=bt (ofB l) i then 1114112+bt (ofB l) i else bt (ofB l) i):Nat):Int)),.lit (.int .i64 1)]):=by
 refine JG (Jq Tryz.func15 rfl Tryz.ntmps15 (rs:=[.tmp 4,.tmp 5]) rfl (by simp) ?_);have hq:=byQ l i;have hb9:=Jev (ofB l) i;generalize ofB l=s at hq h0 hb9 ⊢;generalize hb:bt s i=b at hq h0 hb9 ⊢;have hw:IntKind.i32.wrap (b:Int)=(b:Int):=IntWalk.i32_in _ ⟨by omega,by omega⟩;have hwb:IntKind.i32.wrap ((1114112+b:Nat):Int)=((1114112+b:Nat):Int):=IntWalk.i32_in _ ⟨by omega,by omega⟩;have hcast:(1114112+(b:Int))=((1114112+b:Nat):Int):=by omega
 obtain⟨v,hv⟩:∃ v:Nat,(if 128<=b then 1114112+b else b)=v:=⟨_,rfl⟩;rw[hv];refine Jj ?_;unfold inV;rcases h0 with h0 | h0
 ·simp (disch:=omega) only[Wz,seval,hq,hw];refine Jp (A:=Unit) (fun _=>⟨[(6,.lit (.int .i32 (b:Int))),(7,.lit (.int .i64 1)),(8,.lit (.int .i32 (b:Int))),(9,.lit (.int .i32 0)),(10,.lit (.int .i64 1))],.none,99⟩) (fun _=>True) (fun _=>0) () (Jk (by simp[lk]) (fun _ _ e=>e) (fun _ _ e=>e) rfl rfl) trivial ?_;rintro _ _;refine Jj ?_;by_cases h1:128<=b
  ·rw[if_pos h1] at hv;subst hv;simp (disch:=omega) only[Wz,seval,hwb,hcast];exact JI (Jf (Ja (.lit _)) (Jf (Ja (.lit _)) Jw))
  ·rw[if_neg h1] at hv;subst hv;simp (disch:=omega) only[Wz,seval,hwb,hcast];exact JI (Jf (Ja (.lit _)) (Jf (Ja (.lit _)) Jw))
 ·simp (disch:=omega) only[Wz,seval,hq,hw];refine Jp (A:=Unit) (fun _=>⟨[(6,.lit (.int .i32 (b:Int))),(7,.lit (.int .i64 1)),(8,.lit (.int .i32 (b:Int))),(9,.lit (.int .i32 0)),(10,.lit (.int .i64 1))],.none,99⟩) (fun _=>True) (fun _=>0) () (Jk (by simp[lk]) (fun _ _ e=>e) (fun _ _ e=>e) rfl rfl) trivial ?_;rintro _ _;refine Jj ?_;rw[if_pos (by omega)] at hv;subst hv;simp (disch:=omega) only[Wz,seval,hwb,hcast];exact JI (Jf (Ja (.lit _)) (Jf (Ja (.lit _)) Jw))
theorem rU2{s:ByteArray}{i:Nat}(hi:i<s.size)(h0:192<=bt s i)(h9:bt s i<224):rU s i 2 (bt s i % 32) 128=uV s i:=by
 have h1:=Jev s (i+1);unfold rU uV dcV Lib.decodeN Jp0;simp only[Jkw,Jdr,nbB,Bool.true_and];generalize bt s i=b at h0 h9 ⊢;generalize bt s (i+1)=b1 at h1 ⊢;generalize bt s (i+2)=b2;generalize bt s (i+3)=b3;simp only[Bool.and_eq_true,Bool.or_eq_true,decide_eq_true_eq];repeat' split
 all_goals first | (exfalso;omega) | (simp only[Prod.mk.injEq,and_true,true_and];done) | (apply Prod.ext <;> simp only <;> omega)
theorem rU3{s:ByteArray}{i:Nat}(hi:i<s.size)(h0:224<=bt s i)(h9:bt s i<240):rU s i 3 (bt s i % 16) 2048=uV s i:=by
 have h1:=Jev s (i+1);have h2:=Jev s (i+2);unfold rU uV dcV Lib.decodeN Jp0;simp only[Jkw,Jdr,nbB,Bool.true_and];generalize bt s i=b at h0 h9 ⊢;generalize bt s (i+1)=b1 at h1 ⊢;generalize bt s (i+2)=b2 at h2 ⊢;generalize bt s (i+3)=b3;simp only[Bool.and_eq_true,Bool.or_eq_true,decide_eq_true_eq];repeat' split
 all_goals first | (exfalso;omega) | (simp only[Prod.mk.injEq,and_true,true_and];done) | (apply Prod.ext <;> simp only <;> omega)
theorem rU4{s:ByteArray}{i:Nat}(hi:i<s.size)(h0:240<=bt s i)(h9:bt s i<248):rU s i 4 (bt s i % 8) 65536=uV s i:=by
 have h1:=Jev s (i+1);have h2:=Jev s (i+2);have h3:=Jev s (i+3);unfold rU uV dcV Lib.decodeN Jp0;simp only[Jkw,Jdr,nbB,Bool.true_and];generalize bt s i=b at h0 h9 ⊢;generalize bt s (i+1)=b1 at h1 ⊢;generalize bt s (i+2)=b2 at h2 ⊢;generalize bt s (i+3)=b3 at h3 ⊢;simp only[Bool.and_eq_true,Bool.or_eq_true,decide_eq_true_eq];repeat' split
 all_goals first | (exfalso;omega) | (simp only[Prod.mk.injEq,and_true,true_and];done) | (apply Prod.ext <;> simp only <;> omega)
theorem rU1{s:ByteArray}{i:Nat}(h0:bt s i<192\/248<=bt s i):uV s i=(if 128<=bt s i then 1114112+bt s i else bt s i,1):=by
 have hb:=Jev s i;unfold uV dcV Lib.decodeN;generalize bt s i=b at h0 hb ⊢;generalize bt s (i+1)=b1;generalize bt s (i+2)=b2;generalize bt s (i+3)=b3;repeat' split
 all_goals first | (exfalso;omega) | (apply Prod.ext <;> simp only <;> omega)
theorem Jnd(L:List (Nat × List Value))(l:List UInt8)(f:Bool)(i:Nat)(hl:l.length<=1000000000)(hi:i<l.length) :
  JR Tryz.prog 15 [inV L l f,.lit (.int .i64 (i:Int))] (.tup [.lit (.int .i32 ((uV (ofB l) i).1:Int)),.lit (.int .i64 ((uV (ofB l) i).2:Int))]):=by
 have hs:i<(ofB l).size:=by rw[Ja4];exact hi
 by_cases h1:bt (ofB l) i<192\/248<=bt (ofB l) i
 ·rw[rU1 h1];exact Jrf L l f i hl hi h1
 by_cases h2:bt (ofB l) i<224
 ·rw[<- rU2 hs (by omega) h2];exact Jrc L l f i hl hi (by omega) h2
 by_cases h3:bt (ofB l) i<240
 ·rw[<- rU3 hs (by omega) h3];exact Jrd L l f i hl hi (by omega) h3
 ·rw[<- rU4 hs (by omega) (by omega)];exact Jre L l f i hl hi (by omega) (by omega)
end Go.Proofs.Y
end
section
namespace Go.Proofs.Y
open Go Go.Ab
def Jkg (u:Un):List AV:=[.lit (.int .i64 (u.pos:Int))]
def Jma (u:Un):List AV:=[.lit (.int .i32 u.x)]
def JnB (u:Un):List AV:=[.lit (.int .i64 (u.col:Int))]
theorem Jkh(u:Un):∀ c∈Jkg u,Ab.Pure c:=Jau (by simp[Jkg])
theorem Jki(u:Un):∀ c∈Jma u,Ab.Pure c:=Jau (by simp[Jma])
theorem Jkj(u:Un):∀ c∈JnB u,Ab.Pure c:=Jau (by simp[JnB])
def hdV (L:List (Nat × List Value))(l:List UInt8)(f:Bool)(X:List Un):List AV:=[inV L l f,.vec (X.map Jkg) false,.vec (X.map Jma) false,.vec (X.map JnB) false]
theorem Jrg(L:List (Nat × List Value))(l:List UInt8)(f:Bool)(X:List Un):∀ c∈hdV L l f X,Ab.Pure c :=
 Jb (JaC _ _ _) (Jb (.vec (Ji Jkh _)) (Jb (.vec (Ji Jki _)) (Jb (.vec (Ji Jkj _)) Jl)))
def hdQ (W:AV)(q:Bool)(n:Nat):List AV:=if q then [W,.own 2 n,.own 3 n,.own 4 n] else [W,.vec [] true,.vec [] true,.vec [] true]
def hdT (q:Bool)(X:List Un):List (Nat × Tk):=if q then [(2,⟨X.map Jkg,0,1⟩),(3,⟨X.map Jma,0,1⟩),(4,⟨X.map JnB,0,1⟩)] else []
theorem Jlk(L:List (Nat × List Value))(l:List UInt8)(f:Bool)(hl:l.length<=1000):JR Tryz.prog 46 [inV L l f] (.agg (hdV L l f (JaX (ofB l)))):=by
 refine JG (Jq Tryz.func46 rfl Tryz.ntmps46 (rs:=[.cell 2 108]) rfl (by simp) ?_);have hsz:=Ja4 l;have hatA:=fun p hp=>Jnd L l f p (by omega) hp
 have hpure:=JaC L l f;unfold hdV;unfold inV at hatA hpure ⊢;obtain⟨s,hs⟩:∃ s,ofB l=s:=⟨_,rfl⟩;rw[hs] at hsz hatA ⊢;obtain⟨W,hW⟩:∃ W:AV,.wit L (.vec (l.map JaO) f)=W:=⟨_,rfl⟩;have hu:unw W = .vec (l.map JaO) f:=by rw[<- hW];rfl
 have hWc:W.cells=some [W]:=by rw[<- hW];rfl
 obtain⟨SS,hSS⟩:∃ SS:Nat × Nat × Bool × List Un->St,∀ p c q X,SS (p,c,q,X)=⟨[(0,.wit L (.vec (l.map JaO) f)),(2,.ptr 0 0),(3,.ptr 1 0),(4,.lit (.int .i64 (c:Int))),(5,.lit (.int .i64 (p:Int)))],⟨[(0,[.vec [] true,.vec [] true,.vec [] true,.vec [] true]),(1,hdQ (.wit L (.vec (l.map JaO) f)) q X.length)],hdT q X,if q then 5 else 2⟩,64⟩:=⟨fun z=>⟨[(0,.wit L (.vec (l.map JaO) f)),(2,.ptr 0 0),(3,.ptr 1 0),(4,.lit (.int .i64 (z.2.1:Int))),(5,.lit (.int .i64 (z.1:Int)))],⟨[(0,[.vec [] true,.vec [] true,.vec [] true,.vec [] true]),(1,hdQ (.wit L (.vec (l.map JaO) f)) z.2.2.1 z.2.2.2.length)],hdT z.2.2.1 z.2.2.2,if z.2.2.1 then 5 else 2⟩,64⟩,fun _ _ _ _=>rfl⟩;obtain⟨Iv,hIv⟩:∃ Iv:Nat × Nat × Bool × List Un->Prop,∀ p c q X,Iv (p,c,q,X)↔(p<=l.length/\c<=p/\X.length<=p/\(q=false->X=[])/\∃ k,s.size - p<=k/\X++Jew k s p c=JaX s):=⟨fun z=>z.1<=l.length/\z.2.1<=z.1/\z.2.2.2.length<=z.1/\(z.2.2.1=false->z.2.2.2=[])/\∃ k,s.size - z.1<=k/\z.2.2.2++Jew k s z.1 z.2.1=JaX s,fun _ _ _ _=>Iff.rfl⟩;have one1:∀ v:AV,(∀ q,q∈[[v]]->q.length=1)=True:=fun v=>by simp
 have nil1:(∀ q:List AV,q∈[]->q.length=1)=True:=by simp
 refine Jj ?_;simp (disch:=omega) only[Wz,seval];refine Jp SS Iv (fun z=>l.length - z.1) (0,0,false,[]) (by rw[hSS];exact Jk (by simp[lk]) (fun _ _ e=>e) (fun _ _ e=>e) rfl rfl) ((hIv _ _ _ _).2 ⟨Nat.zero_le _,Nat.le_refl _,Nat.le_refl _,fun _=>rfl,s.size,by omega,rfl⟩) ?_;rintro⟨p,c,q,X⟩ hIx;obtain⟨hp,hc,hX,hq,k,hk,hcut⟩:=(hIv _ _ _ _).1 hIx;rw[hSS];refine Jj ?_;have hf0:Ja7 1 8=True:=eq_true (JN (by decide) (by decide));have hf1:Ja7 (X.length+1) 8=True:=eq_true (JN (by omega) (by omega));have hf2:Ja7 1 4=True:=eq_true (JN (by decide) (by decide));have hf3:Ja7 (X.length+1) 4=True:=eq_true (JN (by omega) (by omega));rcases Nat.lt_or_ge p l.length with hlt | hge
 ·have hat:=hatA p hlt;have hu:=JqR (s:=s) (i:=p) (by rw[hsz];exact hlt);obtain⟨k,rfl⟩:∃ k',k=k'+1:=⟨k - 1,by omega⟩;rw[Jew,if_pos (by omega)] at hcut;obtain⟨x,m,hxm⟩:∃ x m,uV s p=(x,m):=⟨_,_,rfl⟩;rw[hxm] at hat hu hcut;simp only at hat hu hcut;simp (disch:=omega) only[Wz,seval];refine Je JxK hat (Jb hpure (Jb (.lit _) Jl)) (.tup (Jb (.lit _) (Jb (.lit _) Jl))) ?_;have fin:∀ c':Nat,c'<=p+1->(c'=if x=10 then 0 else c+1)->∀ (sl:List (Nat × AV)) (H:Hp),lk sl 0=some (.wit L (.vec (l.map JaO) f))->lk sl 2=some (.ptr 0 0)->lk sl 3=some (.ptr 1 0)->lk sl 4=some (.lit (.int .i64 (c':Int)))->lk sl 5=some (.lit (.int .i64 ((p+m:Nat):Int))) ->
    H=⟨[(0,[.vec [] true,.vec [] true,.vec [] true,.vec [] true]),(1,[.wit L (.vec (l.map JaO) f),.own 2 (X.length+1),.own 3 (X.length+1),.own 4 (X.length+1)])],[(2,⟨X.map Jkg++[Jkg ⟨x,p,c⟩],0,1⟩),(3,⟨X.map Jma++[Jma ⟨x,p,c⟩],0,1⟩),(4,⟨X.map JnB++[JnB ⟨x,p,c⟩],0,1⟩)],5⟩ ->
    ∃ x':Nat × Nat × Bool × List Un,Iv x'/\l.length - x'.1<l.length - p/\St.wk ⟨sl,H,64⟩ (SS x'):=fun c' h1 h2 sl H e0 e2 e3 e4 e5 hT=>by
   refine⟨(p+m,c',true,X++[⟨x,p,c⟩]),(hIv _ _ _ _).2 ⟨by omega,by omega,by simp;omega,fun q=>(by cases q),k,by omega,?_⟩,by show l.length - (p+m)<_;omega,?_⟩
   ·rw[h2,List.append_assoc];exact hcut
   ·subst hT;rw[hSS];exact Jk (Jb e0 (Jb e2 (Jb e3 (Jb e4 (Jb e5 Jl))))) (fun _ _ e=>by simpa [hdQ] using e) (fun _ _ e=>by simpa [hdT] using e) rfl rfl
  have hwc:IntKind.i64.wrap ((c:Int)+1)=((c+1:Nat):Int):=Jdy (by omega) (by omega);have hwp:IntKind.i64.wrap ((p:Int)+(m:Int))=((p+m:Nat):Int):=by rw[<- Int.natCast_add];exact Jdy (by omega) (by omega)
  have go:∀ c':Nat,∀ bx:Bool,((x:Int)==10)=bx->(c'=if bx then 0 else c+1)->c'<=p+1/\(c'=if x=10 then 0 else c+1):=fun c' bx h1 h2=>by
   subst h1;by_cases hx:x=10
   ·rw[if_pos (by rw[Jgv (by omega)])] at h2;exact⟨by omega,by rw[if_pos hx];exact h2⟩
   ·rw[if_neg (by rw[JjN (by omega)];decide)] at h2;exact⟨by omega,by rw[if_neg hx];exact h2⟩
  cases hxb:((x:Int)==10) with
  | false =>
   obtain⟨g1,g2⟩:=go (c+1) false hxb rfl;have fin:=fin (c+1) g1 g2;clear go g2;cases q with
   | false =>
    have:=hq rfl;subst this;simp (disch:=omega) only[Wz,seval,hdQ,hdT,one1,nil1,hf0,hf2,true_and,if_true,if_false,Bool.false_eq_true,hwc,hwp,hxb];exact fin _ _ rfl rfl rfl rfl rfl rfl
   | true =>
    simp (disch:=omega) only[Wz,seval,hdQ,hdT,one1,hf1,hf3,true_and,if_true,hwc,hwp,hxb];exact fin _ _ rfl rfl rfl rfl rfl rfl
  | true =>
   obtain⟨g1,g2⟩:=go 0 true hxb rfl;have fin:=fin 0 g1 g2;clear go g2;cases q with
   | false =>
    have:=hq rfl;subst this;simp (disch:=omega) only[Wz,seval,hdQ,hdT,one1,nil1,hf0,hf2,true_and,if_true,if_false,Bool.false_eq_true,hwc,hwp,hxb];exact fin _ _ rfl rfl rfl rfl rfl rfl
   | true =>
    simp (disch:=omega) only[Wz,seval,hdQ,hdT,one1,hf1,hf3,true_and,if_true,hwc,hwp,hxb];exact fin _ _ rfl rfl rfl rfl rfl rfl
 ·have hcl:JaX s=X++[⟨-1,s.size,c⟩]:=by
   rw[<- hcut];cases k with
   | zero=>rfl
   | succ k=>rw[Jew,if_neg (by omega)]
  rw[hcl,hsz];have end3:∀ (h:Hp),lk h.toks 2=some ⟨(X++[(⟨-1,l.length,c⟩:Un)]).map Jkg,0,1⟩->lk h.toks 3=some ⟨(X++[(⟨-1,l.length,c⟩:Un)]).map Jma,0,1⟩->lk h.toks 4=some ⟨(X++[(⟨-1,l.length,c⟩:Un)]).map JnB,0,1⟩ ->
    JcV h (.agg [.wit L (.vec (l.map JaO) f),.own 2 (X.length+1),.own 3 (X.length+1),.own 4 (X.length+1)]) (.agg [.wit L (.vec (l.map JaO) f),.vec ((X++[(⟨-1,l.length,c⟩:Un)]).map Jkg) false,.vec ((X++[(⟨-1,l.length,c⟩:Un)]).map Jma) false,.vec ((X++[(⟨-1,l.length,c⟩:Un)]).map JnB) false]):=fun h q1 q2 q3 =>
   Jp9 (Jf (Ja hpure) (Jf (Jbf q1 (by simp) (Ji Jkh _)) (Jf (Jbf q2 (by simp) (Ji Jki _)) (Jf (Jbf q3 (by simp) (Ji Jkj _)) Jw))))
  cases q with
  | false =>
   have:=hq rfl;subst this;simp (disch:=omega) only[Wz,seval,hdQ,hdT,one1,nil1,hf0,hf2,true_and,if_true,if_false,Bool.false_eq_true];exact end3 _ rfl rfl rfl
  | true =>
   simp (disch:=omega) only[Wz,seval,hdQ,hdT,one1,hf1,hf3,true_and,if_true];refine end3 _ ?_ ?_ ?_ <;> (rw[List.map_append];rfl)
def ixF (l:List Un)(p:Int)(i:Nat):Int:=match l with | [] => -1 | u :: l=>if (u.pos:Int)=p then (i:Int) else ixF l p (i+1)
theorem Jpx:∀ (l:List Un) (p:Int) (i:Nat),(decide (0<=ixF l p i))=l.any fun u=>decide ((u.pos:Int)=p)
 | [],p,i=>by simp[ixF]
 | u :: l,p,i=>by
  unfold ixF;by_cases h:(u.pos:Int)=p
  ·rw[if_pos h,List.any_cons,decide_eq_true h,decide_eq_true (by omega)];rfl
  ·rw[if_neg h,List.any_cons,decide_eq_false h,Jpx l p (i+1)];rfl
theorem Jsg:∀ (l:List Un) (p:Int) (i:Nat),-1<=ixF l p i
 | [],p,i=>by simp[ixF]
 | u :: l,p,i=>by
  unfold ixF;split
  ·omega
  ·exact Jsg l p (i+1)
theorem Jne(L:List (Nat × List Value))(l:List UInt8)(f:Bool)(X:List Un)(p:Int)(hX:X.length<=1000000):JR Tryz.prog 47 [.agg (hdV L l f X),.lit (.int .i64 p)] (.lit (.int .i64 (ixF X p 0))):=by
 refine JG (Jq Tryz.func47 rfl Tryz.ntmps47 (rs:=[.tmp 4]) rfl (by simp) ?_);obtain⟨v,hv⟩:∃ v,ixF X p 0=v:=⟨_,rfl⟩;rw[hv];refine Jj ?_;simp (disch:=omega) only[Wz,seval,hdV,inV];refine Jp (fun i:Nat=>⟨[(2,.ptr 0 0),(1,.lit (.int .i64 p)),(5,.lit (.int .i64 (i:Int)))],⟨[(0,hdV L l f X)],[],1⟩,21⟩) (fun i=>i<=X.length/\ixF (X.drop i) p i=v) (fun i=>X.length - i) 0 (Jk (by simp[lk]) (fun _ _ e=>e) (fun _ _ e=>e) rfl rfl) ⟨Nat.zero_le _,by rw[List.drop_zero];exact hv⟩ ?_;rintro i ⟨hi,hiv⟩;refine Jj ?_;rcases Nat.lt_or_ge i X.length with hlt | hge
 ·obtain⟨u,hu⟩:∃ u,X.getD i default=u:=⟨_,rfl⟩;rw[Jbc hlt,hu] at hiv;unfold ixF at hiv;by_cases hp:(u.pos:Int)=p
  ·rw[if_pos hp] at hiv;subst hiv;have hb:((u.pos:Int)==p)=true:=Jgv hp;simp (disch:=omega) only[Wz,seval,hdV,hu,Jkg,hb];exact Ja (.lit _)
  ·rw[if_neg hp] at hiv;have hb:((u.pos:Int)==p)=false:=JjN hp;simp (disch:=omega) only[Wz,seval,hdV,hu,Jkg,hb];exact⟨i+1,⟨by omega,hiv⟩,by omega,Jk (by simp[lk]) (fun _ _ e=>e) (fun _ _ e=>e) rfl rfl⟩
 ·have hie:i=X.length:=by omega
  subst hie;rw[List.drop_length] at hiv;have:v = -1:=hiv.symm;subst this;simp (disch:=omega) only[Wz,seval,hdV];exact Ja (.lit _)
end Go.Proofs.Y
end
section
namespace Go.Proofs.Y
open Go Go.Ab
open Go.Proofs.Tryz renaming prog->Pg
theorem JfC(c:Int):JR Pg 130 [.lit (.int .u8 c)] (.lit (.bool (Jcn c))):=by
  refine Jn Tryz.func130 rfl Tryz.ntmps130 (rs:=[.tmp 2]) rfl (by simp) ?_;unfold Jcn;by_cases h1:c >= 97 <;> by_cases h2:c<=122 <;> by_cases h3:c >= 65 <;> by_cases h4:c<=90 <;> first
    | omega
    | (simp (disch:=omega) only[Wz,seval,Bool.and_true,Bool.true_and,Bool.or_true,Bool.true_or,Bool.false_or,Bool.or_false,Bool.and_false,Bool.false_and]
       exact Ja (.lit _))
theorem Jll(c:Int):JR Pg 131 [.lit (.int .u8 c)] (.lit (.bool (Jgx c))):=by
  refine Jn Tryz.func131 rfl Tryz.ntmps131 (rs:=[.tmp 2]) rfl (by simp) ?_;unfold Jgx;by_cases h1:c >= 48 <;> by_cases h2:c<=57 <;> first
    | omega
    | (simp (disch:=omega) only[Wz,seval,Bool.and_true,Bool.true_and,Bool.or_true,Bool.true_or,Bool.false_or,Bool.or_false,Bool.and_false,Bool.false_and]
       exact Ja (.lit _))
def Jpy(s:ByteArray):Bool:=if Jqx s then false else !(JmH.any fun x=>s.toList==x.toList)
def Jg5(s:ByteArray)(i:Nat):Bool:=((s.data.toList.drop i).all fun b=>Jb0 (b.toNat:Int)) && Jpy s
theorem JiR{α:Type}(p:α->Bool)(l:List α):decide ((l.takeWhile p).length<l.length) = !(l.all p):=by
 induction l with
 | nil=>rfl
 | cons x l ih =>
  rw[List.all_cons,List.takeWhile_cons];cases p x with
  | true=>simp only[if_true,List.length_cons,Nat.add_lt_add_iff_right,Bool.true_and];exact ih
  | false=>simp
theorem Jlm(s:ByteArray):Jhw s=if s.size=0 then false else if s.size > 40 then false else if Jcn (Jc3 s 0)=false then false else Jg5 s 0:=by
 unfold Jhw;split
 ·rfl
 split
 ·rfl
 split
 ·rfl
 have h:=JiR (fun b:UInt8=>Jb0 (b.toNat:Int)) s.data.toList;have e:s.data.toList.length=s.size:=by rw[Array.length_toList];rfl
 unfold Jg5 Jpy JcE;rw[List.drop_zero];cases ha:s.data.toList.all fun b=>Jb0 (b.toNat:Int) with
 | true =>
  rw[ha,e] at h;have h':¬ (s.data.toList.takeWhile fun b=>Jb0 (b.toNat:Int)).length<s.size:=of_decide_eq_false h;rw[if_neg h'];rfl
 | false =>
  rw[ha,e] at h;have h':(s.data.toList.takeWhile fun b=>Jb0 (b.toNat:Int)).length<s.size:=of_decide_eq_true h;rw[if_pos h'];rfl
theorem Jnf{s:ByteArray}{i:Nat}(h:i<s.size):Jg5 s i=(Jb0 (Jc3 s i) && Jg5 s (i+1)):=by
 have h':i<s.data.toList.length:=by rw[Array.length_toList];exact h
 unfold Jg5;rw[List.drop_eq_getElem_cons h',List.all_cons,Bool.and_assoc];congr 2
 unfold Jc3;rw[Array.getD_eq_getD_getElem?,Array.getElem?_eq_getElem h];rfl
theorem Jmb{s:ByteArray}{i:Nat}(h:i<s.size):((s[i]).toNat:Int)=Jc3 s i:=by
 unfold Jc3;rw[Array.getD_eq_getD_getElem?,Array.getElem?_eq_getElem (show i<s.data.size from h)];rfl
theorem Jng(s:ByteArray)(hs:s.size<=9000000000000000000):JR Pg 123 [.lit (.string s)] (.lit (.bool (Jhw s))):=by
 refine Jn Tryz.func123 rfl Tryz.ntmps123 (rs:=[.tmp 2]) rfl (by simp) ?_;rw[Jlm];have fin:∀ h (b:Bool),JcV h (.lit (.bool b)) (.lit (.bool b)):=fun h b=>Ja (.lit _);by_cases h0:s.size=0
 ·simp (disch:=omega) only[Wz,seval,JbU];exact fin _ _
 by_cases h1:s.size > 40
 ·simp (disch:=omega) only[Wz,seval,JbU];exact fin _ _
 have gb:s[0]? = some s[0]:=getElem?_pos s 0 (by omega);have gb':(s[Int.toNat 0]?)=some s[0]:=gb;simp (disch:=omega) only[Wz,seval,JbU,gb',gb];refine Je JoI (JfC _) (Jb (.lit _) Jl) (.lit _) ?_;rw[Jmb (by omega)];cases hl:Jcn (Jc3 s 0) with
 | false =>
  simp (disch:=omega) only[Wz,seval];exact fin _ _
 | true =>
 obtain⟨v,hv⟩:∃ v,Jg5 s 0=v:=⟨_,rfl⟩;simp (disch:=omega) only[Wz,seval,hv];refine Jp (fun i:Nat=>⟨[(3,.lit (.int .i64 (i:Int))),(0,.lit (.string s))],.none,50⟩) (fun i=>i<=s.size/\(Jg5 s i=v)) (fun i=>s.size - i) 0 (Jk (by simp[lk]) (fun _ _ q=>q) (fun _ _ q=>q) rfl rfl) ⟨Nat.zero_le _,hv⟩ ?_;rintro i ⟨hi,hiv⟩;refine Jj ?_;rcases Nat.lt_or_ge i s.size with hlt | hge
 ·rw[Jnf hlt] at hiv;have gi:s[i]? = some s[i]:=getElem?_pos s i hlt;have bi:=Jmb hlt;simp (disch:=omega) only[Wz,seval,gi];refine Je JoI (JfC _) (Jb (.lit _) Jl) (.lit _) ?_;rw[bi];unfold Jb0 at hiv;cases h2:Jcn (Jc3 s i) with
  | true =>
   have hiv:Jg5 s (i+1)=v:=by rw[<- hiv,h2];rfl
   simp (disch:=omega) only[Wz,seval];exact⟨i+1,⟨by omega,hiv⟩,by omega,Jk (by simp[lk]) (fun _ _ q=>q) (fun _ _ q=>q) rfl rfl⟩
  | false =>
   simp (disch:=omega) only[Wz,seval,gi];refine Je JsX (Jll _) (Jb (.lit _) Jl) (.lit _) ?_;rw[bi];cases h3:Jgx (Jc3 s i) with
   | true =>
    have hiv:Jg5 s (i+1)=v:=by rw[<- hiv,h2,h3];rfl
    simp (disch:=omega) only[Wz,seval];exact⟨i+1,⟨by omega,hiv⟩,by omega,Jk (by simp[lk]) (fun _ _ q=>q) (fun _ _ q=>q) rfl rfl⟩
   | false =>
    by_cases h4:Jc3 s i=95
    ·have hiv:Jg5 s (i+1)=v:=by rw[<- hiv,h2,h3,h4];rfl
     simp (disch:=omega) only[Wz,seval,gi,bi];exact⟨i+1,⟨by omega,hiv⟩,by omega,Jk (by simp[lk]) (fun _ _ q=>q) (fun _ _ q=>q) rfl rfl⟩
    ·have hiv:false=v:=by rw[<- hiv,h2,h3,JjN h4];rfl
     subst hiv;simp (disch:=omega) only[Wz,seval,gi,bi];exact fin _ _
 ·have e:i=s.size:=by omega
  subst e;have hv':Jpy s=v:=by
   rw[<- hiv];unfold Jg5;rw[List.drop_eq_nil_of_le (by rw[Array.length_toList];exact Nat.le_refl _)];rfl
  simp (disch:=omega) only[Wz,seval];have tl:Jpy s = !(sEq s ⟨#[116,114,117,101]⟩ || (sEq s ⟨#[102,97,108,115,101]⟩ || (sEq s ⟨#[111,114,97,99,108,101]⟩ || (sEq s ⟨#[105,110,100,101,120]⟩ || (sEq s ⟨#[99,111,108,117,109,110]⟩ || (sEq s ⟨#[108,97]⟩ || sEq s ⟨#[109,111,100,101]⟩)))))):=by
   unfold Jpy Jqx JmH;simp only[List.any_cons,List.any_nil,Bool.or_false];show _ = !(_ || (_ || (_ || ((s.toList==_) || ((s.toList==_) || ((s.toList==_) || (s.toList==_)))))));generalize sEq s ⟨#[116,114,117,101]⟩=b1;generalize sEq s ⟨#[102,97,108,115,101]⟩=b2;generalize sEq s ⟨#[111,114,97,99,108,101]⟩=b3;cases b1 <;> cases b2 <;> cases b3 <;> simp
  rw[tl] at hv';unfold sEq at hv';subst hv';generalize hb1:(s.toList==(⟨#[116,114,117,101]⟩:ByteArray).toList)=b1;generalize hb2:(s.toList==(⟨#[102,97,108,115,101]⟩:ByteArray).toList)=b2;generalize hb3:(s.toList==(⟨#[111,114,97,99,108,101]⟩:ByteArray).toList)=b3;generalize hb4:(s.toList==(⟨#[105,110,100,101,120]⟩:ByteArray).toList)=b4;generalize hb5:(s.toList==(⟨#[99,111,108,117,109,110]⟩:ByteArray).toList)=b5;generalize hb6:(s.toList==(⟨#[108,97]⟩:ByteArray).toList)=b6;generalize hb7:(s.toList==(⟨#[109,111,100,101]⟩:ByteArray).toList)=b7;cases b1 with
  | true =>
   simp (disch:=omega) only[Wz,seval,hb1,Bool.true_or,Bool.or_true];exact fin _ _
  | false =>
  cases b2 with
  | true =>
   simp (disch:=omega) only[Wz,seval,hb1,hb2,Bool.true_or,Bool.or_true];exact fin _ _
  | false =>
  cases b3 with
  | true =>
   simp (disch:=omega) only[Wz,seval,hb1,hb2,hb3,Bool.true_or,Bool.or_true];exact fin _ _
  | false =>
  cases b4 with
  | true =>
   simp (disch:=omega) only[Wz,seval,hb1,hb2,hb3,hb4,Bool.true_or,Bool.or_true];exact fin _ _
  | false =>
  cases b5 with
  | true =>
   simp (disch:=omega) only[Wz,seval,hb1,hb2,hb3,hb4,hb5,Bool.true_or,Bool.or_true];exact fin _ _
  | false =>
  cases b6 with
  | true =>
   simp (disch:=omega) only[Wz,seval,hb1,hb2,hb3,hb4,hb5,hb6,Bool.true_or,Bool.or_true];exact fin _ _
  | false =>
  cases b7;all_goals (simp (disch:=omega) only[Wz,seval,hb1,hb2,hb3,hb4,hb5,hb6,hb7,Bool.true_or,Bool.or_true,Bool.or_false];exact fin _ _)
def gdB (g:Gd):List AV:=[.lit (.int .i8 g.op.1),.lit (.int .i64 g.n),.lit (.string g.name),.vec (g.kids.map JaZ) false]
theorem JhR:∀ (m:Nat) (g:Gd),gsz g<=m->m<=2000000000->JR Pg 85 [.agg (JaZ g)] (.lit (.int .i64 (JcB g)))
 | 0,g,h,_=>by have:=JcI g;omega
 | m+1,g,h,hm=>by
  have hl:=Jby g;refine Jn Tryz.func85 rfl Tryz.ntmps85 (rs:=[.tmp 2]) rfl (by simp) ?_;simp (disch:=omega) only[Wz,seval,Jy];refine Jp (fun i:Nat=>⟨[(4,.lit (.int .i64 (i:Int))),(3,.lit (.int .i64 (sizeGs 1 (g.kids.take i)))),(1,.ptr 0 0)],⟨[(0,gdB g)],[],1⟩,22⟩) (fun i=>i<=g.kids.length) (fun i=>g.kids.length - i) 0 (Jk (by simp[lk,sizeGs]) (fun _ _ q=>q) (fun _ _ q=>q) rfl rfl) (Nat.zero_le _) ?_;intro i hi;refine Jj ?_;rcases Nat.lt_or_ge i g.kids.length with hlt | hge
  ·have hk:=Ju (l:=g.kids) hlt;have ih:=JhR m (g.kids.getD i default) (by have:=Jbm hk;omega) (by omega);have r1:=JgB (g.kids.getD i default);have r2:=Jhx (g.kids.take i);have nx:sizeGs 1 (g.kids.take (i+1))=min (sizeGs 1 (g.kids.take i)+JcB (g.kids.getD i default)) 2147483647:=by
    rw[List.take_add_one,JfS hlt,Option.toList_some,JgC]
   have mn:(if (2147483647:Int)<sizeGs 1 (g.kids.take i)+JcB (g.kids.getD i default) then 2147483647 else sizeGs 1 (g.kids.take i)+JcB (g.kids.getD i default))=min (sizeGs 1 (g.kids.take i)+JcB (g.kids.getD i default)) 2147483647:=by omega
   simp (disch:=omega) only[Wz,seval,gdB];refine Je Jr3 ih (Jb (.agg (JQ _)) Jl) (.lit _) ?_;simp (disch:=omega) only[Wa,tyW,seval,tyW,Jdy,mn];exact⟨i+1,by omega,by omega,Jk (by simp[lk,nx]) (fun _ _ q=>q) (fun _ _ q=>q) rfl rfl⟩
  ·have e:i=g.kids.length:=by omega
   subst e;simp (disch:=omega) only[Wz,seval,gdB,List.take_length];rw[<- JlQ];exact Ja (.lit _)
theorem JfD(g:Gd)(p:Pl):JR Pg 120 [.agg (JaZ g),.agg (JaI p)] (.tup [.lit (.int .i64 (JmL g p)),.lit (.bool (decide (9<=g.op.1/\g.op.1<=14)))]):=by
 refine Jn Tryz.func120 rfl Tryz.ntmps120 (rs:=[.tmp 4,.tmp 5]) rfl (by simp) ?_;unfold JmL;by_cases h1:g.op.1=9
 ·simp (disch:=omega) only[Wz,seval,Jy,JaI];exact Ja (.tup (Jb (.lit _) (Jb (.lit _) Jl)))
 by_cases h2:g.op.1=10
 ·simp (disch:=omega) only[Wz,seval,Jy,JaI];exact Ja (.tup (Jb (.lit _) (Jb (.lit _) Jl)))
 by_cases h3:g.op.1=11
 ·simp (disch:=omega) only[Wz,seval,Jy,JaI];exact Ja (.tup (Jb (.lit _) (Jb (.lit _) Jl)))
 by_cases h4:g.op.1=12
 ·simp (disch:=omega) only[Wz,seval,Jy,JaI];exact Ja (.tup (Jb (.lit _) (Jb (.lit _) Jl)))
 by_cases h5:g.op.1=13
 ·simp (disch:=omega) only[Wz,seval,Jy,JaI];exact Ja (.tup (Jb (.lit _) (Jb (.lit _) Jl)))
 by_cases h6:g.op.1=14;all_goals
  simp (disch:=omega) only[Wz,seval,Jy,JaI];exact Ja (.tup (Jb (.lit _) (Jb (.lit _) Jl)))
theorem JfE(g:Gd)(hs:g.name.size<=9000000000000000000)(hg:g.kids.length<=2000000000):JR Pg 108 [.agg (JaZ g)] (.lit (.bool (JjP g))):=by
 refine Jn Tryz.func108 rfl Tryz.ntmps108 (rs:=[.tmp 2]) rfl (by simp) ?_;have fin:∀ h (b:Bool),JcV h (.lit (.bool b)) (.lit (.bool b)):=fun h b=>Ja (.lit _);unfold JjP;by_cases h1:g.kids.length > 0
 ·simp (disch:=omega) only[Wz,seval,Jy];exact fin _ _
 by_cases h4:g.op.1=9
 ·simp (disch:=omega) only[Wz,seval,Jy];unfold sEq;generalize hb:(g.name.toList==(⟨#[]⟩:ByteArray).toList)=b1;by_cases h5:g.n<1000000000000000000 <;> by_cases h6:g.n > -1000000000000000000 <;> cases b1
  all_goals
   simp (disch:=omega) only[Wz,seval,hb,Bx];exact fin _ _
 by_cases h5:g.op.1=14
 ·by_cases h6:g.n=0
  ·simp (disch:=omega) only[Wz,seval,Jy,Bool.true_and];refine Je JsS (Jng g.name hs) (Jb (.lit _) Jl) (.lit _) ?_;simp (disch:=omega) only[Wz,seval];exact fin _ _
  ·simp (disch:=omega) only[Wz,seval,Jy,Bool.false_and];exact fin _ _
 by_cases h2:g.op.1<9
 ·simp (disch:=omega) only[Wz,seval,Jy];exact fin _ _
 by_cases h3:g.op.1 > 14
 ·simp (disch:=omega) only[Wz,seval,Jy];exact fin _ _
 rcases(by omega:g.op.1=10\/g.op.1=11\/g.op.1=12\/g.op.1=13) with q | q | q | q;all_goals
  simp (disch:=omega) only[Wz,seval,Jy];unfold sEq;generalize hb:(g.name.toList==(⟨#[]⟩:ByteArray).toList)=b1;by_cases h6:g.n=0 <;> cases b1
 all_goals
  simp (disch:=omega) only[Wz,seval,hb,Bx];exact fin _ _
theorem Jpz(x:Orc)(o:List Orc)(n index:Int):Jqy (x :: o) n index=if x.id=n/\x.index=index then x.says else Jqy o n index:=by
 unfold Jqy;rw[List.find?_cons];by_cases h1:x.id=n
 ·by_cases h2:x.index=index
  ·rw[Jgv h1,Jgv h2,if_pos ⟨h1,h2⟩];rfl
  ·rw[Jgv h1,JjN h2,if_neg fun q=>h2 q.2];rfl
 ·rw[JjN h1,if_neg fun q=>h1 q.1];rfl
theorem JpA{T:Type}[Inhabited T]{l:List T}{i:Nat}(h:i<l.length):l.drop i=l.getD i default :: l.drop (i+1):=by
 rw[List.drop_eq_getElem_cons h,List.getD_eq_getElem?_getD,List.getElem?_eq_getElem h];rfl
theorem Jkk(o:List Orc)(id index:Int)(ho:o.length<=2000000000):JR Pg 119 [.lit (.int .i64 id),.lit (.int .i64 index),.vec (o.map Jb9) false] (.lit (.bool (Jqy o id index))):=by
 refine Jn Tryz.func119 rfl Tryz.ntmps119 (rs:=[.tmp 6]) rfl (by simp) ?_;have fin:∀ h (b:Bool),JcV h (.lit (.bool b)) (.lit (.bool b)):=fun h b=>Ja (.lit _);obtain⟨v,hv⟩:∃ v,Jqy o id index=v:=⟨_,rfl⟩;rw[hv];simp (disch:=omega) only[Wz,seval];refine Jp (fun i:Nat=>⟨[(7,.lit (.int .i64 (i:Int))),(0,.lit (.int .i64 id)),(1,.lit (.int .i64 index)),(2,.vec (o.map Jb9) false)],.none,35⟩) (fun i=>i<=o.length/\(Jqy (o.drop i) id index=v)) (fun i=>o.length - i) 0 (Jk (by simp[lk]) (fun _ _ q=>q) (fun _ _ q=>q) rfl rfl) ⟨Nat.zero_le _,by rw[List.drop_zero];exact hv⟩ ?_;rintro i ⟨hi,hiv⟩;refine Jj ?_;rcases Nat.lt_or_ge i o.length with hlt | hge
 ·obtain⟨x,hx⟩:∃ x,o.getD i default=x:=⟨_,rfl⟩;rw[JpA hlt,hx,Jpz] at hiv;by_cases h1:x.id=id
  ·by_cases h2:x.index=index
   ·rw[if_pos ⟨h1,h2⟩] at hiv;subst hiv;simp (disch:=omega) only[Wz,seval,hx,Jb9];exact fin _ _
   ·rw[if_neg fun q=>h2 q.2] at hiv;simp (disch:=omega) only[Wz,seval,hx,Jb9];exact⟨i+1,⟨by omega,hiv⟩,by omega,Jk (by simp[lk]) (fun _ _ q=>q) (fun _ _ q=>q) rfl rfl⟩
  ·rw[if_neg fun q=>h1 q.1] at hiv;simp (disch:=omega) only[Wz,seval,hx,Jb9];exact⟨i+1,⟨by omega,hiv⟩,by omega,Jk (by simp[lk]) (fun _ _ q=>q) (fun _ _ q=>q) rfl rfl⟩
 ·have e:i=o.length:=by omega
  subst e;rw[List.drop_length] at hiv;have hiv:false=v:=hiv;subst hiv;simp (disch:=omega) only[Wz,seval];exact fin _ _
theorem JpB(l:List Gd)(hl:l.length<=2000000000)(h:∀ k∈l,JR Pg 86 [.agg (JaZ k)] (.lit (.bool (JaR k)))):JR Pg 107 [.vec (l.map JaZ) false] (.lit (.bool (l.all JaR))):=by
 refine Jn Tryz.func107 rfl Tryz.ntmps107 (rs:=[.tmp 2]) rfl (by simp) ?_;have fin:∀ h (b:Bool),JcV h (.lit (.bool b)) (.lit (.bool b)):=fun h b=>Ja (.lit _);obtain⟨v,hv⟩:∃ v,l.all JaR=v:=⟨_,rfl⟩;rw[hv];simp (disch:=omega) only[Wz,seval];refine Jp (fun i:Nat=>⟨[(3,.lit (.int .i64 (i:Int))),(0,.vec (l.map JaZ) false)],.none,16⟩) (fun i=>i<=l.length/\((l.drop i).all JaR=v)) (fun i=>l.length - i) 0 (Jk (by simp[lk]) (fun _ _ q=>q) (fun _ _ q=>q) rfl rfl) ⟨Nat.zero_le _,by rw[List.drop_zero];exact hv⟩ ?_;rintro i ⟨hi,hiv⟩;refine Jj ?_;rcases Nat.lt_or_ge i l.length with hlt | hge
 ·obtain⟨x,hx⟩:∃ x,l.getD i default=x:=⟨_,rfl⟩;have ih:=h (l.getD i default) (Ju hlt);rw[hx] at ih;rw[Jbc hlt,hx,List.all_cons] at hiv;simp (disch:=omega) only[Wz,seval,hx];refine Je Jr4 ih (Jb (.agg (JQ _)) Jl) (.lit _) ?_;cases hc:JaR x with
  | true =>
   have hiv:(l.drop (i+1)).all JaR=v:=by rw[<- hiv,hc];rfl
   simp (disch:=omega) only[Wz,seval];exact⟨i+1,⟨by omega,hiv⟩,by omega,Jk (by simp[lk]) (fun _ _ q=>q) (fun _ _ q=>q) rfl rfl⟩
  | false =>
   have hiv:false=v:=by rw[<- hiv,hc];rfl
   subst hiv;simp (disch:=omega) only[Wz,seval];exact fin _ _
 ·have e:i=l.length:=by omega
  subst e;rw[List.drop_length] at hiv;have hiv:true=v:=hiv;subst hiv;simp (disch:=omega) only[Wz,seval];exact fin _ _
theorem JhS:∀ (m:Nat) (g:Gd),gsz g<=m->m<=2000000000->Jnu g->JR Pg 86 [.agg (JaZ g)] (.lit (.bool (JaR g)))
  | 0,g,h,_,_=>by have:=JcI g;omega
  | m+1,g,h,hm,hok=>by
    have hl:=Jby g;have hall:=JpB g.kids (by omega) fun k hk=>JhS m k (by have:=Jbm hk;omega) (by omega) (by cases hok with | mk _ h2=>exact h2 k hk);have pk:∀ v∈[AV.vec (g.kids.map JaZ) false],Ab.Pure v:=Jb (.vec (Ji JQ _)) Jl;refine Jn Tryz.func86 rfl Tryz.ntmps86 (rs:=[.tmp 2]) rfl (by simp) ?_;have fin:∀ h (b:Bool),JcV h (.lit (.bool b)) (.lit (.bool b)):=fun h b=>Ja (.lit _);rw[Jim];have hsE:(g.name.toList==(⟨#[]⟩:ByteArray).toList)=sEq g.name ⟨#[]⟩:=rfl;have bools:∀ b:Bool,(b && true)=b/\(true && b)=b/\(b && false)=false/\(false && b)=false:=fun b=>by cases b <;> decide
    cases hE:sEq g.name ⟨#[]⟩ with
    | false =>
      simp (disch:=omega) only[Wz,seval,Jy,hsE,hE];exact fin _ _
    | true =>
    by_cases h2:g.op.1=8
    · by_cases h3:g.kids.length=0 <;> by_cases h4:g.n<1000000000000000000 <;> by_cases h5:g.n > -1000000000000000000 <;> by_cases h6:g.n=0
      all_goals first
        | omega
        | (simp (disch:=omega) only[Wz,seval,Jy,hsE,hE,bools]
           exact fin _ _)
    by_cases h1:¬ g.n=0
    · simp (disch:=omega) only[Wz,seval,Jy,hsE,hE]
      exact fin _ _
    by_cases h3:g.op.1=0
    · by_cases h4:g.kids.length=0
      all_goals
        simp (disch:=omega) only[Wz,seval,Jy,hsE,hE,bools];exact fin _ _
    by_cases h4:g.op.1=1
    · by_cases h4:g.kids.length=0
      all_goals
        simp (disch:=omega) only[Wz,seval,Jy,hsE,hE,bools];exact fin _ _
    by_cases h5:g.op.1=2
    · by_cases h6:g.kids.length=1
      · simp (disch:=omega) only[Wz,seval,Jy,hsE,hE,bools]
        refine Je Joy hall pk (.lit _) ?_;cases g.kids.all JaR;all_goals
          simp (disch:=omega) only[Wz,seval,bools];exact fin _ _
      · simp (disch:=omega) only[Wz,seval,Jy,hsE,hE,bools]
        exact fin _ _
    by_cases h6:g.op.1=3\/g.op.1=4
    · by_cases h7:g.kids.length >= 2
      · rcases h6 with h6 | h6
        all_goals
          simp (disch:=omega) only[Wz,seval,Jy,hsE,hE,bools];refine Je Joy hall pk (.lit _) ?_;cases g.kids.all JaR;all_goals
            simp (disch:=omega) only[Wz,seval,bools];exact fin _ _
      · rcases h6 with h6 | h6
        all_goals
          simp (disch:=omega) only[Wz,seval,Jy,hsE,hE,bools];exact fin _ _
    by_cases h7:5<=g.op.1/\g.op.1<=7
    · have ok2:∀ k∈g.kids,k.name.size<=9000000000000000000:=fun k hk=>by cases hok with | mk _ h2=>cases h2 k hk with | mk h3 _=>exact h3
      by_cases h8:g.kids.length=2
      · obtain⟨k,j,hk⟩:∃ k j,g.kids=[k,j]:=by
          match hq:g.kids,h8 with
          | [k,j],_=>exact⟨k,j,rfl⟩
        have hkm:k∈g.kids:=by rw[hk];simp
        have hjm:j∈g.kids:=by rw[hk];simp
        have gk:g.kids.getD 0 default=k:=by rw[hk];rfl
        have gj:g.kids.getD 1 default=j:=by rw[hk];rfl
        have ea:g.kids.all JjP=(JjP k && JjP j):=by rw[hk];simp
        have nk:=JfE k (ok2 k hkm) (by have:=Jbm hkm;have:=Jby k;omega);have nj:=JfE j (ok2 j hjm) (by have:=Jbm hjm;have:=Jby j;omega);rw[ea];have pk:=JQ k;have pj:=JQ j;rw[Jy] at nk nj pk pj;rcases(by omega:g.op.1=5\/g.op.1=6\/g.op.1=7) with q | q | q
        all_goals
          simp (disch:=omega) only[Wz,seval,Jy,hsE,hE,bools,gk];refine Je Joz nk (Jb (.agg pk) Jl) (.lit _) ?_;cases JjP k with
          | false =>
            simp (disch:=omega) only[Wz,seval,bools];exact fin _ _
          | true =>
            simp (disch:=omega) only[Wz,seval,Jy,bools,gj];refine Je Joz nj (Jb (.agg pj) Jl) (.lit _) ?_;cases JjP j;all_goals
              simp (disch:=omega) only[Wz,seval,bools];exact fin _ _
      · rcases(by omega:g.op.1=5\/g.op.1=6\/g.op.1=7) with q | q | q
        all_goals
          simp (disch:=omega) only[Wz,seval,Jy,hsE,hE,bools];exact fin _ _
    · simp (disch:=omega) only[Wz,seval,Jy,hsE,hE,bools]
      exact fin _ _
theorem JfF(g:Gd)(h:gsz g<=2000000000)(hok:Jnu g):JR Pg 67 [.agg (JaZ g)] (.lit (.int .i64 (if ckG g then 0 else 40))):=by
 refine Jn Tryz.func67 rfl Tryz.ntmps67 (rs:=[.tmp 2]) rfl (by simp) ?_;have hs:=JhR (gsz g) g (Nat.le_refl _) h;have hc:=JhS (gsz g) g (Nat.le_refl _) h hok;rw[Jy] at hs hc;have pg:=JQ g;rw[Jy] at pg;have fin:∀ h (b:Int),JcV h (.lit (.int .i64 b)) (.lit (.int .i64 b)):=fun h b=>Ja (.lit _);unfold ckG;simp (disch:=omega) only[Wz,seval,Jy];refine Je Jr3 hs (Jb (.agg pg) Jl) (.lit _) ?_;by_cases h1:JcB g<=64
 ·simp (disch:=omega) only[Wz,seval];refine Je Jr4 hc (Jb (.agg pg) Jl) (.lit _) ?_;cases JaR g;all_goals
   simp (disch:=omega) only[Wz,seval,Bool.true_and,Bool.false_eq_true];exact fin _ _
 ·simp (disch:=omega) only[Wz,seval,Bool.false_and,Bool.false_eq_true];exact fin _ _
def plB (p:Pl):List AV:=[.lit (.int .i64 p.index),.lit (.int .i64 p.column),.lit (.int .i64 p.la),.lit (.int .i64 p.mode)]
theorem JhT(p:Pl)(o:List Orc)(ho:o.length<=2000000000):∀ (m:Nat) (g:Gd),gsz g<=m->m<=2000000000->JaR g=true->JR Pg 92 [.agg (JaZ g),.agg (JaI p),.vec (o.map Jb9) false] (.lit (.bool (JaN p o g)))
 | 0,g,h,_,_=>by have:=JcI g;omega
 | m+1,g,h,hm,hok=>by
  have hl:=Jby g;have po:Ab.Pure (.vec (o.map Jb9) false):=.vec (Ji Jbx _);have ih:∀ k∈g.kids,JaR k=true->JR Pg 92 [.agg (JaZ k),.agg (JaI p),.vec (o.map Jb9) false] (.lit (.bool (JaN p o k))):=fun k hk hc=>JhT p o ho m k (by have:=Jbm hk;omega) (by omega) hc;have pk:∀ k,∀ v∈[AV.agg (JaZ k),.agg (JaI p),.vec (o.map Jb9) false],Ab.Pure v:=fun k=>Jb (.agg (JQ k)) (Jb (.agg (JaU p)) (Jb po Jl));refine Jn Tryz.func92 rfl Tryz.ntmps92 (rs:=[.tmp 6]) rfl (by simp) ?_;obtain⟨c1,c2,c3⟩:=JgF hok;rw[JlR];have fin:∀ h (b:Bool),JcV h (.lit (.bool b)) (.lit (.bool b)):=fun h b=>Ja (.lit _);by_cases h0:g.op.1=0
  ·simp (disch:=omega) only[Wz,seval,Jy,JaI];exact fin _ _
  by_cases h1:g.op.1=1
  ·simp (disch:=omega) only[Wz,seval,Jy,JaI];exact fin _ _
  by_cases h8:g.op.1=8
  ·simp (disch:=omega) only[Wz,seval,Jy,JaI];refine Je JsQ (Jkk o g.n p.index ho) (Jb (.lit _) (Jb (.lit _) (Jb po Jl))) (.lit _) ?_;simp (disch:=omega) only[Wz,seval];exact fin _ _
  by_cases h2:g.op.1=2
  ·have l1:=c1 h2;have ck:=c2 (by omega) (by omega);obtain⟨k,hk⟩:∃ k,g.kids=[k]:=by
    match hq:g.kids,l1 with
    | [k],_=>exact⟨k,rfl⟩
   have hkm:k∈g.kids:=by rw[hk];simp
   have gk:g.kids.getD 0 default=k:=by rw[hk];rfl
   have ea:g.kids.all (JaN p o)=JaN p o k:=by rw[hk];simp
   rw[ea];simp (disch:=omega) only[Wz,seval,Jy,JaI,gk];refine Jbh (n:=120) 7 (.alt 7 (.alt 8 .leaf .nil) .nil) rfl (by decide) (by decide) mixed (by kernel_rfl) (by decide) ?_;simp (disch:=omega) only[Wz,seval,gk];refine Jac JlM (ih k hkm (ck k hkm)) (pk k) (.lit _) ?_;simp (disch:=omega) only[Wz,seval];exact fin _ _
  by_cases h3:g.op.1=3
  ·have ck:=c2 (by omega) (by omega);obtain⟨v,hv⟩:∃ v,g.kids.all (JaN p o)=v:=⟨_,rfl⟩;simp (disch:=omega) only[Wz,seval,Jy,JaI,hv];refine Jp (fun i:Nat=>⟨[(7,.lit (.int .i64 (i:Int))),(2,.vec (o.map Jb9) false),(3,.ptr 0 0),(4,.ptr 1 0)],⟨[(0,gdB g),(1,plB p)],[],2⟩,120⟩) (fun i=>i<=g.kids.length/\((g.kids.drop i).all (JaN p o)=v)) (fun i=>g.kids.length - i) 0 (Jk (by simp[lk]) (fun _ _ q=>q) (fun _ _ q=>q) rfl rfl) ⟨Nat.zero_le _,by rw[List.drop_zero];exact hv⟩ ?_;rintro i ⟨hi,hiv⟩;refine Jj ?_;rcases Nat.lt_or_ge i g.kids.length with hlt | hge
   ·have hkm:=Ju (l:=g.kids) hlt;obtain⟨x,hx⟩:∃ x,g.kids.getD i default=x:=⟨_,rfl⟩;rw[Jbc hlt,List.all_cons,hx] at hiv;rw[hx] at hkm;simp (disch:=omega) only[Wz,seval,gdB,plB,hx];refine Jbh (n:=120) 7 (.alt 7 (.alt 8 .leaf .nil) .nil) rfl (by decide) (by decide) mixed (by kernel_rfl) (by decide) ?_;simp (disch:=omega) only[Wz,seval,gdB,plB,hx];refine Je JlM (ih x hkm (ck x hkm)) (pk x) (.lit _) ?_;cases hc:JaN p o x with
    | true =>
     have hiv:(g.kids.drop (i+1)).all (JaN p o)=v:=by rw[<- hiv,hc];rfl
     simp (disch:=omega) only[Wz,seval];exact⟨i+1,⟨by omega,hiv⟩,by omega,Jk (by simp[lk]) (fun _ _ q=>q) (fun _ _ q=>q) rfl rfl⟩
    | false =>
     have hiv:false=v:=by rw[<- hiv,hc];rfl
     subst hiv;simp (disch:=omega) only[Wz,seval];exact fin _ _
   ·have e:i=g.kids.length:=by omega
    subst e;rw[List.drop_length] at hiv;have hiv:true=v:=hiv;subst hiv;simp (disch:=omega) only[Wz,seval,gdB,plB];exact fin _ _
  by_cases h4:g.op.1=4
  ·have ck:=c2 (by omega) (by omega);obtain⟨v,hv⟩:∃ v,g.kids.any (JaN p o)=v:=⟨_,rfl⟩;simp (disch:=omega) only[Wz,seval,Jy,JaI,hv];refine Jp (fun i:Nat=>⟨[(8,.lit (.int .i64 (i:Int))),(2,.vec (o.map Jb9) false),(3,.ptr 0 0),(4,.ptr 1 0)],⟨[(0,gdB g),(1,plB p)],[],2⟩,120⟩) (fun i=>i<=g.kids.length/\((g.kids.drop i).any (JaN p o)=v)) (fun i=>g.kids.length - i) 0 (Jk (by simp[lk]) (fun _ _ q=>q) (fun _ _ q=>q) rfl rfl) ⟨Nat.zero_le _,by rw[List.drop_zero];exact hv⟩ ?_;rintro i ⟨hi,hiv⟩;refine Jj ?_;rcases Nat.lt_or_ge i g.kids.length with hlt | hge
   ·have hkm:=Ju (l:=g.kids) hlt;obtain⟨x,hx⟩:∃ x,g.kids.getD i default=x:=⟨_,rfl⟩;rw[Jbc hlt,List.any_cons,hx] at hiv;rw[hx] at hkm;simp (disch:=omega) only[Wz,seval,gdB,plB,hx];refine Jbh (n:=120) 7 (.alt 7 .leaf .nil) rfl (by decide) (by decide) mixed (by kernel_rfl) (by decide) ?_;simp (disch:=omega) only[Wz,seval,gdB,plB,hx];refine Je JlM (ih x hkm (ck x hkm)) (pk x) (.lit _) ?_;cases hc:JaN p o x with
    | false =>
     have hiv:(g.kids.drop (i+1)).any (JaN p o)=v:=by rw[<- hiv,hc];rfl
     simp (disch:=omega) only[Wz,seval];exact⟨i+1,⟨by omega,hiv⟩,by omega,Jk (by simp[lk]) (fun _ _ q=>q) (fun _ _ q=>q) rfl rfl⟩
    | true =>
     have hiv:true=v:=by rw[<- hiv,hc];rfl
     subst hiv;simp (disch:=omega) only[Wz,seval];exact fin _ _
   ·have e:i=g.kids.length:=by omega
    subst e;rw[List.drop_length] at hiv;have hiv:false=v:=hiv;subst hiv;simp (disch:=omega) only[Wz,seval,gdB,plB];exact fin _ _
  obtain⟨c4,c5⟩:=c3 h0 h1 h8 h2 h3 h4;obtain⟨k,j,hk⟩:∃ k j,g.kids=[k,j]:=by
   match hq:g.kids,c5 with
   | [k,j],_=>exact⟨k,j,rfl⟩
  have gk:g.kids.getD 0 default=k:=by rw[hk];rfl
  have gj:g.kids.getD 1 default=j:=by rw[hk];rfl
  rw[gk,gj];obtain⟨x,hx⟩:∃ x,JmL k p=x:=⟨_,rfl⟩;obtain⟨y,hy⟩:∃ y,JmL j p=y:=⟨_,rfl⟩;have nk:=JfD k p;have nj:=JfD j p;rw[hx] at nk;rw[hy] at nj;rw[hx,hy];unfold Jzw;rcases(by omega:g.op.1=5\/g.op.1=6\/g.op.1=7) with h | h | h
  all_goals
   simp (disch:=omega) only[Wz,seval,Jy,JaI,gk,gj];refine Jbg (n:=120) (σ':=⟨[(9,.lit (.int .i64 x)),(3,.ptr 0 0),(4,.ptr 1 0)],⟨[(0,gdB g),(1,plB p)],[],2⟩,120⟩) 2 6 (.alt 6 (.alt 7 (.alt 8 (.alt 9 (.alt 10 .leaf .nil) .nil) (.alt 9 (.alt 8 (.alt 10 .leaf .nil) .nil) .nil)) (.alt 8 (.alt 7 (.alt 9 (.alt 10 .leaf .nil) .nil) .nil) .nil)) .nil) rfl (by decide) (by decide) mixed (by kernel_rfl) (by decide) ?_ ?_
   ·simp (disch:=omega) only[Wz,seval,gk,gj];refine Jac JoE nk (Jb (.agg (JQ k)) (Jb (.agg (JaU p)) Jl)) (.tup (Jb (.lit _) (Jb (.lit _) Jl))) ?_;simp (disch:=omega) only[Wz,seval];exact⟨⟨St.wk.cp (St.wk_slots1 (by simp[lk]) (by simp[lk,gdB,plB]) (fun t=>rfl)),St.wk.cp (St.wk_slots1 (by simp[lk]) (by simp[lk,gdB,plB]) (fun t=>rfl))⟩,St.wk.cp (St.wk_slots1 (by simp[lk]) (by simp[lk,gdB,plB]) (fun t=>rfl))⟩
   simp (disch:=omega) only[Wz,seval,gdB,plB];refine Jbg (n:=120) (σ':=⟨[(11,.lit (.int .i64 y)),(9,.lit (.int .i64 x)),(3,.ptr 0 0)],⟨[(0,gdB g)],[],2⟩,120⟩) 2 6 (.alt 6 (.alt 7 (.alt 8 (.alt 9 (.alt 10 .leaf .nil) .nil) (.alt 9 (.alt 8 (.alt 10 .leaf .nil) .nil) .nil)) (.alt 8 (.alt 7 (.alt 9 (.alt 10 .leaf .nil) .nil) .nil) .nil)) .nil) rfl (by decide) (by decide) mixed (by kernel_rfl) (by decide) ?_ ?_
   ·simp (disch:=omega) only[Wz,seval,gk,gj];refine Jac JoE nj (Jb (.agg (JQ j)) (Jb (.agg (JaU p)) Jl)) (.tup (Jb (.lit _) (Jb (.lit _) Jl))) ?_;simp (disch:=omega) only[Wz,seval];exact⟨⟨St.wk.cp (St.wk_slots1 (by simp[lk]) (by simp[lk,gdB]) (fun t=>rfl)),St.wk.cp (St.wk_slots1 (by simp[lk]) (by simp[lk,gdB]) (fun t=>rfl))⟩,St.wk.cp (St.wk_slots1 (by simp[lk]) (by simp[lk,gdB]) (fun t=>rfl))⟩
   simp (disch:=omega) only[Wz,seval,gdB]
  ·by_cases hxy:x<y;all_goals
    simp (disch:=omega) only[Wz,seval];exact fin _ _
  ·by_cases hxy:x<=y;all_goals
    simp (disch:=omega) only[Wz,seval];exact fin _ _
  ·by_cases hxy:x=y;all_goals
    simp (disch:=omega) only[Wz,seval];exact fin _ _
theorem Jln(g:Gd)(p:Pl)(o:List Orc)(h:gsz g<=2000000000)(hok:Jnu g)(ho:o.length<=2000000000):JR Pg 76 [.agg (JaZ g),.agg (JaI p),.vec (o.map Jb9) false] (.lit (.bool (ckG g && JaN p o g))):=by
 refine Jn Tryz.func76 rfl Tryz.ntmps76 (rs:=[.tmp 6]) rfl (by simp) ?_;have fin:∀ h (b:Bool),JcV h (.lit (.bool b)) (.lit (.bool b)):=fun h b=>Ja (.lit _);have hc:=JfF g h hok;have hs:=fun q=>JhT p o ho (gsz g) g (Nat.le_refl _) h q
 have pg:=JQ g;rw[Jy] at hc hs pg;simp (disch:=omega) only[Wz,seval,Jy,JaI];unfold JaI at hs;refine Je Jr0 hc (Jb (.agg pg) Jl) (.lit _) ?_;cases hk:ckG g with
 | false =>
  simp (disch:=omega) only[Wz,seval,Bool.false_and,Bool.false_eq_true];exact fin _ _
 | true =>
  have hcd:JaR g=true:=by unfold ckG at hk;simp only[Bool.and_eq_true] at hk;exact hk.2
  simp (disch:=omega) only[Wz,seval,Bool.true_and];refine Je JlM (hs hcd) (Jb (.agg pg) (Jb (.agg (JaU p)) (Jb (.vec (Ji Jbx _)) Jl))) (.lit _) ?_;simp (disch:=omega) only[Wz,seval];exact fin _ _
theorem JpC(s:List (Int × Int))(x:Int)(h:s.length<=2000000000):JR Pg 74 [.vec (s.map Jbi) false,.lit (.int .i32 x)] (.lit (.bool (Jnv s x))):=by
 refine Jn Tryz.func74 rfl Tryz.ntmps74 (rs:=[.tmp 4]) rfl (by simp) ?_;have fin:∀ h (b:Bool),JcV h (.lit (.bool b)) (.lit (.bool b)):=fun h b=>Ja (.lit _);obtain⟨v,hv⟩:∃ v,Jnv s x=v:=⟨_,rfl⟩;rw[hv];simp (disch:=omega) only[Wz,seval];refine Jp (fun i:Nat=>⟨[(5,.lit (.int .i64 (i:Int))),(0,.vec (s.map Jbi) false),(1,.lit (.int .i32 x))],.none,28⟩) (fun i=>i<=s.length/\(Jnv (s.drop i) x=v)) (fun i=>s.length - i) 0 (Jk (by simp[lk]) (fun _ _ q=>q) (fun _ _ q=>q) rfl rfl) ⟨Nat.zero_le _,by rw[List.drop_zero];exact hv⟩ ?_;rintro i ⟨hi,hiv⟩;refine Jj ?_;rcases Nat.lt_or_ge i s.length with hlt | hge
 ·obtain⟨r,hr⟩:∃ r,s.getD i default=r:=⟨_,rfl⟩;unfold Jnv at hiv;rw[Jbc hlt,List.any_cons,hr] at hiv;unfold JyC at hiv;by_cases h1:r.1<=x
  ·by_cases h2:x<=r.2
   ·have hiv:true=v:=by rw[<- hiv,decide_eq_true (⟨h1,h2⟩:r.1<=x/\x<=r.2)];rfl
    subst hiv;simp (disch:=omega) only[Wz,seval,hr,Jbi];exact fin _ _
   ·have hiv:Jnv (s.drop (i+1)) x=v:=by rw[<- hiv,decide_eq_false (fun q:r.1<=x/\x<=r.2=>h2 q.2)];rfl
    simp (disch:=omega) only[Wz,seval,hr,Jbi];exact⟨i+1,⟨by omega,hiv⟩,by omega,Jk (by simp[lk]) (fun _ _ q=>q) (fun _ _ q=>q) rfl rfl⟩
  ·have hiv:Jnv (s.drop (i+1)) x=v:=by rw[<- hiv,decide_eq_false (fun q:r.1<=x/\x<=r.2=>h1 q.1)];rfl
   simp (disch:=omega) only[Wz,seval,hr,Jbi];exact⟨i+1,⟨by omega,hiv⟩,by omega,Jk (by simp[lk]) (fun _ _ q=>q) (fun _ _ q=>q) rfl rfl⟩
 ·have e:i=s.length:=by omega
  subst e;rw[List.drop_length] at hiv;have hiv:false=v:=hiv;subst hiv;simp (disch:=omega) only[Wz,seval];exact fin _ _
end Go.Proofs.Y
end
