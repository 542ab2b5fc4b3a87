/- Contracts: which elements may be empty, as far as rules are known to be: the document's answer. Conditions: those that each theorem names. -/
import Derived.Test.YtogdlomemaoajaaNul2
namespace Go.Proofs.Ytogdlomemaoajaa
open Go.Ab
set_option linter.unusedSimpArgs false
set_option linter.unusedVariables false
set_option maxRecDepth 20000

def knH (kn : List Bool) : Hp := ⟨[], [(0, knT kn)], 1⟩
def kvl (kn : List Bool) : Bool → AV
  | true => .own 0 kn.length
  | false => .vec (kn.map bit) false
def ktk (kn : List Bool) : Bool → List (Nat × Tk)
  | true => [(0, knT kn)]
  | false => []
def knB (kn : List Bool) (b : Bool) : Hp := ⟨[], ktk kn b, 1⟩
theorem knB_own (kn : List Bool) (b : Bool) : Own (knB kn b) := by
  cases b
  · exact ⟨alln, alln⟩
  · exact ⟨alln, allc ⟨by show 0 < 1; decide, knT_rn kn⟩ alln⟩
theorem kvl_rn {n : Nat} (kn : List Bool) (b : Bool) {ρ : Nat → Nat} (hn : 0 < n) (hρ : ρ 0 = 0) : Rn ρ n (kvl kn b) (kvl kn b) := by
  cases b
  · exact .pure (.vec (pure_rows pure_bit kn))
  · exact .own hn hρ
theorem kn_sub {f : Nat} {kn : List Bool} {b : Bool} {x y z r : AV} (hx : Pure x) (hy : Pure y) (hz : Pure z) (hr : Pure r) {H : Hp} (ht : H.toks = ktk kn b) (h1 : 1 ≤ H.nx)
    (hc : QCall Try.prog f [x, kvl kn b, y, z] (knB kn b) r) : QCall Try.prog f [x, kvl kn b, y, z] H r := by
  refine QCall.sub (hs := knB kn b) (r0 := r) (av := [x, kvl kn b, y, z]) [0] rfl (by decide) (by simp; omega) (.cons (.pure hx) (.cons (kvl_rn kn b (by show 0 < 1; decide) rfl) (.cons (.pure hy) (.cons (.pure hz) .nil)))) alln ?_ ?_ hc (.pure hr)
  · cases b
    · exact alln
    · exact allc ⟨by show 0 < 1; decide, _, by rw [ht]; rfl, rfl, rfl, knT_rn kn⟩ alln
  · intro i hi hnn
    have hi : i < 1 := hi
    rw [ht]
    match i, hi with
    | 0, _ => exact hnn
theorem kn_sub1 {f : Nat} {kn : List Bool} {x y z r : AV} (hx : Pure x) (hy : Pure y) (hz : Pure z) (hr : Pure r) {H : Hp} (t : Nat) (ht : lk H.toks t = some (knT kn)) (h1 : t < H.nx)
    (hc : QCall Try.prog f [x, kvl kn true, y, z] (knB kn true) r) : QCall Try.prog f [x, .own t kn.length, y, z] H r := by
  refine QCall.sub (hs := knB kn true) (r0 := r) (av := [x, kvl kn true, y, z]) [t] rfl (by simp) (by simp [h1]) (.cons (.pure hx) (.cons (.own (by show 0 < 1; decide) rfl) (.cons (.pure hy) (.cons (.pure hz) .nil)))) alln (allc ⟨by show 0 < 1; decide, _, ht, rfl, rfl, knT_rn kn⟩ alln) ?_ hc (.pure hr)
  intro i hi hn
  have hi : i < 1 := hi
  match i, hi with
  | 0, _ => simp [knB, ktk, lk] at hn

theorem ktk_lk (kn : List Bool) (b : Bool) : ∀ p ∈ ktk kn b, lk (ktk kn b) p.1 = some p.2 := by
  cases b
  · exact alln
  · exact allc rfl alln

end Go.Proofs.Ytogdlomemaoajaa
