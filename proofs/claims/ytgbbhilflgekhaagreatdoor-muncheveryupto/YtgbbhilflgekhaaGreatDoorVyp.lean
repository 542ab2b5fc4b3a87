/- Parts of the proof, laid together. -/
import Derived.Test.YtgbbhilflgekhaaGreatDoorVyo
set_option linter.unusedVariables false
set_option linter.unusedSimpArgs false
set_option maxRecDepth 20000
set_option maxHeartbeats 16000000
section
namespace Go.Proofs.Y
open Go Go.Ab
end Go.Proofs.Y
end
section
namespace Go.Proofs.Y
open Go Go.Ab
section
variable {n:Nt} {o:List Orc} {l:List Un} {md:Int} {W:AV} {k:Nat} {rk:Nat->Nat} {R:Nat} (z:JBh n o l md W k rk R)
include z
end
end Go.Proofs.Y
end
section
namespace Go.Proofs.Y
open Go Go.Ab
end Go.Proofs.Y
end
section
namespace Go.Proofs.Y
open Go Go.Ab
end Go.Proofs.Y
end
section
namespace Go.Proofs.Y
open Go Go.Ab
theorem JlS{l:List Un}(hr:(l.map (·.pos)).Pairwise (· < ·)){a b:Nat}(hab:a<b)(hb:b<l.length):(l.getD a default).pos<(l.getD b default).pos:=by
 have:=List.pairwise_iff_getElem.1 hr a b (by simp;omega) (by simpa using hb) hab;rw[List.getElem_map,List.getElem_map] at this;rw[List.getD_eq_getElem?_getD,List.getD_eq_getElem?_getD,List.getElem?_eq_getElem (by omega),List.getElem?_eq_getElem hb];exact this
end Go.Proofs.Y
end
section
namespace Go.Proofs.Y
open Go Go.Ab
end Go.Proofs.Y
end
