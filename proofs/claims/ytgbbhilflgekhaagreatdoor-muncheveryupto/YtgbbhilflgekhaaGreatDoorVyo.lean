/- Parts of the proof, laid together. -/
import Derived.Test.YtgbbhilflgekhaaGreatDoorVyn
set_option linter.unusedVariables false
set_option linter.unusedSimpArgs false
set_option maxRecDepth 20000
set_option maxHeartbeats 16000000
section
namespace Go.Proofs.Y
open Go Go.Ab
abbrev Mm:=List (Nat × Nat × List En)
instance:Inhabited (Nat × Nat × List En):=⟨(0,0,[])⟩
def owV (q:Option Nat)(n:Nat):AV:=match q with | none=>.vec [] true | some t=>.own t n
structure Fq (B T:List Nat) (H H':Hp):Prop where
 nx:H.nx<=H'.nx
 bx:∀ j,j<H.nx->j∉B->lk H'.boxes j=lk H.boxes j
 tk:∀ j,j<H.nx->j∉T->lk H'.toks j=lk H.toks j
 fb:∀ j,H'.nx<=j->lk H'.boxes j=none
 ft:∀ j,H'.nx<=j->lk H'.toks j=none
theorem Fq.trans{B B' T T':List Nat}{a b c:Hp}(h:Fq B T a b)(k:Fq B' T' b c)(hB:∀ j∈B',j∈B\/a.nx<=j)(hT:∀ j∈T',j∈T\/a.nx<=j):Fq B T a c :=
 ⟨Nat.le_trans h.nx k.nx,fun j hj hn=>(k.bx j (Nat.lt_of_lt_of_le hj h.nx) (fun q=>by rcases hB j q with q | q;exact hn q;omega)).trans (h.bx j hj hn),
  fun j hj hn=>(k.tk j (Nat.lt_of_lt_of_le hj h.nx) (fun q=>by rcases hT j q with q | q;exact hn q;omega)).trans (h.tk j hj hn),k.fb,k.ft⟩
theorem Fq.box{B T:List Nat}{H:Hp}(fb:∀ j,H.nx<=j->lk H.boxes j=none)(ft:∀ j,H.nx<=j->lk H.toks j=none)(c:List AV):Fq B T H ⟨H.boxes++[(H.nx,c)],H.toks,H.nx+1⟩:=by
 refine⟨Nat.le_succ _,fun j hj _=>?_,fun _ _ _=>rfl,fun j hj=>?_,fun j hj=>ft j (by have hj:H.nx+1<=j:=hj;omega)⟩
 ·show lk (H.boxes++[(H.nx,c)]) j=_;rw[JP];simp only[lk];rw[if_neg (by omega),Option.or_none]
 ·have hj:H.nx+1<=j:=hj;show lk (H.boxes++[(H.nx,c)]) j=none;rw[JP,fb j (by omega)];simp only[lk];rw[if_neg (by omega)];rfl
abbrev Q3:=Option (Nat × Nat × Nat)
def q1 (q:Q3):Option Nat:=q.map fun x=>x.1
def q2 (q:Q3):Option Nat:=q.map fun x=>x.2.1
def q3 (q:Q3):Option Nat:=q.map fun x=>x.2.2
def n3 (q:Q3):List Nat:=match q with | none=>[] | some x=>[x.1,x.2.1,x.2.2]
abbrev Q2:=Option (Nat × Nat)
def p1 (q:Q2):Option Nat:=q.map fun x=>x.1
def p2 (q:Q2):Option Nat:=q.map fun x=>x.2
def n2 (q:Q2):List Nat:=match q with | none=>[] | some x=>[x.1,x.2]
def n1 (q:Option Nat):List Nat:=match q with | none=>[] | some x=>[x]
section
variable (n:Nt) (o:List Orc) (l:List Un) (md:Int) (W:AV)
end
end Go.Proofs.Y
end
section
namespace Go.Proofs.Y
open Go Go.Ab
theorem Jhu{α:Type}{l:List (Nat × α)}{i:Nat}(h:lk l i=none)(c:α)(x:List (Nat × α)):lk (l++(i,c) :: x) i=some c:=by rw[JP,h];simp[lk]
theorem JdB{α:Type}{l:List (Nat × α)}{i j:Nat}(c:α)(hij:i≠j):lk (l++[(i,c)]) j=lk l j:=by
 rw[JP];simp only[lk];rw[if_neg hij,Option.or_none]
theorem Jpi{B:List (Nat × Tk)}{i:Nat}{c d:Tk}(h:lk B i=some d)(j:Nat):lk (up B i c) j=if i=j then some c else lk B j:=by
 rw[JV];split
 ·rw[h];rfl
 ·rfl
end Go.Proofs.Y
end
section
namespace Go.Proofs.Y
open Go Go.Ab
section
variable (n:Nt) (o:List Orc) (l:List Un) (md:Int) (W:AV) (k:Nat) (rk:Nat->Nat) (R:Nat)
def own (q:Q3)(qc:Q2)(e:Option Nat):List Nat:=n3 q++(n2 qc++n1 e)
end
end Go.Proofs.Y
end
section
namespace Go.Proofs.Y
open Go Go.Ab
end Go.Proofs.Y
end
section
namespace Go.Proofs.Y
open Go Go.Ab
section
variable (n:Nt) (o:List Orc) (l:List Un) (md:Int) (W:AV) (k:Nat) (rk:Nat->Nat) (R:Nat)
end
section
variable {n:Nt} {o:List Orc} {l:List Un} {md:Int} {W:AV} {k:Nat} {rk:Nat->Nat} {R:Nat} {μ li ci:Nat} {T0:List Nat} {H0:Hp} {M0:Mm} {s:Jbn} {out:List En} {M:Mm} {q:Q3} {qc:Q2} {e:Option Nat} {H:Hp}
end
end Go.Proofs.Y
end
section
namespace Go.Proofs.Y
open Go Go.Ab
structure JBh (n:Nt) (o:List Orc) (l:List Un) (md:Int) (W:AV) (k:Nat) (rk:Nat->Nat) (R:Nat):Prop where
 g:Jrx n o l md
 mu:JoR n
 fk:JmB n o l md k
 hrk:Rk n rk
 hR:∀ s,s<n.states.length->rk s<=R
 hW:W.cells=some [W]
section
variable {n:Nt} {o:List Orc} {l:List Un} {md:Int} {W:AV} {k:Nat} {rk:Nat->Nat} {R:Nat} (z:JBh n o l md W k rk R) {t:Tr} (ht:JgP n l t)
include z ht
end
end Go.Proofs.Y
end
