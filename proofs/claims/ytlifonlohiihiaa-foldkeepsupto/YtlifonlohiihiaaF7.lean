/- The plain law of folding, with no program in sight. Conditions: none but those that each theorem names. -/
import Derived.Test.YtlifonlohiihiaaF6
namespace Go.Proofs.Ytlifonlohiihiaa
open Go.Ab
set_option linter.unusedSimpArgs false
set_option linter.unusedVariables false
set_option linter.unnecessarySimpa false

theorem lvs_leaf {k r a t y : Int} {o : Bool} {l : List Tr} (h : (k == 0 || k == 1) = false) : lvs (.mk k r a t y o l) = [.mk k 0 0 t y false []] := by simp only [lvs, h]; rfl
theorem lvs_node {k r a t y : Int} {o : Bool} {l : List Tr} (h : (k == 0 || k == 1) = true) : lvs (.mk k r a t y o l) = lvsL l := by simp only [lvs, h]; rfl
theorem fdds_append : ∀ l l' : List Tr, fdds (l ++ l') = (fdds l && fdds l')
  | [], l' => by simp [fdds]
  | t :: l, l' => by simp [fdds, fdds_append l l', Bool.and_assoc]

structure Kept (t : Tr) : Prop where
  sz : tsz (fld t) = tsz t
  fd : fdd (fld t) = true
  lv : lvs (fld t) = lvs t

theorem flds_kept : ∀ l : List Tr, (∀ t ∈ l, Kept t) → tszs (flds l) = tszs l ∧ fdds (flds l) = true ∧ lvsL (flds l) = lvsL l
  | [], _ => by simp [flds, fdds]
  | t :: l, h => by
    obtain ⟨h1, h2, h3⟩ := flds_kept l (fun t ht => h t (by simp [ht]))
    have k := h t (by simp)
    simp [flds, fdds, tszs, lvsL, h1, h2, h3, k.sz, k.fd, k.lv]

/-- What is kept along the row of kids. -/
structure Mid (st : Bool) (s : Tr × Bool) (n : Nat) (lv : List Tr) (leaf : Option (Int × Int × Int)) : Prop where
  sz : tsz s.1 = n
  fd : fdd s.1 = true
  node : leaf = none → s.1.kind = 0 ∧ lvsL s.1.kids = lv
  leafy : ∀ x, leaf = some x → st = false ∧ s.1.kind = x.1 ∧ s.1.token = x.2.1 ∧ s.1.typ = x.2.2

theorem mid_step {st : Bool} {r : Int} {s : Tr × Bool} {n : Nat} {lv : List Tr} {leaf : Option (Int × Int × Int)} (m : Mid st s n lv leaf) (x : Tr) (hx : Kept x) (hk : ∀ p ∈ x.kids, Kept p) (hs : st = true → leaf = none) (h1 : st = false → x.kind = 1 → True) :
    Mid st (fstep st r s x.fk) (n + tsz x) (lv ++ lvs x) leaf := by
  obtain ⟨⟨k1, r1, a1, t1, y1, o1, us⟩, fo⟩ := s
  rcases x with ⟨kx, rx, ax, tx, yx, ox, xs⟩
  obtain ⟨q1, q2, q3⟩ := flds_kept xs hk
  have hsz := m.sz
  have hfd := m.fd
  simp only [tsz, fdd, Bool.and_eq_true] at hsz hfd
  by_cases hc : (st && kx == 1) = true
  · have hst : st = true := by simp only [Bool.and_eq_true] at hc; exact hc.1
    have hkx : kx = 1 := by simp only [Bool.and_eq_true, beq_iff_eq] at hc; exact hc.2
    have hl := hs hst
    obtain ⟨n1, n2⟩ := m.node hl
    simp only [Tr.kind, Tr.kids] at n1 n2
    subst hkx n1
    simp only [fstep, Tr.fk, hc, if_true]
    refine ⟨?_, ?_, fun _ => ⟨rfl, ?_⟩, fun x hx' => by rw [hl] at hx'; cases hx'⟩
    · cases fo <;> simp [tsz, tszs, Tr.setOpen, q1] <;> omega
    · cases fo <;> simp [fdd, fdds, Tr.setOpen, q2, hfd.2]
    · have e1 : lvs (.mk 1 rx ax tx yx ox xs) = lvsL xs := lvs_node rfl
      have e2 : ∀ o, lvs (.mk 0 r1 a1 t1 y1 o us) = lvsL us := fun o => lvs_node rfl
      rw [e1]
      cases fo <;> simp [Tr.kids, lvsL, Tr.setOpen, e2, n2, q3]
  · simp only [fstep, Tr.fk, hc, Bool.false_eq_true, if_false, Tr.addKid]
    refine ⟨?_, ?_, fun hl => ?_, fun y hy => ?_⟩
    · simp only [tsz, tszs_append, tszs, hx.sz]; omega
    · simp only [fdd, fdds_append, fdds, hx.fd, hfd.2, Bool.and_true, hfd.1]
    · obtain ⟨n1, n2⟩ := m.node hl
      exact ⟨n1, by simp only [Tr.kids] at n2 ⊢; rw [lvsL_append]; simp [lvsL, n2, hx.lv]⟩
    · exact m.leafy y hy

theorem mid_all {st : Bool} {r : Int} {leaf : Option (Int × Int × Int)} (hs : st = true → leaf = none) : ∀ (l : List Tr) (s : Tr × Bool) (n : Nat) (lv : List Tr), (∀ x ∈ l, Kept x ∧ ∀ p ∈ x.kids, Kept p) → Mid st s n lv leaf →
    Mid st ((fks l).foldl (fstep st r) s) (n + tszs l) (lv ++ lvsL l) leaf
  | [], s, n, lv, _, m => by simpa [fks, tszs, lvsL] using m
  | x :: l, s, n, lv, h, m => by
    have h1 := mid_step (r := r) m x (h x (by simp)).1 (h x (by simp)).2 hs (fun _ _ => trivial)
    have h2 := mid_all (r := r) hs l _ _ _ (fun y hy => h y (by simp [hy])) h1
    have e : fks (x :: l) = x.fk :: fks l := by cases x; rfl
    rw [e, List.foldl_cons]
    simpa [tszs, lvsL, Nat.add_assoc, List.append_assoc] using h2

theorem kept_all (n : Nat) : ∀ t : Tr, tsz t ≤ n → Kept t := by
  induction n with
  | zero => intro t h; have := tsz_pos t; omega
  | succ n IH =>
    intro t h
    rcases t with ⟨k, r, a, tk, ty, o, ks⟩
    have hk : ∀ x ∈ ks, Kept x ∧ ∀ p ∈ x.kids, Kept p := fun x hx => by
      have h1 := tsz_mem hx
      simp only [tsz] at h
      refine ⟨IH x (by omega), fun p hp => IH p ?_⟩
      have h2 := tsz_mem hp
      cases x; simp only [Tr.kids] at h2; simp only [tsz] at h1; omega
    by_cases hkk : (k == 0 || k == 1) = true
    · have m0 : Mid (k == 0) (.mk (if k == 1 then 0 else k) r a tk ty o [], false) 1 [] none := by
        have hz : (if (k == 1) = true then (0 : Int) else k) = 0 := by
          by_cases q : k = 1
          · simp [q]
          · simp only [Bool.or_eq_true, beq_iff_eq] at hkk
            rcases hkk with rfl | rfl <;> rfl
        exact ⟨rfl, by simp only [hz]; rfl, fun _ => ⟨hz, rfl⟩, fun x hx => by cases hx⟩
      have m := mid_all (r := r) (fun _ => rfl) ks _ _ _ hk m0
      have hf : fld (.mk k r a tk ty o ks) = ((fks ks).foldl (fstep (k == 0) r) (.mk (if k == 1 then 0 else k) r a tk ty o [], false)).1.setOpen (((fks ks).foldl (fstep (k == 0) r) (.mk (if k == 1 then 0 else k) r a tk ty o [], false)).1.opn || (((fks ks).foldl (fstep (k == 0) r) (.mk (if k == 1 then 0 else k) r a tk ty o [], false)).2 && o)) := by rw [fld]
      generalize (fks ks).foldl (fstep (k == 0) r) (.mk (if k == 1 then 0 else k) r a tk ty o [], false) = s at m hf
      obtain ⟨⟨k1, r1, a1, t1, y1, o1, us⟩, fo⟩ := s
      simp only [Tr.setOpen] at hf
      have hsz := m.sz; have hfd := m.fd
      obtain ⟨n1, n2⟩ := m.node rfl
      simp only [Tr.kind, Tr.kids] at n1 n2
      subst n1
      refine ⟨?_, ?_, ?_⟩ <;> rw [hf]
      · simp only [tsz] at hsz ⊢; omega
      · simpa [fdd] using hfd
      · rw [lvs_node hkk, lvs_node rfl, n2]; simp
    · have hkf : (k == 0 || k == 1) = false := by simpa using hkk
      have h0 : (k == 0) = false := by simp at hkf ⊢; exact hkf.1
      have h1 : (k == 1) = false := by simp at hkf ⊢; exact hkf.2
      have m0 : Mid (k == 0) (.mk (if k == 1 then 0 else k) r a tk ty o [], false) 1 [] (some (k, tk, ty)) := by
        refine ⟨rfl, ?_, fun q => (by cases q), fun x hx => ?_⟩
        · simp only [h1, fdd, fdds, Bool.and_true, Bool.false_eq_true, if_false]; simp at h1 ⊢; exact h1
        · cases hx; exact ⟨h0, by simp [h1, Tr.kind], rfl, rfl⟩
      have m := mid_all (r := r) (fun q => by rw [h0] at q; cases q) ks _ _ _ hk m0
      have hf : fld (.mk k r a tk ty o ks) = ((fks ks).foldl (fstep (k == 0) r) (.mk (if k == 1 then 0 else k) r a tk ty o [], false)).1.setOpen (((fks ks).foldl (fstep (k == 0) r) (.mk (if k == 1 then 0 else k) r a tk ty o [], false)).1.opn || (((fks ks).foldl (fstep (k == 0) r) (.mk (if k == 1 then 0 else k) r a tk ty o [], false)).2 && o)) := by rw [fld]
      generalize (fks ks).foldl (fstep (k == 0) r) (.mk (if k == 1 then 0 else k) r a tk ty o [], false) = s at m hf
      obtain ⟨⟨k1, r1, a1, t1, y1, o1, us⟩, fo⟩ := s
      simp only [Tr.setOpen] at hf
      have hsz := m.sz; have hfd := m.fd
      obtain ⟨_, n1, n2, n3⟩ := m.leafy _ rfl
      simp only [Tr.kind, Tr.token, Tr.typ] at n1 n2 n3
      subst n1 n2 n3
      refine ⟨?_, ?_, ?_⟩ <;> rw [hf]
      · simp only [tsz] at hsz ⊢; omega
      · simpa [fdd] using hfd
      · rw [lvs_leaf hkf, lvs_leaf hkf]
theorem kept (t : Tr) : Kept t := kept_all _ t (Nat.le_refl _)

/-- What has no step is its own fold. -/
theorem same_run (r : Int) (k : Int) (st : Bool) (a t y : Int) (o : Bool) : ∀ (l us : List Tr), (∀ x ∈ l, x.kind ≠ 1 ∧ fld x = x) → (fks l).foldl (fstep st r) (.mk k r a t y o us, false) = (.mk k r a t y o (us ++ l), false)
  | [], us, _ => by simp [fks]
  | x :: l, us, h => by
    obtain ⟨h1, h2⟩ := h x (by simp)
    have e : fks (x :: l) = x.fk :: fks l := by cases x; rfl
    rw [e, List.foldl_cons]
    have hx : fstep st r (.mk k r a t y o us, false) x.fk = (.mk k r a t y o (us ++ [x]), false) := by
      rcases x with ⟨kx, rx, ax, tx, yx, ox, xs⟩
      simp only [Tr.kind] at h1
      simp [fstep, Tr.fk, h1, Tr.addKid, h2]
    rw [hx, same_run r k st a t y o l _ (fun x hx => h x (by simp [hx]))]
    simp
theorem fdds_mem : ∀ {l : List Tr} {t : Tr}, fdds l = true → t ∈ l → fdd t = true
  | x :: l, t, h, m => by
    simp only [fdds, Bool.and_eq_true] at h
    simp only [List.mem_cons] at m
    rcases m with rfl | m
    · exact h.1
    · exact fdds_mem h.2 m
theorem fdd_kind {t : Tr} (h : fdd t = true) : t.kind ≠ 1 := by
  cases t; simp only [fdd, Bool.and_eq_true] at h; simpa [Tr.kind] using h.1
theorem fld_same (n : Nat) : ∀ t : Tr, tsz t ≤ n → fdd t = true → fld t = t := by
  induction n with
  | zero => intro t h; have := tsz_pos t; omega
  | succ n IH =>
    intro t h hf
    rcases t with ⟨k, r, a, tk, ty, o, ks⟩
    simp only [fdd, Bool.and_eq_true] at hf
    have hk1 : (k == 1) = false := by simpa using hf.1
    simp only [fld, hk1, Bool.false_eq_true, if_false]
    rw [same_run r k _ a tk ty o ks [] (fun x hx => ⟨fdd_kind (fdds_mem hf.2 hx), IH x (by have := tsz_mem hx; simp only [tsz] at h; omega) (fdds_mem hf.2 hx)⟩)]
    simp [Tr.setOpen, Tr.opn]

theorem sam_refl (n : Nat) : ∀ t : Tr, tsz t ≤ n → sam t t = true := by
  induction n with
  | zero => intro t h; have := tsz_pos t; omega
  | succ n IH =>
    intro t h
    rcases t with ⟨k, r, a, tk, ty, o, ks⟩
    have hs : ∀ l : List Tr, (∀ x ∈ l, sam x x = true) → sams l l = true := by
      intro l
      induction l with
      | nil => intro _; rfl
      | cons x l ih => intro h; simp [sams, h x (by simp), ih (fun y hy => h y (by simp [hy]))]
    simp only [sam, evE, Tr.kids, beq_self_eq_true, Bool.and_true, Bool.true_and]
    rw [hs ks (fun x hx => IH x (by have := tsz_mem hx; simp only [tsz] at h; omega))]
    simp

theorem alikeL_refl : ∀ l : List Tr, alikeL l l = true
  | [] => rfl
  | x :: l => by simp [alikeL, alk, alikeL_refl l]

theorem cntL_eq : ∀ (l : List Tr) (n : Int), 0 ≤ n → n ≤ 2147483647 → (∀ x ∈ l, cnt x = min (tsz x : Int) 2147483647) → cntL n l = min (n + tszs l) 2147483647
  | [], n, h0, h, _ => by simp only [cntL, tszs]; omega
  | x :: l, n, h0, h, hx => by
    have h2 := hx x (by simp)
    have h3 := tsz_pos x
    have h1 := cntL_eq l (min (n + cnt x) 2147483647) (by omega) (by omega) (fun y hy => hx y (by simp [hy]))
    simp only [cntL, tszs]
    rw [h1, h2]
    omega
theorem cnt_eq (n : Nat) : ∀ t : Tr, tsz t ≤ n → cnt t = min (tsz t : Int) 2147483647 := by
  induction n with
  | zero => intro t h; have := tsz_pos t; omega
  | succ n IH =>
    intro t h
    rcases t with ⟨k, r, a, tk, ty, o, ks⟩
    simp only [cnt, tsz]
    rw [cntL_eq ks 1 (by omega) (by omega) (fun x hx => IH x (by have := tsz_mem hx; simp only [tsz] at h; omega))]
    omega
theorem cnt_fld (t : Tr) : cnt (fld t) = cnt t := by rw [cnt_eq _ (fld t) (Nat.le_refl _), cnt_eq _ t (Nat.le_refl _), (kept t).sz]
end Go.Proofs.Ytlifonlohiihiaa
