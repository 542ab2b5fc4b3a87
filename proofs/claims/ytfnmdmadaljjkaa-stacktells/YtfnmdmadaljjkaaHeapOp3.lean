/- Made slices and appends. Conditions: those that each theorem names. -/
import Derived.Test.YtfnmdmadaljjkaaHeapOp2
set_option linter.unusedVariables false
set_option linter.unusedSimpArgs false
namespace Go.Ab

section
variable {P : Program} {g0 : Gh} {h0 : Hp} {w0 : World} {σ : St} {g : Gh} {w : World} {a : Act} {o : Oper}

/-- The cells of a slice that is read. -/
theorem src_sound {h : Hp} (r : HRel g h w) {v : Value} {y : AV} (hv : Rep g v y) {ys : List (List AV)} (e : srcRows h y = some ys) {s : Nat} (hs : s ≠ 0) (hl : ∀ q ∈ ys, q.length = s) :
    ∃ news : List Value, news.length = ys.length * s ∧ (∀ u ∈ news, u.oneCell' = true) ∧ Lies g news.toArray ys s ∧
      ((v = .slice none 0 0 ∧ ys = []) ∨ ∃ ad c, v = .slice (some ad) ys.length c ∧ ys.length ≤ c ∧ ∀ j u, news[j]? = some u → w.cell? (ad.add j) = some u) := by
  cases hv with
  | vecN =>
    simp only [srcRows, Option.some.injEq] at e; subst e
    exact ⟨[], by simp, by simp, ⟨by simp, by simp⟩, .inl ⟨rfl, rfl⟩⟩
  | @vecE ad cap _ hf =>
    simp only [srcRows, Option.some.injEq] at e; subst e
    exact ⟨[], by simp, by simp, ⟨by simp, by simp⟩, .inr ⟨ad, cap, rfl, Nat.zero_le _, by simp⟩⟩
  | @vec b off cap s' zs _ f h1 h2 h3 h4 h5 =>
    simp only [srcRows, Option.some.injEq] at e; subst e
    have hget : ∀ k, k < zs.length * s → ∃ x a, zs[k / s]? = some x ∧ x[k % s]? = some a ∧ s' = s := fun k hk => by
      have hi : k / s < zs.length := Nat.div_lt_of_lt_mul (by rw [Nat.mul_comm]; exact hk)
      have hx : zs[k / s]? = some zs[k / s] := List.getElem?_eq_getElem hi
      have hxl := hl _ (List.mem_of_getElem? hx)
      have hj : k % s < (zs[k / s]).length := by rw [hxl]; exact Nat.mod_lt _ (Nat.pos_of_ne_zero hs)
      exact ⟨_, _, hx, List.getElem?_eq_getElem hj, by rw [← hxl]; exact (h1 _ (List.mem_of_getElem? hx)).symm⟩
    have hcell : ∀ k, k < zs.length * s → w.cell? ⟨b, off + k, none⟩ = some (f (k / s) (k % s)) ∧ (f (k / s) (k % s)).oneCell' = true := fun k hk => by
      obtain ⟨x, a, e1, e2, e3⟩ := hget k hk
      have := r.mem _ _ _ (h4 _ _ _ _ e1 e2)
      rw [e3] at this
      have hdm : off + k / s * s + k % s = off + k := by rw [Nat.mul_comm]; have := Nat.div_add_mod k s; omega
      rwa [hdm] at this
    refine ⟨(List.range (zs.length * s)).map fun k => f (k / s) (k % s), by simp, fun u hu => ?_, ⟨hl, fun i x j a e1 e2 => ?_⟩, .inr ⟨⟨b, off, none⟩, cap, rfl, h3, fun j u hu => ?_⟩⟩
    · simp only [List.mem_map, List.mem_range] at hu
      obtain ⟨k, hk, rfl⟩ := hu
      exact (hcell k hk).2
    · have hi : i < zs.length := (List.getElem?_eq_some_iff.1 e1).1
      have hj : j < s := by rw [← hl x (List.mem_of_getElem? e1)]; exact (List.getElem?_eq_some_iff.1 e2).1
      have hlt : i * s + j < zs.length * s := by
        calc i * s + j < i * s + s := by omega
          _ = (i + 1) * s := by rw [Nat.add_mul, Nat.one_mul]
          _ ≤ zs.length * s := Nat.mul_le_mul_right _ hi
      have hd : (i * s + j) / s = i := by rw [Nat.mul_comm, Nat.mul_add_div (Nat.pos_of_ne_zero hs), Nat.div_eq_of_lt hj, Nat.add_zero]
      have hm : (i * s + j) % s = j := by rw [Nat.mul_comm, Nat.mul_add_mod]; exact Nat.mod_eq_of_lt hj
      refine ⟨f i j, ?_, h5 _ _ _ _ e1 e2⟩
      simp only [List.getElem?_toArray, List.getElem?_map, List.getElem?_range hlt, Option.map_some, hd, hm]
    · have hk : j < zs.length * s := by have := (List.getElem?_eq_some_iff.1 hu).1; simpa using this
      simp only [List.getElem?_map, List.getElem?_range hk, Option.map_some, Option.some.injEq] at hu
      subst hu
      rw [Addr.add_eq]; exact (hcell j hk).1
  | own p1 p2 =>
    rename_i ad n cap t
    simp only [srcRows] at e
    cases hk : lk h.toks t with
    | none => simp [hk] at e
    | some k =>
      simp only [hk] at e
      split at e
      · rename_i hn
        cases e
        obtain ⟨b, c, vs, ty, f1, f2, f3, f4, f5, f6, f7, f8, f9⟩ := r.tok t k hk
        obtain ⟨rfl, rfl⟩ := (p2 b c _ f1).2 hn
        subst hn
        have hle : k.xs.length * k.s ≤ vs.size := by rw [f3]; exact Nat.mul_le_mul_right _ f4
        by_cases hz : k.xs = []
        · refine ⟨[], by simp [hz], by simp, ⟨by simp [hz], by simp [hz]⟩, .inr ⟨_, _, rfl, f4, by simp⟩⟩
        · have hks : k.s = s := by
            obtain ⟨x, l, hxl⟩ := List.exists_cons_of_ne_nil hz
            rw [← f6 x (by simp [hxl]), hl x (by simp [hxl])]
          refine ⟨vs.toList.take (k.xs.length * k.s), by simp; rw [← hks]; omega, fun u hu => f8 u (List.mem_of_mem_take hu), ⟨hl, fun i x j a e1 e2 => ?_⟩, .inr ⟨_, _, rfl, f4, fun j u hu => ?_⟩⟩
          · obtain ⟨v, q1, q2⟩ := f7 i x j a e1 e2
            have hi : i < k.xs.length := (List.getElem?_eq_some_iff.1 e1).1
            have hj : j < k.s := by rw [← f6 x (List.mem_of_getElem? e1)]; exact (List.getElem?_eq_some_iff.1 e2).1
            have hlt : i * k.s + j < k.xs.length * k.s := by
              calc i * k.s + j < i * k.s + k.s := by omega
                _ = (i + 1) * k.s := by rw [Nat.add_mul, Nat.one_mul]
                _ ≤ k.xs.length * k.s := Nat.mul_le_mul_right _ hi
            refine ⟨v, ?_, q2⟩
            rw [← hks]
            simp only [List.getElem?_toArray, List.getElem?_take, if_pos hlt, Array.getElem?_toList]
            exact q1
          · rw [Addr.add_eq, Nat.zero_add, cell_of_block f2]
            rw [List.getElem?_take] at hu
            split at hu
            · simpa using hu
            · cases hu
      · cases e
  | lit h1 => simp [srcRows] at e
  | agg h0 h1 h2 => simp [srcRows] at e
  | tup h1 h2 => simp [srcRows] at e
  | pp f h1 h2 => simp [srcRows] at e
  | ptr h1 h2 => simp [srcRows] at e
  | ep h1 h2 => simp [srcRows] at e
  | fn h1 h2 h3 h4 => simp [srcRows] at e
  | ifc h1 => simp [srcRows] at e
  | mp h1 => simp [srcRows] at e
  | np f h0 h1 h2 => simp [srcRows] at e

theorem Lies.append {vs us : List Value} {xs ys : List (List AV)} {s : Nat} (h : Lies g vs.toArray xs s) (k : Lies g us.toArray ys s) (hv : vs.length = xs.length * s) (tail : List Value) : Lies g (vs ++ us ++ tail).toArray (xs ++ ys) s := by
  refine ⟨fun x hx => ?_, fun i x j a e1 e2 => ?_⟩
  · rcases List.mem_append.1 hx with hx | hx
    · exact h.1 x hx
    · exact k.1 x hx
  · by_cases hi : i < xs.length
    · rw [List.getElem?_append_left hi] at e1
      obtain ⟨v, f1, f2⟩ := h.2 i x j a e1 e2
      refine ⟨v, ?_, f2⟩
      simp only [List.getElem?_toArray] at f1 ⊢
      have hlt : i * s + j < vs.length := (List.getElem?_eq_some_iff.1 f1).1
      rw [List.append_assoc, List.getElem?_append_left hlt, f1]
    · rw [List.getElem?_append_right (by omega)] at e1
      obtain ⟨v, f1, f2⟩ := k.2 _ x j a e1 e2
      refine ⟨v, ?_, f2⟩
      simp only [List.getElem?_toArray] at f1 ⊢
      have hlt := (List.getElem?_eq_some_iff.1 f1).1
      have hmul : i * s = xs.length * s + (i - xs.length) * s := by rw [← Nat.add_mul]; congr 1; omega
      rw [List.append_assoc, List.getElem?_append_right (by omega), List.getElem?_append_left (by omega), ← f1]
      congr 1; omega

theorem zeroCells_one {z : List AV} {zv : Array Value} (h1 : ∀ v ∈ zv.toList, v.oneCell' = true) (n : Nat) : ∀ v ∈ (Builtin.zeroCells zv n).toList, v.oneCell' = true := by
  intro v hv
  simp only [Builtin.zeroCells, Array.toList_map, List.mem_map, Array.toList_range, List.mem_range] at hv
  obtain ⟨k, hk, rfl⟩ := hv
  have hs0 : 0 < zv.size := by
    rcases Nat.eq_zero_or_pos zv.size with h0 | h0
    · rw [h0] at hk; simp at hk
    · exact h0
  have hlt : k % zv.size < zv.size := Nat.mod_lt _ hs0
  rw [getElem!_pos zv _ hlt]
  exact h1 _ (by simp)

theorem Keeps.drewAlloc (F : Nat → Prop) (w : World) (x : Obj) : Keeps F w (w.drew.alloc x) := (Keeps.drew F w).trans (Keeps.alloc F w.drew x) (fun _ h => .inl h)

theorem run_append_zero {t e ty : TypeId} {i : TypeInfo} (ht : P.underlying t = some (.slice e)) (hi : P.info? e = some i) {base : Option Addr} {n cap : Nat} (hc : n ≤ cap) {yv : Value} (hy : yv = .slice none 0 0 ∨ ∃ ad c, yv = .slice (some ad) 0 c) :
    (Builtin.append_ #[t, t] ty #[.slice base n cap, yv]).run P w = .ok (.slice base n cap) w := by
  rcases hy with rfl | ⟨ad, c, rfl⟩ <;> cases base <;>
    simp [Builtin.append_, run_underlying ht, sizeOf, typeInfo, hi, Builtin.lenOf, hc, Builtin.firstCells, loadCells, loadCellsFrom, storeCells]

theorem Rep.full_cap {v : Value} {xs : List (List AV)} (h : Rep g v (.vec xs true)) : ∀ ad n cap, v = .slice (some ad) n cap → cap = xs.length := by
  intro ad n cap e
  cases h with
  | vecN => cases e
  | vecE h => cases e; exact h rfl
  | vec f h1 h2 h3 h4 h5 => cases e; exact h2 rfl

theorem run_append_room' {t e ty' : TypeId} (ty : TypeId) {i : TypeInfo} (ht : P.underlying t = some (.slice e)) (hi : P.info? e = some i)
    (b sLen sCap : Nat) (cur : Array Value) (hg : w.heap[b]? = some (.cells cur ty' (0, 0)))
    (a : Addr) (m c : Nat) (news : List Value) (hl : news.length = m * i.size) (hnews : ∀ j u, news[j]? = some u → w.cell? (a.add j) = some u) (h1 : ∀ u ∈ news, u.oneCell' = true)
    (hroom : sLen + m ≤ sCap) (hfit : sLen * i.size + news.length ≤ cur.size) :
    (Builtin.append_ #[t, t] ty #[.slice (some ⟨b, 0, none⟩) sLen sCap, .slice (some a) m c]).run P w =
      .ok (.slice (some ⟨b, 0, none⟩) (sLen + m) sCap) (w.setRow b (cur.toList.take (sLen * i.size) ++ news ++ cur.toList.drop (sLen * i.size + news.length)).toArray) := by
  have hf := run_firstCells_some (P := P) w i.size m a m c news hl hnews
  have hst := run_storeCells_at P b (sLen * i.size) ty' news 0 cur w hg (by simpa using hfit) h1
  simp only [Nat.add_zero] at hst
  simp [Builtin.append_, run_underlying ht, sizeOf, typeInfo, hi, Builtin.lenOf, hroom, hf, Addr.add_lit, hst]

theorem args_two {xs : Array Operand} {b c : AV} (h : evL σ xs.toList = some [b, c]) : ∃ x y, xs = #[x, y] ∧ ev σ x = some b ∧ ev σ y = some c := evL_two h

theorem makes_append {c : Call} (hc : c.callee = .builtin .append) (ho : o.op = .call c) (r : FRel g0 h0 w0 σ g w a) {v : Option AV} {h' : Hp} (h : heapOp P σ (.call c) = some (v, h')) : Makes P o a g σ.hp w v h' := by
  simp only [heapOp, hc] at h
  split at h
  · rename_i t t' x y _ hat hargs
    obtain ⟨px, py, hpq, ex, ey⟩ := args_two hargs
    have hat' : c.argTypes = #[t, t'] := by rw [← Array.toArray_toList (xs := c.argTypes), hat]
    split at h
    · rename_i ti ys ht hys
      obtain ⟨it, dt, q1, q2, q3, _⟩ := tyOf_some ht
      split at h
      · rename_i e hkd
        rw [q3] at hkd
        have := kdOf_sl hkd; subst this
        split at h
        · rename_i te hte
          obtain ⟨ie, de, e1, e2, e3, e4, e5, e6⟩ := tyOf_some hte
          split at h
          · rename_i z hz
            obtain ⟨zv, z1, z2⟩ := e6 z hz
            obtain ⟨z3, z4⟩ := RepL.cellsAV (g := g) z2
            split at h
            · rename_i hb
              obtain ⟨rfl, hzl, hne, hyl⟩ := hb
              have hzs : zv.cells.size = te.size := by have := z3.1; simp at this; omega
              obtain ⟨news, n1, n2, n3, n4⟩ := src_sound r.st.hp (r.ev ey) hys hne hyl
              -- the run, told by the builtin's own
              have hrun : ∀ u w', (Builtin.append_ #[t, t] o.type #[a.eval px, a.eval py]).run P w = .ok u w' → (execOp a.eval o).run P w = .ok (.value u) w' := fun u w' hu => by
                simp only [execOp, ho, Sem.run_bind, resolve, hc, Sem.run_pure, Result.andThen_ok, invoke, builtin, hpq, List.map_toArray, List.map_cons, List.map_nil, hat', hu]
              have hy0 : ys.length = 0 → a.eval py = .slice none 0 0 ∨ ∃ ad c, a.eval py = .slice (some ad) 0 c := fun q => by
                rcases n4 with ⟨k1, _⟩ | ⟨ad, c, k1, _⟩
                · exact .inl k1
                · rw [q] at k1; exact .inr ⟨ad, c, k1⟩
              split at h
              · rename_i xs
                split at h
                · rename_i hfit
                  obtain ⟨hxl, hf1, hf2⟩ := hfit
                  have hx := r.ev ex
                  obtain ⟨olds, o1, o2, o3, o4⟩ := src_sound r.st.hp hx (ys := xs) rfl hne hxl
                  split at h
                  · rename_i hm
                    cases h
                    refine ⟨g, w, .refl r.st.hp, a.eval px, hrun _ _ ?_, hx⟩
                    generalize hu : a.eval px = u at hx
                    cases hx with
                    | vecN => exact run_append_zero q2 e1 (Nat.le_refl _) (hy0 hm)
                    | vecE _ => exact run_append_zero q2 e1 (Nat.zero_le _) (hy0 hm)
                    | vec f h1 h2 h3 h4 h5 => exact run_append_zero q2 e1 h3 (hy0 hm)
                  · rename_i hm
                    cases h
                    rcases n4 with ⟨_, k2⟩ | ⟨ad, c', k1, _, k3⟩
                    · exact absurd (by rw [k2]; rfl) hm
                    · -- a new block bears it
                      have fin : ∀ (cap : Nat) (vs : Array Value), vs = (olds ++ news ++ (Builtin.zeroCells zv.cells (cap - (xs.length + ys.length))).toList).toArray → xs.length + ys.length ≤ cap →
                          Step1 g σ.hp w (g.addTok w.drew.heap.size cap (xs ++ ys).length) { σ.hp with toks := σ.hp.toks ++ [(σ.hp.nx, ⟨xs ++ ys, 0, te.size⟩)], nx := σ.hp.nx + 1 } (w.drew.alloc (.cells vs e)) ∧
                          Rep (g.addTok w.drew.heap.size cap (xs ++ ys).length) (.slice (some ⟨w.heap.size, 0, none⟩) (xs.length + ys.length) cap) (.own σ.hp.nx (xs.length + ys.length)) := by
                        intro cap vs hvs hcap
                        have hl := o3.append n3 o1 (Builtin.zeroCells zv.cells (cap - (xs.length + ys.length))).toList
                        rw [← hvs] at hl
                        have hone : ∀ v ∈ vs.toList, v.oneCell' = true := by
                          subst hvs
                          intro v hv
                          simp only [List.mem_append] at hv
                          rcases hv with (hv | hv) | hv
                          · exact o2 v hv
                          · exact n2 v hv
                          · exact zeroCells_one (z := z) z4 _ v hv
                        have hsz : vs.size = cap * te.size := by
                          subst hvs
                          simp only [List.size_toArray, List.length_append, o1, n1, Array.length_toList, size_zeroCells, hzs, ← Nat.add_mul]
                          congr 1; omega
                        refine ⟨⟨r.st.hp.drew.addTok vs e (xs ++ ys) te.size cap hl hone hsz (by simpa using hcap), Ext.addTok _ _ _ _, Keeps.drewAlloc _ _ _, fun b l => Live.addTok r.st.hp.drew l, fun b o v q => .inl q⟩, ?_⟩
                        refine .own (by simp [Gh.addTok, r.st.hp.nx]) (fun b c n q => ?_)
                        simp only [Gh.addTok, r.st.hp.nx, if_true, Option.some.injEq, Prod.mk.injEq] at q
                        obtain ⟨rfl, rfl, rfl⟩ := q
                        simp
                      have hpos : 0 < ys.length := Nat.pos_of_ne_zero hm
                      have h63 : ((xs.length + ys.length : Nat) : Int) ≤ 9223372036854775807 := by have := hf1; unfold maxLen at this; omega
                      rw [e5] at hf2
                      rw [e4] at n1 o1
                      rcases o4 with ⟨k4, k5⟩ | ⟨ad', c'', k4, k6, k5⟩
                      · have hx0 : xs.length = 0 := by rw [k5]; rfl
                        have hol : olds = [] := List.eq_nil_of_length_eq_zero (by rw [o1, hx0]; simp)
                        have hr := run_append_nil (P := P) w t o.type e ie zv q2 e1 z1 ad ys.length c' news n1 k3 hpos (by omega) (by rw [hx0] at hf2; simp at hf2; omega)
                        rw [← k4, ← k1] at hr
                        have harr : news.toArray ++ Builtin.zeroCells zv.cells (grownCap w ys.length 0 e - ys.length) = (olds ++ news ++ (Builtin.zeroCells zv.cells (grownCap w ys.length 0 e - (xs.length + ys.length))).toList).toArray := by apply Array.ext'; simp [hol, hx0]
                        rw [harr] at hr
                        obtain ⟨s1, s2⟩ := fin (grownCap w ys.length 0 e) _ rfl (by rw [hx0, Nat.zero_add]; exact grownCap_ge w _ _ _)
                        refine ⟨_, _, s1, _, hrun _ _ hr, ?_⟩
                        have : xs.length + ys.length = ys.length := by omega
                        rw [this] at s2 ⊢
                        exact s2
                      · have hcap : c'' = xs.length := Rep.full_cap hx _ _ _ k4
                        subst hcap
                        have hr := run_append_grow (P := P) w t o.type e ie zv q2 e1 z1 ad' xs.length xs.length olds o1 k5 ad ys.length c' news n1 k3 (by omega) h63 (growslice_fits (by omega) hf2)
                        rw [← k4, ← k1] at hr
                        have harr : olds.toArray ++ news.toArray ++ Builtin.zeroCells zv.cells (grownCap w (xs.length + ys.length) xs.length e - (xs.length + ys.length)) = (olds ++ news ++ (Builtin.zeroCells zv.cells (grownCap w (xs.length + ys.length) xs.length e - (xs.length + ys.length))).toList).toArray := by apply Array.ext'; simp
                        rw [harr] at hr
                        obtain ⟨s1, s2⟩ := fin (grownCap w (xs.length + ys.length) xs.length e) _ rfl (grownCap_ge w _ _ _)
                        exact ⟨_, _, s1, _, hrun _ _ hr, s2⟩
                · cases h
              · rename_i tk n
                split at h
                · rename_i k hk
                  split at h
                  · rename_i hfit
                    cases h
                    obtain ⟨rfl, hks, hf1, hf2⟩ := hfit
                    have hx := r.ev ex
                    obtain ⟨b, cc, vs, ty, f1, f2, f3, f4, f5, f6, f7, f8, f9⟩ := r.st.hp.tok tk k hk
                    generalize hu : a.eval px = u at hx
                    cases hx with
                    | own p1 p2 =>
                      rename_i ao cap
                      obtain ⟨rfl, rfl⟩ := (p2 b cc _ f1).2 rfl
                      by_cases hm : ys.length = 0
                      · have hnil : ys = [] := List.eq_nil_of_length_eq_zero hm
                        subst hnil
                        have hkk : ∀ i c, lk (up σ.hp.toks tk ⟨k.xs ++ [], k.fz, k.s⟩) i = some c → lk σ.hp.toks i = some c := fun i c q => by
                          rw [lk_up] at q
                          split at q
                          · rename_i hi; subst hi; rw [hk] at q ⊢; simpa using q
                          · exact q
                        refine ⟨g, w, ⟨r.st.hp.less rfl (fun _ _ q => q) hkk, .refl _, .refl _ _, fun b' l => .inl (Live.less (h := σ.hp) (h' := { σ.hp with toks := up σ.hp.toks tk ⟨k.xs ++ [], k.fz, k.s⟩ }) (fun _ _ q => q) hkk l), fun _ _ _ q => .inl q⟩, .slice (some ⟨b, 0, none⟩) k.xs.length cap, hrun _ _ ?_, ?_⟩
                        · rw [hu]; exact run_append_zero q2 e1 f4 (hy0 hm)
                        · simpa using Rep.own p1 p2
                      · rcases n4 with ⟨_, k2⟩ | ⟨ad, c', k1, _, k3⟩
                        · exact absurd (by rw [k2]; rfl) hm
                        · have hpos : 0 < ys.length := Nat.pos_of_ne_zero hm
                          have h63 : ((k.xs.length + ys.length : Nat) : Int) ≤ 9223372036854775807 := by have := hf1; unfold maxLen at this; omega
                          have hle : k.xs.length * k.s ≤ vs.size := by rw [f3]; exact Nat.mul_le_mul_right _ f4
                          have holds : (vs.toList.take (k.xs.length * k.s)).length = k.xs.length * k.s := by simp; omega
                          have hold2 : Lies g (vs.toList.take (k.xs.length * k.s)).toArray k.xs k.s := ⟨f6, fun i x j a e1 e2 => by
                            obtain ⟨v, q1, q2⟩ := f7 i x j a e1 e2
                            have hi : i < k.xs.length := (List.getElem?_eq_some_iff.1 e1).1
                            have hj : j < k.s := by rw [← f6 x (List.mem_of_getElem? e1)]; exact (List.getElem?_eq_some_iff.1 e2).1
                            have hlt : i * k.s + j < k.xs.length * k.s := by
                              calc i * k.s + j < i * k.s + k.s := by omega
                                _ = (i + 1) * k.s := by rw [Nat.add_mul, Nat.one_mul]
                                _ ≤ k.xs.length * k.s := Nat.mul_le_mul_right _ hi
                            exact ⟨v, by simp only [List.getElem?_toArray, List.getElem?_take, if_pos hlt, Array.getElem?_toList]; exact q1, q2⟩⟩
                          have n3' : Lies g news.toArray ys k.s := by rw [hks]; exact n3
                          have n1' : news.length = ys.length * k.s := by rw [hks]; exact n1
                          by_cases hroom : k.xs.length + ys.length ≤ cap
                          · -- in place
                            have hl := hold2.append n3' holds (vs.toList.drop (k.xs.length * k.s + news.length))
                            have hfit : k.xs.length * k.s + news.length ≤ vs.size := by rw [n1', f3, ← Nat.add_mul]; exact Nat.mul_le_mul_right _ hroom
                            have hone : ∀ v ∈ (vs.toList.take (k.xs.length * k.s) ++ news ++ vs.toList.drop (k.xs.length * k.s + news.length)).toArray.toList, v.oneCell' = true := by simpa using cells_of_splice f8 n2 (k.xs.length * k.s) _
                            have hmem : ∀ o v, g.mem b o = some v → (vs.toList.take (k.xs.length * k.s) ++ news ++ vs.toList.drop (k.xs.length * k.s + news.length)).toArray[o]? = some v := fun o v q => by
                              have ho : o < k.fz * k.s := by
                                rcases Nat.lt_or_ge o (k.fz * k.s) with q' | q'
                                · exact q'
                                · rw [f9 o q'] at q; cases q
                              have ho2 : k.fz * k.s ≤ k.xs.length * k.s := Nat.mul_le_mul_right _ f5
                              have := (r.st.hp.mem b o v q).1
                              rw [cell_of_block f2] at this
                              simp only [List.getElem?_toArray, List.append_assoc]
                              rw [List.getElem?_append_left (by simp; omega), List.getElem?_take, if_pos (by omega), Array.getElem?_toList]
                              exact this
                            obtain ⟨s1, s2⟩ := r.st.hp.setTok hk f1 _ _ k.fz hl hone (by simp only [List.size_toArray, List.length_append, List.length_take, List.length_drop, Array.length_toList]; omega) (by simp) (by simpa using hroom) (Nat.le_refl _) (by simp; omega) hmem
                            have hks' : k.s = ie.size := by rw [hks, e4]
                            have hr := run_append_room' (P := P) (w := w) o.type q2 e1 b k.xs.length cap vs f2 ad ys.length c' news (by rw [n1', hks']) k3 n2 hroom (by rw [← hks']; exact hfit)
                            rw [← hks', ← hu, ← k1] at hr
                            refine ⟨_, _, ⟨s1, s2, Keeps.setRow w _ (.inr (.inl ⟨tk, k, cap, _, hk, f1⟩)), fun b' l => .inl (Live.setTok hk f1 l), fun _ _ _ q => .inl q⟩, _, hrun _ _ hr, ?_⟩
                            refine .own p1 (fun b' c2 m q => ?_)
                            simp only [Gh.setTok, if_true, Option.some.injEq, Prod.mk.injEq] at q
                            obtain ⟨rfl, rfl, rfl⟩ := q
                            simp
                          · have holdc : ∀ j u, (vs.toList.take (k.xs.length * k.s))[j]? = some u → w.cell? ((⟨b, 0, none⟩ : Addr).add j) = some u := fun j u q => by
                              rw [Addr.add_eq, Nat.zero_add, cell_of_block f2]
                              rw [List.getElem?_take] at q
                              split at q
                              · simpa using q
                              · cases q
                            have hks' : k.s = ie.size := by rw [hks, e4]
                            rw [e5] at hf2
                            have hr := run_append_grow (P := P) w t o.type e ie zv q2 e1 z1 ⟨b, 0, none⟩ k.xs.length cap (vs.toList.take (k.xs.length * k.s)) (by rw [holds, hks']) holdc ad ys.length c' news (by rw [n1', hks']) k3 (by omega) h63 (growslice_fits (by omega) hf2)
                            rw [← hu, ← k1] at hr
                            have hge := grownCap_ge w (k.xs.length + ys.length) cap e
                            have hl := hold2.append n3' holds (Builtin.zeroCells zv.cells (grownCap w (k.xs.length + ys.length) cap e - (k.xs.length + ys.length))).toList
                            have harr : (vs.toList.take (k.xs.length * k.s)).toArray ++ news.toArray ++ Builtin.zeroCells zv.cells (grownCap w (k.xs.length + ys.length) cap e - (k.xs.length + ys.length)) = (vs.toList.take (k.xs.length * k.s) ++ news ++ (Builtin.zeroCells zv.cells (grownCap w (k.xs.length + ys.length) cap e - (k.xs.length + ys.length))).toList).toArray := by apply Array.ext'; simp
                            rw [harr] at hr
                            have hone : ∀ v ∈ (vs.toList.take (k.xs.length * k.s) ++ news ++ (Builtin.zeroCells zv.cells (grownCap w (k.xs.length + ys.length) cap e - (k.xs.length + ys.length))).toList).toArray.toList, v.oneCell' = true := by
                              intro v hv
                              simp only [List.mem_append] at hv
                              rcases hv with (hv | hv) | hv
                              · exact f8 v (List.mem_of_mem_take hv)
                              · exact n2 v hv
                              · exact zeroCells_one (z := z) z4 _ v hv
                            obtain ⟨s1, s2⟩ := r.st.hp.drew.moveTok hk _ e (k.xs ++ ys) (grownCap w (k.xs.length + ys.length) cap e) hl hone (by
                              simp only [List.size_toArray, List.length_append, holds, n1', Array.length_toList, size_zeroCells, hzs, ← hks, ← Nat.add_mul]
                              congr 1; omega) (by simp; omega) (by simpa using hge)
                            refine ⟨_, _, ⟨s1, s2, Keeps.drewAlloc _ _ _, fun b' l => Live.moveTok l, fun _ _ _ q => .inl q⟩, _, hrun _ _ hr, ?_⟩
                            refine .own p1 (fun b' c2 m q => ?_)
                            simp only [Gh.setTok, if_true, Option.some.injEq, Prod.mk.injEq] at q
                            obtain ⟨rfl, rfl, rfl⟩ := q
                            simp
                  · cases h
                · cases h
              · cases h
            · cases h
          · cases h
        · cases h
      · cases h
    · cases h
  · cases h
end
end Go.Ab
