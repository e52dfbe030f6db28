/- A machine over trees: what each operation comes to, and that it is so. -/
import Derived.Test.YtholeicgmkjadaaTsXB
set_option linter.unusedVariables false
set_option linter.unusedSimpArgs false
namespace Go.Ts

def HS.new (h : HS) (o : HO) : HS := ⟨h.L.set h.nx o, h.R, h.nx + 1⟩
def thOf (cs : List T) : HO := .th cs.length cs.length cs .leaf
theorem thOf_ok (cs : List T) : ThOK cs.length cs .leaf cs := by
  intro j t h
  simp only [cellX, Tr.get] at h
  cases hb : Nat.blt j cs.length with
  | false => rw [hb] at h; cases h
  | true =>
    rw [hb, cond_true] at h
    rw [Nat.blt_eq] at hb
    rwa [Nat.mod_eq_of_lt hb] at h

/-- The places of a table are exact where they are not too far. -/
theorem Tr.get_up_none {α : Type} : ∀ (f : Nat) (t : Tr α) (i : Nat) (x : Option α) (j : Nat), i + 1 < 2 ^ f → (Tr.up f t i x).get j = none → (j = i ∧ x = none) ∨ (j ≠ i ∧ t.get j = none)
  | 0, t, i, x, j, hf, h => by simp at hf
  | f + 1, t, i, x, j, hf, h => by
    have hf' : i + 1 < 2 * 2 ^ f := by rw [Nat.pow_succ, Nat.mul_comm] at hf; exact hf
    simp only [Tr.up] at h
    rw [Tr.get_parts t j]
    by_cases hi : i = 0
    · subst hi
      simp only [Nat.beq_refl, cond_true, Tr.get] at h
      by_cases hj : j = 0
      · subst hj; simp at h; exact .inl ⟨rfl, h⟩
      · rw [beqF hj] at h ⊢; exact .inr ⟨hj, h⟩
    · rw [beqF hi, cond_false] at h
      by_cases hp : i % 2 = 1
      · rw [hp, Nat.beq_refl, cond_true] at h
        simp only [Tr.get] at h
        by_cases hj : j = 0
        · subst hj; simp only [Nat.beq_refl, cond_true] at h ⊢; exact .inr ⟨fun e => hi e.symm, h⟩
        · rw [beqF hj, cond_false] at h ⊢
          by_cases hq : j % 2 = 1
          · rw [hq, Nat.beq_refl, cond_true] at h ⊢
            rcases Tr.get_up_none f _ _ _ _ (by omega) h with ⟨h1, h2⟩ | ⟨h1, h2⟩
            · exact .inl ⟨by omega, h2⟩
            · exact .inr ⟨fun e => h1 (by rw [e]), h2⟩
          · rw [beqF hq, cond_false] at h ⊢
            exact .inr ⟨fun e => hq (by rw [e]; exact hp), h⟩
      · rw [beqF hp, cond_false] at h
        simp only [Tr.get] at h
        by_cases hj : j = 0
        · subst hj; simp only [Nat.beq_refl, cond_true] at h ⊢; exact .inr ⟨fun e => hi e.symm, h⟩
        · rw [beqF hj, cond_false] at h ⊢
          by_cases hq : j % 2 = 1
          · rw [hq, Nat.beq_refl, cond_true] at h ⊢
            exact .inr ⟨fun e => hp (by rw [← e]; exact hq), h⟩
          · rw [beqF hq, cond_false] at h ⊢
            rcases Tr.get_up_none f _ _ _ _ (by omega) h with ⟨h1, h2⟩ | ⟨h1, h2⟩
            · exact .inl ⟨by omega, h2⟩
            · exact .inr ⟨fun e => h1 (by rw [e]), h2⟩
def far40 : Nat := 1000000000000
theorem get_setCells_none : ∀ (l : List T) (ov : Tr T) (p j : Nat), p + l.length ≤ far40 → (setCells ov p l).get j = none → (j < p ∨ p + l.length ≤ j) ∧ ov.get j = none
  | [], ov, p, j, hf, h => ⟨by simp; omega, h⟩
  | x :: l, ov, p, j, hf, h => by
    have hf2 : p + (l.length + 1) ≤ 1000000000000 := by simpa [far40] using hf
    obtain ⟨h1, h2⟩ := get_setCells_none l _ (p + 1) j (by show p + 1 + l.length ≤ 1000000000000; omega) h
    rcases Tr.get_up_none 40 _ _ _ _ (by
      show p + 1 < 2 ^ 40
      have : (2 : Nat) ^ 40 = 1099511627776 := by decide
      omega) h2 with ⟨h3, h4⟩ | ⟨h3, h4⟩
    · cases h4
    · exact ⟨by simp; omega, h4⟩
theorem ThOK.stored {zn : Nat} {z : List T} {ov : Tr T} {ts : List T} (h : ThOK zn z ov ts) {p : Nat} {cs : List T} (hp : p + cs.length ≤ ts.length) (hf : p + cs.length ≤ far40) : ThOK zn z (setCells ov p cs) (stored ts cs p) := by
  intro j t hj
  rw [stored_get hp]
  unfold cellX at hj
  cases hg : (setCells ov p cs).get j with
  | some u =>
    rw [hg] at hj; injection hj with hj; subst hj
    rcases get_setCells cs ov p j u hg with ⟨h1, h2⟩ | ⟨h1, h2⟩
    · rw [if_pos ⟨h1, by have := lt_of_get h2; omega⟩]; exact h2
    · rw [if_neg (by omega)]; exact h j u (by rw [cellX, h2])
  | none =>
    rw [hg] at hj
    obtain ⟨h1, h2⟩ := get_setCells_none cs ov p j hf hg
    rw [if_neg (by omega)]
    exact h j t (by rw [cellX, h2]; exact hj)
theorem ThOK.append {zn : Nat} {z : List T} {ov : Tr T} {ts : List T} (h : ThOK zn z ov ts) {cs : List T} (hf : ts.length + cs.length ≤ far40) : ThOK zn z (setCells ov ts.length cs) (ts ++ cs) := by
  intro j t hj
  unfold cellX at hj
  have old : cellX zn z ov j = some t → (ts ++ cs)[j]? = some t := by
    intro h0
    have h1 := h j t h0
    rw [List.getElem?_append_left (lt_of_get h1)]; exact h1
  cases hg : (setCells ov ts.length cs).get j with
  | some u =>
    rw [hg] at hj; injection hj with hj; subst hj
    rcases get_setCells cs ov _ j u hg with ⟨h1, h2⟩ | ⟨h1, h2⟩
    · rw [List.getElem?_append_right h1]; exact h2
    · exact old (by rw [cellX, h2])
  | none =>
    rw [hg] at hj
    obtain ⟨h1, h2⟩ := get_setCells_none cs ov _ j hf hg
    exact old (by rw [cellX, h2]; exact hj)

section
variable {σ : St} {h : HS}
theorem mem_set_ne {q i j : Nat} {o o' x : Ob} (hq : σ.L[q]? = some (i, o)) (hj : (j, x) ∈ σ.L) (hne : j ≠ i) : (j, x) ∈ (σ.set q i o').L := by
  obtain ⟨m, hm⟩ := List.getElem?_of_mem hj
  have : m ≠ q := by rintro rfl; rw [hq] at hm; injection hm with hm; injection hm with hm; exact hne hm.symm
  refine List.mem_of_getElem? (i := m) ?_
  simp only [St.set, List.getElem?_set]
  rw [if_neg (fun e => this e.symm)]; exact hm
theorem mem_set_self {q i : Nat} {o o' : Ob} (hq : σ.L[q]? = some (i, o)) : (i, o') ∈ (σ.set q i o').L := by
  refine List.mem_of_getElem? (i := q) ?_
  simp only [St.set, List.getElem?_set]
  simp [lt_of_get hq]
theorem mem_era_ne {q i j : Nat} {o x : Ob} (hq : σ.L[q]? = some (i, o)) (hj : (j, x) ∈ σ.L) (hne : j ≠ i) : (j, x) ∈ (σ.era q).L := by
  obtain ⟨m, hm⟩ := List.getElem?_of_mem hj
  have hmq : m ≠ q := by rintro rfl; rw [hq] at hm; injection hm with hm; injection hm with hm; exact hne hm.symm
  rcases Nat.lt_or_ge m q with h | h
  · refine List.mem_of_getElem? (i := m) ?_
    simp only [St.era, List.getElem?_eraseIdx]
    rw [if_pos h]; exact hm
  · refine List.mem_of_getElem? (i := m - 1) ?_
    simp only [St.era, List.getElem?_eraseIdx]
    rw [if_neg (by omega), show m - 1 + 1 = m by omega]; exact hm

theorem HCov.newTh (c : HCov σ h) {ts : List T} {n zn : Nat} {z : List T} {ov : Tr T} (hn : ts.length = n) (hok : ThOK zn z ov ts) : HCov (σ.new h.nx (.cells ts)) (h.new (.th n zn z ov)) := by
  refine ⟨fun i n' zn' z' ov' hi => ?_, fun i es hi => ?_, fun k u hk => c.room k u hk, by simp [St.new, HS.new, c.nx]⟩
  · rcases Tr.get_set hi with ⟨h1, h2⟩ | ⟨h1, h2⟩
    · injection h2 with h2 h3 h4 h5; subst h1; subst h2; subst h3; subst h4; subst h5
      exact ⟨ts, by simp [St.new], hn, hok⟩
    · obtain ⟨us, h3, h4⟩ := c.th i n' zn' z' ov' h2
      exact ⟨us, List.mem_cons_of_mem _ h3, h4⟩
  · rcases Tr.get_set hi with ⟨h1, h2⟩ | ⟨h1, h2⟩
    · cases h2
    · exact List.mem_cons_of_mem _ (c.mp i es h2)
theorem HCov.newMp (c : HCov σ h) {es : List (T × T)} : HCov (σ.new h.nx (.map es)) (h.new (.mp es)) := by
  refine ⟨fun i n' zn' z' ov' hi => ?_, fun i es hi => ?_, fun k u hk => c.room k u hk, by simp [St.new, HS.new, c.nx]⟩
  · rcases Tr.get_set hi with ⟨h1, h2⟩ | ⟨h1, h2⟩
    · cases h2
    · obtain ⟨us, h3, h4⟩ := c.th i n' zn' z' ov' h2
      exact ⟨us, List.mem_cons_of_mem _ h3, h4⟩
  · rcases Tr.get_set hi with ⟨h1, h2⟩ | ⟨h1, h2⟩
    · injection h2 with h2; subst h1; subst h2; simp [St.new]
    · exact List.mem_cons_of_mem _ (c.mp i es h2)
theorem HCov.setTh (c : HCov σ h) {q i : Nat} {o : Ob} (hq : σ.L[q]? = some (i, o)) {ts : List T} {n zn : Nat} {z : List T} {ov : Tr T} (hn : ts.length = n) (hok : ThOK zn z ov ts) : HCov (σ.set q i (.cells ts)) { h with L := h.L.set i (.th n zn z ov) } := by
  refine ⟨fun j n' zn' z' ov' hi => ?_, fun j es hi => ?_, fun k u hk => c.room k u hk, c.nx⟩
  · rcases Tr.get_set hi with ⟨h1, h2⟩ | ⟨h1, h2⟩
    · injection h2 with h2 h3 h4 h5; subst h1; subst h2; subst h3; subst h4; subst h5
      exact ⟨ts, mem_set_self hq, hn, hok⟩
    · obtain ⟨us, h3, h4⟩ := c.th j n' zn' z' ov' h2
      exact ⟨us, mem_set_ne hq h3 h1, h4⟩
  · rcases Tr.get_set hi with ⟨h1, h2⟩ | ⟨h1, h2⟩
    · cases h2
    · exact mem_set_ne hq (c.mp j es h2) h1
theorem HCov.setMp (c : HCov σ h) {q i : Nat} {o : Ob} (hq : σ.L[q]? = some (i, o)) {es : List (T × T)} : HCov (σ.set q i (.map es)) { h with L := h.L.set i (.mp es) } := by
  refine ⟨fun j n' zn' z' ov' hi => ?_, fun j es hi => ?_, fun k u hk => c.room k u hk, c.nx⟩
  · rcases Tr.get_set hi with ⟨h1, h2⟩ | ⟨h1, h2⟩
    · cases h2
    · obtain ⟨us, h3, h4⟩ := c.th j n' zn' z' ov' h2
      exact ⟨us, mem_set_ne hq h3 h1, h4⟩
  · rcases Tr.get_set hi with ⟨h1, h2⟩ | ⟨h1, h2⟩
    · injection h2 with h2; subst h1; subst h2; exact mem_set_self hq
    · exact mem_set_ne hq (c.mp j es h2) h1
theorem HCov.eraNew (c : HCov σ h) {q i : Nat} {o : Ob} (hq : σ.L[q]? = some (i, o)) {ts : List T} {n zn : Nat} {z : List T} {ov : Tr T} (hn : ts.length = n) (hok : ThOK zn z ov ts) : HCov ((σ.era q).new h.nx (.cells ts)) ⟨(h.L.del i).set h.nx (.th n zn z ov), h.R, h.nx + 1⟩ := by
  refine ⟨fun j n' zn' z' ov' hi => ?_, fun j es hi => ?_, fun k u hk => c.room k u hk, by simp [St.new, St.era, c.nx]⟩
  · rcases Tr.get_set hi with ⟨h1, h2⟩ | ⟨h1, h2⟩
    · injection h2 with h2 h3 h4 h5; subst h1; subst h2; subst h3; subst h4; subst h5
      exact ⟨ts, by simp [St.new], hn, hok⟩
    · obtain ⟨h3, h4⟩ := Tr.get_del h2
      obtain ⟨us, h5, h6⟩ := c.th j n' zn' z' ov' h4
      exact ⟨us, List.mem_cons_of_mem _ (mem_era_ne hq h5 h3), h6⟩
  · rcases Tr.get_set hi with ⟨h1, h2⟩ | ⟨h1, h2⟩
    · cases h2
    · obtain ⟨h3, h4⟩ := Tr.get_del h2
      exact List.mem_cons_of_mem _ (mem_era_ne hq (c.mp j es h4) h3)
theorem HCov.setT (c : HCov σ h) {n k0 : Nat} (hn : σ.R[n]? = some k0) : HCov (σ.setT n h.nx) ⟨h.L, (h.R.del k0).set h.nx (), h.nx + 1⟩ := by
  refine ⟨c.th, c.mp, fun k u hk => ?_, by simp [St.setT, c.nx]⟩
  rcases Tr.get_set hk with ⟨h1, _⟩ | ⟨h1, h2⟩
  · subst h1
    refine List.mem_of_getElem? (i := n) ?_
    simp only [St.setT, List.getElem?_set]
    simp [lt_of_get hn]
  · obtain ⟨h3, h4⟩ := Tr.get_del h2
    obtain ⟨m, hm⟩ := List.getElem?_of_mem (c.room k u h4)
    have hmn : n ≠ m := by rintro rfl; rw [hn] at hm; injection hm with hm; exact h3 hm.symm
    refine List.mem_of_getElem? (i := m) ?_
    simp only [St.setT, List.getElem?_set]
    rw [if_neg hmn]; exact hm
end

def only (i : Nat) (ts : List T) (j : Nat) : Option Ob := cond (Nat.beq j i) (some (.cells ts)) none
theorem only_self {i : Nat} {ts : List T} : only i ts i = some (.cells ts) := by simp [only]
theorem only_mem {σ : St} {i : Nat} {ts : List T} (h : (i, .cells ts) ∈ σ.L) (j : Nat) (o : Ob) (hj : only i ts j = some o) : (j, o) ∈ σ.L := by
  unfold only at hj
  by_cases e : j = i
  · subst e; simp at hj; subst hj; exact h
  · rw [beqF e] at hj; cases hj
/-- The elements of what is appended. -/
def srcX (h : HS) (sz : Nat) : T → Option (List T)
  | .sl sz' _ ys => cond (Nat.beq sz' sz) (some ys) none
  | .nilsl => some []
  | .aref sz' i o n _ => cond (Nat.beq sz' sz) (match h.L.get i with
    | some (.th nt zn z ov) => cond (Nat.ble (o + n * sz) nt) (match cellsX zn z ov o (n * sz) with
      | some cs => cond (cs.all T.scalar) (some (chunks sz n cs)) none
      | none => none) none
    | _ => none) none
  | _ => none
theorem srcX_of {σ : St} {h : HS} (c : HCov σ h) {sz : Nat} {t : T} {ys : List T} (hs : srcX h sz t = some ys) : ∃ objs : Nat → Option Ob, (∀ i o, objs i = some o → (i, o) ∈ σ.L) ∧ srcOf objs sz t = some ys := by
  unfold srcX at hs
  split at hs
  · exact ⟨fun _ => none, (fun i o h => by cases h), hs⟩
  · exact ⟨fun _ => none, (fun i o h => by cases h), hs⟩
  · rename_i sz' i o n cp
    cases hb : Nat.beq sz' sz with
    | false => rw [hb] at hs; cases hs
    | true =>
      rw [hb, cond_true] at hs
      split at hs
      · rename_i nt zn z ov hg
        obtain ⟨ts, h1, h2, h3⟩ := c.th i nt zn z ov hg
        cases hle : Nat.ble (o + n * sz) nt with
        | false => rw [hle] at hs; cases hs
        | true =>
          rw [hle, cond_true] at hs
          split at hs
          · rename_i cs hcs
            cases hsc : cs.all T.scalar with
            | false => rw [hsc] at hs; cases hs
            | true =>
              rw [hsc, cond_true] at hs
              have hle' := Nat.le_of_ble_eq_true hle
              refine ⟨only i ts, only_mem h1, ?_⟩
              · have hcs' : (ts.drop o).take (n * sz) = cs := by
                  rcases Nat.eq_zero_or_pos (n * sz) with h0 | h0
                  · have hl0 := (cellsX_take h3 _ _ _ hcs).1
                    rw [h0] at hl0 ⊢; rw [List.eq_nil_of_length_eq_zero hl0]; simp
                  · exact (cellsX_eq h3 hcs h0).2
                have hb2 : Nat.ble (o + n * sz) ts.length = true := by rw [h2]; exact hle
                simp only [srcOf, hb, cond_true, only_self, hcs', hb2, hsc, Bool.true_and, Bool.and_self]
                exact hs
          · cases hs
      · cases hs
  · cases hs

/-- Cells out of a thing, as a type reads them. -/
def readX (G : Nat → Option TI) (h : HS) (ty i p : Nat) : Option T :=
  match h.L.get i with
  | some (.th _ zn z ov) => match G ty with
    | some ti => cond ti.d.agg (cond (Nat.blt 0 ti.size) ((cellsX zn z ov p ti.size).map .agg) none) (cellX zn z ov p)
    | none => none
  | _ => none
theorem readX_ok {G : Nat → Option TI} {σ : St} {h : HS} (c : HCov σ h) {ty i p : Nat} {t : T} (hr : readX G h ty i p = some t) : ∃ ts, (i, .cells ts) ∈ σ.L ∧ readT G ty ts p = some t := by
  unfold readX at hr
  split at hr
  · rename_i nt zn z ov hg
    obtain ⟨ts, h1, h2, h3⟩ := c.th i nt zn z ov hg
    refine ⟨ts, h1, ?_⟩
    split at hr
    · rename_i ti hti
      simp only [readT, hti]
      cases ha : ti.d.agg with
      | true =>
        rw [ha, cond_true] at hr
        rw [cond_true]
        cases hb : Nat.blt 0 ti.size with
        | false => rw [hb] at hr; cases hr
        | true =>
          rw [hb, cond_true] at hr
          cases hc : cellsX zn z ov p ti.size with
          | none => rw [hc] at hr; cases hr
          | some cs =>
            rw [hc] at hr
            obtain ⟨h4, h5⟩ := cellsX_eq h3 hc (by rwa [Nat.blt_eq] at hb)
            rw [Nat.ble_eq_true_of_le h4, cond_true, h5]; exact hr
      | false =>
        rw [ha, cond_false] at hr
        rw [cond_false]
        exact h3 p t hr
    · cases hr
  · cases hr

/-- What operations come to that look at things, or bring parts together. -/
def heapX (G : Nat → Option TI) (e : Tr T) (h : HS) (op : Op) : Option T :=
  match op with
  | .load ty x => match evX e x with
    | some (.ptr i p) => readX G h ty i p
    | _ => none
  | .convert src dst x => match evX e x, G src, G dst with
    | some (.aref 1 i o n _), some { d := .slice el, .. }, some { d := .str, .. } => match G el, h.L.get i with
      | some { d := .int .u8, .. }, some (.th nt zn z ov) => cond (Nat.ble (o + n) nt) (match cellsX zn z ov o n with
        | some cs => (bytesOf cs).map .str
        | none => none) none
      | _, _ => none
    | _, _, _ => none
  | .build t parts => match G t, partsX e parts.toList with
    | some ti, some pt => cond (placesOk G ti) ((treeFill (placeOf G ti) (ti.zero.map Z.tree) pt).map .agg) none
    | _, _ => none
  | .lookup t x y ok => match evX e x, evX e y, G t with
    | some (.map (some i)), some (.int k n), some { d := .map kt et, .. } => match G kt, G et, h.L.get i with
      | some { d := .int _, .. }, some te, some (.mp es) => match findX k n es 0 with
        | some r => some (cond ok (.tup [foundX te.tree r, .bool r.isSome]) (foundX te.tree r))
        | none => none
      | _, _, _ => none
    | _, _, _ => none
  | .index t x i => match evX e x, evX e i, G t with
    | some (.str s), some (.int _ n), some { d := .str, .. } => cond (decide (0 ≤ n)) ((s[n.toNat]?).map fun b => .int .u8 b.toNat) none
    | _, _, _ => none
  | .call ⟨.builtin .max, ⟨[x, y]⟩, _⟩ => match evX e x, evX e y with
    | some (.int k m), some (.int l n) => cond (decide (k = l)) (some (.int k (cond (decide (m < n)) n m))) none
    | _, _ => none
  | .call ⟨.builtin .min, ⟨[x, y]⟩, _⟩ => match evX e x, evX e y with
    | some (.int k m), some (.int l n) => cond (decide (k = l)) (some (.int k (cond (decide (n < m)) n m))) none
    | _, _ => none
  | _ => none
def immX (G : Nat → Option TI) (e : Tr T) (op : Op) : Option T :=
  match op with
  | .buildSlice t len parts => match G t, partsX e parts.toList with
    | some { d := .slice el, .. }, some pt => match G el with
      | some ie => cond (decide (pt.map Prod.fst = List.range' 0 len) && Nat.beq pt.length len && (pt.all fun p => notRaw p.2 && Nat.beq p.2.cells.length ie.size) && Nat.ble (len * ie.size) 16777216 && Nat.blt 0 ie.size)
        (some (.sl ie.size .full (pt.map Prod.snd))) none
      | none => none
    | _, _ => none
  | .makeSlice t x y => match G t, evX e x, evX e y with
    | some { d := .slice el, .. }, some (.int _ n), some (.int _ m) => match G el with
      | some te => cond (decide (n = m) && decide (0 ≤ n) && decide (n ≤ 4294967296) && (Nat.blt 0 te.size && Nat.ble te.bytes 4096))
          (some (.sl te.size .full (List.replicate n.toNat te.tree))) none
      | none => none
    | _, _, _ => none
  | _ => none

section
variable {P : Program} {G : Nat → Option TI} {σ : St} {h : HS} {N : Nat} {a : Env} {e : Tr T}

theorem aop_quietO (hG : Fits P G) {o : Oper} {t : T} {K : Env → St → Prop} {ρ : Operand → Option T} (hρ : ∀ x t, ρ x = some t → evalO a x = some t) {objs : Nat → Option Ob} (hob : ∀ i o, objs i = some o → (i, o) ∈ σ.L)
    (h : evalOp G objs ρ o.op = some t) (hd : fitsD N o.dst = true) (k : K (put a o.dst t) σ) : AOp P N o a σ K := by
  intro av w μ hi hr next Qc hn
  obtain ⟨v, h1, h2⟩ := evalOp_run (P := P) hG hi (ρv := av.eval) (fun x t hx => evalO_rel hr (hρ x t hx)) (objs := objs) hob h
  unfold Oper.wp
  rw [h1]
  exact hn _ _ _ _ _ (.refl _ _ _) hi (hr.put hd h2) k

theorem aop_max2 (hG : Fits P G) {o : Oper} {x y : Operand} {tys : Array TypeId} {k : IntKind} {m n : Int} {K : Env → St → Prop} (hop : o.op = .call ⟨.builtin .max, ⟨[x, y]⟩, tys⟩) (hx : evalO a x = some (.int k m)) (hy : evalO a y = some (.int k n)) (hd : fitsD N o.dst = true)
    (kk : K (put a o.dst (.int k (cond (decide (m < n)) n m))) σ) : AOp P N o a σ K := by
  intro av w μ hi hr next Qc hnx
  have rx := evalO_rel hr hx
  have ry := evalO_rel hr hy
  generalize hvx : av.eval x = vx at rx
  generalize hvy : av.eval y = vy at ry
  cases rx; cases ry
  have hrun : (execOp av.eval o).run P w = .ok (.value (.int k (cond (decide (m < n)) n m))) w := by
    simp [execOp, hop, resolve, invoke, builtin, Builtin.max_, Builtin.max2, hvx, hvy]
    try (by_cases h : m < n <;> simp [h])
  unfold Oper.wp
  rw [hrun]
  exact hnx _ _ _ _ _ (.refl _ _ _) hi (hr.put hd (.int _ _)) kk
theorem aop_min2 (hG : Fits P G) {o : Oper} {x y : Operand} {tys : Array TypeId} {k : IntKind} {m n : Int} {K : Env → St → Prop} (hop : o.op = .call ⟨.builtin .min, ⟨[x, y]⟩, tys⟩) (hx : evalO a x = some (.int k m)) (hy : evalO a y = some (.int k n)) (hd : fitsD N o.dst = true)
    (kk : K (put a o.dst (.int k (cond (decide (n < m)) n m))) σ) : AOp P N o a σ K := by
  intro av w μ hi hr next Qc hnx
  have rx := evalO_rel hr hx
  have ry := evalO_rel hr hy
  generalize hvx : av.eval x = vx at rx
  generalize hvy : av.eval y = vy at ry
  cases rx; cases ry
  have hrun : (execOp av.eval o).run P w = .ok (.value (.int k (cond (decide (n < m)) n m))) w := by
    simp [execOp, hop, resolve, invoke, builtin, Builtin.min_, Builtin.min2, hvx, hvy]
    try (by_cases h : n < m <;> simp [h])
  unfold Oper.wp
  rw [hrun]
  exact hnx _ _ _ _ _ (.refl _ _ _) hi (hr.put hd (.int _ _)) kk

theorem aop_indexS (hG : Fits P G) {o : Oper} {t : TypeId} {x y : Operand} {ti : TI} {s : List UInt8} {k : IntKind} {n : Int} {b : UInt8} {K : Env → St → Prop} (hop : o.op = .index t x y) (ht : G t = some ti) (htd : ti.d = .str) (hx : evalO a x = some (.str s)) (hy : evalO a y = some (.int k n)) (h0 : 0 ≤ n) (hb : s[n.toNat]? = some b) (hd : fitsD N o.dst = true)
    (kk : K (put a o.dst (.int .u8 b.toNat)) σ) : AOp P N o a σ K := by
  intro av w μ hi hr next Qc hnx
  obtain ⟨d1, u1, f1⟩ := g_under (P := P) (w := w) hG ht
  rw [htd] at f1; obtain rfl := td_str f1
  have rx := evalO_rel hr hx
  have ry := evalO_rel hr hy
  generalize hvx : av.eval x = vx at rx
  generalize hvy : av.eval y = vy at ry
  cases ry
  cases rx with
  | str sb =>
  have hget : sb[n.toNat]? = some b := by
    have h1 : sb.data[n.toNat]? = some b := by simpa using hb
    have h2 := (Array.getElem?_eq_some_iff.1 h1)
    obtain ⟨h3, h4⟩ := h2
    have h5 : n.toNat < sb.size := h3
    rw [getElem?_pos sb n.toNat h5]
    exact congrArg some h4
  have hrun : (execOp av.eval o).run P w = .ok (.value (.int .u8 b.toNat)) w := by
    simp [execOp, hop, hvx, hvy, Instr.index, asIntOf, u1, h0, hget]
  unfold Oper.wp
  rw [hrun]
  exact hnx _ _ _ _ _ (.refl _ _ _) hi (hr.put hd (.int _ _)) kk

theorem heapX_sound (hG : Fits P G) {o : Oper} {t : T} {K : Env → St → Prop} (hx : heapX G e h o.op = some t) (c : HCov σ h) (ce : CovE a e) (hd : fitsD N o.dst = true) (k : K (put a o.dst t) σ) : AOp P N o a σ K := by
  have hρ : ∀ x t, evX e x = some t → evalO a x = some t := fun x t h => ce.ev h
  unfold heapX at hx
  split at hx
  · rename_i ty x hop
    split at hx
    · rename_i i p hp
      obtain ⟨ts, h1, h2⟩ := readX_ok c hx
      refine aop_quietO hG hρ (objs := only i ts) (only_mem h1) ?_ hd k
      rw [hop]; simp only [evalOp, hp, only_self]; exact h2
    · cases hx
  · rename_i src dst x hop
    split at hx
    · rename_i i o' n cp el z1 z2 z3 z4 z5 z6 hv hs hd'
      split at hx
      · rename_i q1 q2 q3 nt zn z ov hel hg
        cases hle : Nat.ble (o' + n) nt with
        | false => rw [hle] at hx; cases hx
        | true =>
          rw [hle, cond_true] at hx
          split at hx
          · rename_i cs hcs
            obtain ⟨ts, h1, h2, h3⟩ := c.th i nt zn z ov hg
            have hcs' : (ts.drop o').take n = cs := by
              rcases Nat.eq_zero_or_pos n with h0 | h0
              · subst h0; rw [List.eq_nil_of_length_eq_zero (cellsX_take h3 _ _ _ hcs).1]; simp
              · exact (cellsX_eq h3 hcs h0).2
            have hb2 : Nat.ble (o' + n) ts.length = true := by rw [h2]; exact hle
            refine aop_quietO hG hρ (objs := only i ts) (only_mem h1) ?_ hd k
            rw [hop]; simp only [evalOp, hv, hs, hd', hel, only_self, hb2, cond_true, hcs']; exact hx
          · cases hx
      · cases hx
    · cases hx
  · rename_i t' parts hop
    split at hx
    · rename_i ti pt hti hpt
      cases hpl : placesOk G ti with
      | false => rw [hpl] at hx; cases hx
      | true =>
        rw [hpl, cond_true] at hx
        cases hf : treeFill (placeOf G ti) (ti.zero.map Z.tree) pt with
        | none => rw [hf] at hx; cases hx
        | some cs =>
          rw [hf] at hx; injection hx with hx; subst hx
          exact aop_build hG hop hti hpl (ce.parts hpt) hf hd k
    · cases hx
  · rename_i t' x y ok hop
    split at hx
    · rename_i i kk n kt et z1 z2 z3 hvx hvy hti
      split at hx
      · rename_i k0 z4 z5 z6 te es hkt het hg
        split at hx
        · rename_i r hr
          injection hx with hx; subst hx
          exact aop_lookup hG hop hti rfl hkt rfl het (ce.ev hvx) (ce.ev hvy) (c.mp i es hg) hr hd k
        · cases hx
      · cases hx
    · cases hx
  · rename_i t' x y hop
    split at hx
    · rename_i s kk n z1 z2 z3 hvx hvy hti
      by_cases h0 : 0 ≤ n
      · simp only [decide_eq_true h0, cond_true] at hx
        cases hb : s[n.toNat]? with
        | none => rw [hb] at hx; cases hx
        | some b =>
          rw [hb] at hx; injection hx with hx; subst hx
          exact aop_indexS hG hop hti rfl (ce.ev hvx) (ce.ev hvy) h0 hb hd k
      · simp [decide_eq_false h0] at hx
    · cases hx
  · rename_i x y tys hop
    split at hx
    · rename_i k1 m k2 n hvx hvy
      by_cases hk : k1 = k2
      · subst hk
        simp only [decide_true, cond_true] at hx
        injection hx with hx; subst hx
        exact aop_max2 hG hop (ce.ev hvx) (ce.ev hvy) hd k
      · simp [decide_eq_false hk] at hx
    · cases hx
  · rename_i x y tys hop
    split at hx
    · rename_i k1 m k2 n hvx hvy
      by_cases hk : k1 = k2
      · subst hk
        simp only [decide_true, cond_true] at hx
        injection hx with hx; subst hx
        exact aop_min2 hG hop (ce.ev hvx) (ce.ev hvy) hd k
      · simp [decide_eq_false hk] at hx
    · cases hx
  · cases hx
theorem immX_sound (hG : Fits P G) {o : Oper} {t : T} {K : Env → St → Prop} (hx : immX G e o.op = some t) (ce : CovE a e) (hd : fitsD N o.dst = true) (k : K (put a o.dst t) σ) : AOp P N o a σ K := by
  unfold immX at hx
  split at hx
  · rename_i t' len parts hop
    split at hx
    · rename_i el z1 z2 z3 pt hti hpt
      split at hx
      · rename_i ie hie
        revert hx
        cases hok : (decide (pt.map Prod.fst = List.range' 0 len) && Nat.beq pt.length len && (pt.all fun p => notRaw p.2 && Nat.beq p.2.cells.length ie.size) && Nat.ble (len * ie.size) 16777216 && Nat.blt 0 ie.size) with
        | false => intro hx; cases hx
        | true =>
          intro hx
          injection hx with hx; subst hx
          exact aop_buildSlice hG hop hti rfl hie (ce.parts hpt) hok hd k
      · cases hx
    · cases hx
  · rename_i t' x y hop
    split at hx
    · rename_i el z1 z2 z3 k1 n k2 m hti hvx hvy
      split at hx
      · rename_i te hte
        revert hx
        cases hc : (decide (n = m) && decide (0 ≤ n) && decide (n ≤ 4294967296) && (Nat.blt 0 te.size && Nat.ble te.bytes 4096)) with
        | false => intro hx; cases hx
        | true =>
          intro hx
          rw [Bool.and_eq_true, Bool.and_eq_true, Bool.and_eq_true, decide_eq_true_eq, decide_eq_true_eq, decide_eq_true_eq] at hc
          obtain ⟨⟨⟨rfl, c2⟩, c3⟩, c4⟩ := hc
          injection hx with hx; subst hx
          exact aop_makeI hG hop hti rfl hte (ce.ev hvx) (ce.ev hvy) c4 hd ⟨c2, c3⟩ k
      · cases hx
    · cases hx
  · cases hx
end
end Go.Ts
