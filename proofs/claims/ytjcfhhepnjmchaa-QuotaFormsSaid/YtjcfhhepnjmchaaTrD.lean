/- Trees, continued: append, slice literals, calls, whole functions. -/
import Derived.Test.YtjcfhhepnjmchaaTrC
set_option linter.unusedVariables false
set_option linter.unusedSimpArgs false
namespace Go.Tr

def flat (xs : List T) : List T := xs.flatMap T.cells
def sized (sz : Nat) (xs : List T) : Prop := ∀ (i : Nat) (x : T), xs[i]? = some x → x.cells.length = sz

theorem flat_nil : flat [] = [] := rfl
theorem flat_cons (x : T) (xs : List T) : flat (x :: xs) = x.cells ++ flat xs := by simp [flat]
theorem flat_append (xs ys : List T) : flat (xs ++ ys) = flat xs ++ flat ys := by simp [flat]
theorem sized_cons {sz : Nat} {x : T} {xs : List T} (h : sized sz (x :: xs)) : x.cells.length = sz ∧ sized sz xs := ⟨h 0 x rfl, fun i y hy => h (i + 1) y (by simpa using hy)⟩
theorem sized_append {sz : Nat} {xs ys : List T} (h : sized sz xs) (k : sized sz ys) : sized sz (xs ++ ys) := by
  intro i x hx
  rcases Nat.lt_or_ge i xs.length with h1 | h1
  · rw [List.getElem?_append_left h1] at hx; exact h i x hx
  · rw [List.getElem?_append_right h1] at hx; exact k _ x hx
theorem flat_length : ∀ {xs : List T} {sz : Nat}, sized sz xs → (flat xs).length = xs.length * sz
  | [], sz, _ => by simp [flat]
  | x :: xs, sz, h => by
    obtain ⟨h1, h2⟩ := sized_cons h
    rw [flat_cons, List.length_append, h1, flat_length h2, List.length_cons, Nat.add_mul]; omega
theorem flat_get : ∀ {xs : List T} {sz k : Nat} {c : T}, sized sz xs → (flat xs)[k]? = some c → ∃ i j x, k = i * sz + j ∧ xs[i]? = some x ∧ x.cells[j]? = some c
  | [], sz, k, c, _, h => by simp [flat] at h
  | x :: xs, sz, k, c, hs, h => by
    obtain ⟨h1, h2⟩ := sized_cons hs
    rw [flat_cons] at h
    rcases Nat.lt_or_ge k sz with h3 | h3
    · rw [List.getElem?_append_left (by omega)] at h
      exact ⟨0, k, x, by simp, rfl, h⟩
    · rw [List.getElem?_append_right (by omega), h1] at h
      obtain ⟨i, j, y, h4, h5, h6⟩ := flat_get h2 h
      exact ⟨i + 1, j, y, by rw [Nat.add_mul]; omega, by simpa using h5, h6⟩
theorem flat_at : ∀ {xs : List T} {sz i j : Nat} {x c : T}, sized sz xs → xs[i]? = some x → x.cells[j]? = some c → (flat xs)[i * sz + j]? = some c
  | [], sz, i, j, x, c, _, h, _ => by simp at h
  | y :: xs, sz, i, j, x, c, hs, h, hc => by
    obtain ⟨h1, h2⟩ := sized_cons hs
    rw [flat_cons]
    cases i with
    | zero =>
      simp at h; subst h
      have : j < y.cells.length := by
        rcases Nat.lt_or_ge j y.cells.length with h' | h'
        · exact h'
        · rw [List.getElem?_eq_none h'] at hc; cases hc
      rw [List.getElem?_append_left (by omega)]
      simpa using hc
    | succ i =>
      rw [List.getElem?_append_right (by rw [Nat.add_mul]; omega), h1, show (i + 1) * sz + j - sz = i * sz + j by rw [Nat.add_mul]; omega]
      exact flat_at h2 (by simpa using h) hc

section
variable {P : Program} {G : Nat → Option TI} {w w1 : World} {σ σ1 : St} {N : Nat} {a : Env} {Q : Exit → Env → St → Prop}

theorem sl_mk {b p cap sz n : Nat} {own : Option (Nat × Nat × Nat)} {xs : List T} (hn : xs.length = n) (hc : n ≤ cap) (ho : OwnOK own b (p + n * sz) (p + cap * sz)) (hs : sized sz xs)
    (h : ∀ k c, (flat xs)[k]? = some c → Imm w σ b (p + k) ∧ ∃ v, w.cell? ⟨b, p + k, none⟩ = some v ∧ Rel w σ v c) : Rel w σ (.slice (some ⟨b, p, none⟩) n cap) (.sl sz own xs) := by
  refine .sl b p cap sz own xs n hn hc ho hs (fun i x j c hx hj => ?_) (fun i x j c v hx hj hv => ?_)
  · obtain ⟨h1, v, h2, h3⟩ := h _ c (flat_at hs hx hj)
    rw [← Nat.add_assoc] at h1 h2
    exact ⟨h1, v, h2⟩
  · obtain ⟨h1, u, h2, h3⟩ := h _ c (flat_at hs hx hj)
    rw [← Nat.add_assoc, hv] at h2
    injection h2 with h2
    exact h2 ▸ h3

/-- The elements of what is appended. -/
def srcOf (objs : Nat → Option Ob) (sz : Nat) : T → Option (List T)
  | .sl sz' _ ys => cond (Nat.beq sz' sz) (some ys) none
  | .nilsl => some []
  | .aref 1 _ b o n => cond (Nat.beq sz 1) (match objs b with
    | some (.cells ts) => cond (Nat.ble (o + n) ts.length && ((ts.drop o).take n).all T.scalar) (some ((ts.drop o).take n)) none
    | _ => none) none
  | _ => none

theorem scalar_cells {t : T} (h : t.scalar = true) : t.cells = [t] := by cases t <;> first | rfl | cases h

theorem flat_scalar : ∀ {xs : List T}, xs.all T.scalar = true → flat xs = xs ∧ sized 1 xs
  | [], _ => ⟨rfl, fun i x h => by simp at h⟩
  | x :: xs, h => by
    simp only [List.all_cons, Bool.and_eq_true] at h
    obtain ⟨h1, h2⟩ := flat_scalar h.2
    rw [flat_cons, scalar_cells h.1, h1]
    refine ⟨rfl, fun i y hy => ?_⟩
    cases i with
    | zero => simp at hy; subst hy; rw [scalar_cells h.1]; rfl
    | succ i => exact h2 i y (by simpa using hy)

theorem srcOf_run (hi : Inv w σ) {sz : Nat} {v : Value} {t : T} {ys : List T} (r : Rel w σ v t) (h : srcOf σ.objs sz t = some ys) :
    (Builtin.lenOf v).run P w = .ok ys.length w ∧ sized sz ys ∧ ∃ vs : Array Value, (∀ w1 : World, w1.heap = w.heap → (Builtin.firstCells sz ys.length v).run P w1 = .ok vs w1) ∧ vs.size = (flat ys).length ∧
      ∀ (k : Nat) (c : T) (u : Value), (flat ys)[k]? = some c → vs[k]? = some u → Rel w σ u c := by
  cases r with
  | nilsl =>
    simp [srcOf] at h; subst h
    exact ⟨rfl, fun i x hx => by simp at hx, #[], fun _ _ => rfl, rfl, fun k c u hk => by simp [flat] at hk⟩
  | slnil sz' own h0 =>
    simp only [srcOf] at h
    cases hb : Nat.beq sz' sz with
    | false => simp [hb] at h
    | true =>
      simp [hb] at h; subst h
      exact ⟨rfl, fun i x hx => by simp at hx, #[], fun _ _ => rfl, rfl, fun k c u hk => by simp [flat] at hk⟩
  | slz ad sz' own h0 =>
    simp only [srcOf] at h
    cases hb : Nat.beq sz' sz with
    | false => simp [hb] at h
    | true =>
      simp [hb] at h; subst h
      exact ⟨rfl, fun i x hx => by simp at hx, #[], fun _ _ => by simp [Builtin.firstCells, loadCells, loadCellsFrom], rfl, fun k c u hk => by simp [flat] at hk⟩
  | sl b p cap sz' own xs n hn hc ho hs h0 r0 =>
    simp only [srcOf] at h
    cases hb : Nat.beq sz' sz with
    | false => simp [hb] at h
    | true =>
      simp [hb] at h; subst h
      obtain rfl : sz' = sz := Nat.eq_of_beq_eq_true hb
      have hcells : CellsAt w σ b p (flat xs) := by
        intro k c hk
        obtain ⟨i, j, x, rfl, hx, hj⟩ := flat_get hs hk
        obtain ⟨_, v, hv⟩ := h0 i x j c hx hj
        rw [← Nat.add_assoc]
        exact ⟨v, hv, r0 i x j c v hx hj hv⟩
      refine ⟨by rw [hn]; rfl, hs, ?_⟩
      have hl := flat_length hs
      obtain ⟨vs, h1, h2, h3⟩ := loadCells_rel (P := P) hcells (o := 0) (n := xs.length * sz') (by omega)
      refine ⟨vs, fun w1 hw1 => ?_, by omega, fun k c u hk hu => h3 k c u (by rw [List.drop_zero, List.take_of_length_le (by omega)]; exact hk) hu⟩
      have hex : ∀ j, j < xs.length * sz' → ∃ v, w.cell? ⟨b, p + j, none⟩ = some v := by
        intro j hj
        obtain ⟨v, hv, _⟩ := hcells j _ (List.getElem?_eq_getElem (by omega))
        exact ⟨v, hv⟩
      have e1 := run_loadCells (P := P) w ⟨b, p, none⟩ (xs.length * sz') (fun j => (w.cell? ⟨b, p + j, none⟩).getD undef) (fun j hj => by
        rw [add_at]; obtain ⟨v, hv⟩ := hex j hj; simp [hv])
      have e2 := run_loadCells (P := P) w1 ⟨b, p, none⟩ (xs.length * sz') (fun j => (w.cell? ⟨b, p + j, none⟩).getD undef) (fun j hj => by
        rw [add_at, cell_of_heap (show w1.heap[b]? = w.heap[b]? by rw [hw1])]; obtain ⟨v, hv⟩ := hex j hj; simp [hv])
      rw [Nat.add_zero, e1] at h1
      injection h1 with h1
      show (loadCells ⟨b, p, none⟩ (xs.length * sz')).run P w1 = _
      rw [e2, h1]
  | aref b o n cap sz' own hc ho =>
    unfold srcOf at h
    split at h
    · rename_i heq; cases heq
    · rename_i heq; cases heq
    · rename_i own' b' o' n' heq
      injection heq with h1 h2 h3 h4 h5
      subst h1; subst h3; subst h4; subst h5
      cases hb : Nat.beq sz 1 with
      | false => simp [hb] at h
      | true =>
        obtain rfl : sz = 1 := Nat.eq_of_beq_eq_true hb
        simp only [hb, cond_true] at h
        split at h
        · rename_i ts hts
          cases hb2 : (Nat.ble (o + n) ts.length && ((ts.drop o).take n).all T.scalar) with
          | false => rw [hb2] at h; cases h
          | true =>
            rw [hb2] at h
            simp only [cond_true] at h
            injection h with h
            rw [Bool.and_eq_true] at hb2
            have hle := Nat.le_of_ble_eq_true hb2.1
            obtain ⟨hf1, hf2⟩ := flat_scalar hb2.2
            rw [h] at hf1 hf2
            have hlen : ys.length = n := by rw [← h]; simp; omega
            refine ⟨by rw [hlen]; rfl, hf2, ?_⟩
            have hcells := hi.cells hts
            obtain ⟨vs, h1, h2, h3⟩ := loadCells_rel (P := P) hcells (o := o) (n := n) hle
            refine ⟨vs, fun w1 hw1 => ?_, by rw [hf1, hlen]; exact h2, fun k c u hk hu => h3 k c u (by rw [h, ← hf1]; exact hk) hu⟩
            have hcells1 : ∀ j, j < n → w1.cell? ⟨b, o + j, none⟩ = w.cell? ⟨b, o + j, none⟩ := fun j _ => cell_of_heap (by rw [hw1]) _
            rw [Nat.zero_add] at h1
            have hex : ∀ j, j < n → ∃ v, w.cell? ⟨b, o + j, none⟩ = some v := by
              intro j hj
              obtain ⟨v, hv, _⟩ := hcells (o + j) _ (List.getElem?_eq_getElem (by omega))
              exact ⟨v, by simpa using hv⟩
            have e1 := run_loadCells (P := P) w ⟨b, o, none⟩ n (fun j => (w.cell? ⟨b, o + j, none⟩).getD undef) (fun j hj => by
              rw [add_at]; obtain ⟨v, hv⟩ := hex j hj; simp [hv])
            have e2 := run_loadCells (P := P) w1 ⟨b, o, none⟩ n (fun j => (w.cell? ⟨b, o + j, none⟩).getD undef) (fun j hj => by
              rw [add_at, hcells1 j hj]; obtain ⟨v, hv⟩ := hex j hj; simp [hv])
            show (loadCells ⟨b, o, none⟩ (ys.length * 1)).run P w1 = _
            rw [hlen, Nat.mul_one, e2]
            rw [h1] at e1
            injection e1 with e1
            rw [e1]
        · cases h
    · cases h
  | _ => simp [srcOf] at h

theorem growBy_le (n : Nat) : ∀ (r c : Nat), c ≤ 2 * n + 768 → Builtin.growBy n r c ≤ 2 * n + 768
  | 0, c, h => h
  | r + 1, c, h => by
    simp only [Builtin.growBy]
    split
    · exact h
    · exact growBy_le n r _ (by omega)
theorem nextslicecap_le (n c : Nat) (h : c < n) : Builtin.nextslicecap n c ≤ 2 * n + 768 := by
  unfold Builtin.nextslicecap
  split
  · omega
  · split
    · omega
    · exact growBy_le n 4 c (by omega)

def St.sp (σ : St) (own : Nat × Nat × Nat) : St := cond (Nat.beq own.2.1 own.2.2) σ (σ.setR own.1 (some own.2))
def Fresh (σ : St) (own : Nat × Nat × Nat) : Prop := own.2.1 = own.2.2 ∨ σ.spare own.1 = none ∧ σ.objs own.1 = none

theorem zeroCells_size (zero : Array Value) (n : Nat) : (Builtin.zeroCells zero n).size = n * zero.size := by simp [Builtin.zeroCells]

theorem sp_eq {own : Nat × Nat × Nat} (h : own.2.1 = own.2.2) : σ.sp own = σ := by simp [St.sp, h, beqT]
theorem sp_ne {own : Nat × Nat × Nat} (h : own.2.1 ≠ own.2.2) : σ.sp own = σ.setR own.1 (some own.2) := by simp [St.sp, beqF h]
theorem sp_objs (own : Nat × Nat × Nat) : (σ.sp own).objs = σ.objs := by unfold St.sp; cases Nat.beq own.2.1 own.2.2 <;> rfl
theorem sp_base (own : Nat × Nat × Nat) : (σ.sp own).base = σ.base := by unfold St.sp; cases Nat.beq own.2.1 own.2.2 <;> rfl
theorem sp_spare_ne (own : Nat × Nat × Nat) {b : Nat} (h : b ≠ own.1) : (σ.sp own).spare b = σ.spare b := by
  unfold St.sp; cases Nat.beq own.2.1 own.2.2 with
  | true => rfl
  | false => exact spare_setR_ne _ h

/-- Room that is not needed any more. -/
theorem sp_drop {own : Nat × Nat × Nat} (hf : Fresh σ own) : GStep (σ.sp own) σ := by
  intro w hi
  by_cases h : own.2.1 = own.2.2
  · rw [sp_eq h] at hi ⊢; exact ⟨hi, .refl _ _⟩
  · obtain ⟨hf1, hf2⟩ := hf.resolve_left h
    have hR : ∀ b f t, σ.spare b = some (f, t) → (σ.sp own).spare b = some (f, t) := by
      intro b f t hb
      by_cases e : b = own.1
      · subst e; rw [hf1] at hb; cases hb
      · rw [sp_spare_ne own e]; exact hb
    have ev : Ev w (σ.sp own) w σ := by
      refine ⟨(sp_base own).symm, .refl _ _, fun b o hb => ⟨⟨hb.1, by rw [← sp_objs own]; exact hb.2.1, fun f t hft => hb.2.2 f t (hR b f t hft)⟩, rfl⟩⟩
    refine ⟨⟨by rw [← sp_base own]; exact hi.base, fun b ts hb => ?_, fun b f t hb => ?_, fun b es hb => ?_⟩, ev⟩
    · obtain ⟨h1, c, e, h2, h3, h4⟩ := hi.obj b ts (by rw [sp_objs]; exact hb)
      exact ⟨by rw [← sp_base own]; exact h1, c, e, h2, h3, fun j t v h5 h6 => (h4 j t v h5 h6).ev ev⟩
    · obtain ⟨h1, h2, c, e, h3, h4, h5⟩ := hi.room b f t (hR b f t hb)
      exact ⟨by rw [← sp_base own]; exact h1, h2, c, e, h3, h4, fun ts hts => h5 ts (by rw [sp_objs]; exact hts)⟩
    · obtain ⟨h1, en, clock, h2, h3, h4⟩ := hi.map b es (by rw [sp_objs]; exact hb)
      exact ⟨by rw [← sp_base own]; exact h1, en, clock, h2, h3, fun j k u e h5 h6 => let ⟨h7, h8⟩ := h4 j k u e h5 h6; ⟨h7.ev ev, h8.ev ev⟩⟩

theorem append_room_run {t1 t2 ty : TypeId} {e e2 sz : Nat} {base : Option Addr} {sLen sCap n : Nat} {vy : Value} {vs : Array Value}
    (u1 : (underlying t1).run P w = .ok (.slice e) w) (u2 : (underlying t2).run P w = .ok (.slice e2) w) (us : (sizeOf e).run P w = .ok sz w)
    (hn : (Builtin.lenOf vy).run P w = .ok n w) (hv : (Builtin.firstCells sz n vy).run P w = .ok vs w) (hle : sLen + n ≤ sCap) {w1 : World}
    (hst : (match base with | some a => storeCells (a.add (sLen * sz)) vs.toList | none => pure ()).run P w = .ok () w1) :
    (Builtin.append_ #[t1, t2] ty #[.slice base sLen sCap, vy]).run P w = .ok (.slice base (sLen + n) sCap) w1 := by
  simp only [Builtin.append_]
  cases base with
  | none =>
    simp only [Sem.run_pure] at hst
    injection hst with _ hst; subst hst
    simp [u1, u2, us, hn, hv, hle]
  | some ad => simp [u1, u2, us, hn, hv, hle, hst]

theorem append_grow_run {t1 t2 ty : TypeId} {e e2 : Nat} {ie : TypeInfo} {base : Option Addr} {sLen sCap n : Nat} {vy z : Value} {old vs : Array Value}
    (u1 : ∀ w, (underlying t1).run P w = .ok (.slice e) w) (u2 : ∀ w, (underlying t2).run P w = .ok (.slice e2) w) (us : ∀ w, (sizeOf e).run P w = .ok ie.size w) (ui : ∀ w, (typeInfo e).run P w = .ok ie w) (uz : ∀ w, (zeroValue e).run P w = .ok z w)
    (hn : (Builtin.lenOf vy).run P w = .ok n w) (hlt : sCap < sLen + n) (hbound : sLen + n ≤ 4294967296) (hby : ie.bytes ≤ 4096) (hby0 : ie.bytes ≠ 0 ∨ True)
    (hold : (Builtin.firstCells ie.size sLen (.slice base sLen sCap)).run P w.drew = .ok old w.drew) (hv : (Builtin.firstCells ie.size n vy).run P w.drew = .ok vs w.drew) :
    ∃ newCap, sLen + n ≤ newCap ∧ (Builtin.append_ #[t1, t2] ty #[.slice base sLen sCap, vy]).run P w =
      .ok (.slice (some ⟨w.heap.size, 0, none⟩) (sLen + n) newCap) (w.drew.alloc (.cells (old ++ vs ++ Builtin.zeroCells z.cells (newCap - (sLen + n))) e)) := by
  have hb1 : ¬ (Builtin.nextslicecap (sLen + n) sCap * ie.bytes > 2 ^ 48) := by
    have h1 := nextslicecap_le (sLen + n) sCap hlt
    have h2 : Builtin.nextslicecap (sLen + n) sCap * ie.bytes ≤ 8589935360 * 4096 := Nat.mul_le_mul (by omega) hby
    omega
  have hb2 : ¬ (((sLen + n : Nat) : Int) > IntKind.i64.max ∧ (False ∨ ie.bytes = 0)) := by
    intro ⟨h, _⟩
    have : IntKind.i64.max = 9223372036854775807 := by decide
    omega
  refine ⟨(Question.appendCap (sLen + n) sCap e).cut (w.tape w.drawn (.appendCap (sLen + n) sCap e)), by simp only [Question.cut]; omega, ?_⟩
  have hnle : ¬ (sLen + n ≤ sCap) := by omega
  have hb3 : ¬ (281474976710656 < Builtin.nextslicecap (sLen + n) sCap * ie.bytes) := by omega
  have hb4 : ¬ (9223372036854775807 < (sLen : Int) + (n : Int) ∧ ie.bytes = 0) := by intro ⟨h, _⟩; omega
  have hfo : (Question.appendCap (sLen + n) sCap e).forced = false := rfl
  simp only [Builtin.append_]
  simp [u1, u2, us, ui, uz, hn, hnle, hold, hv, hb3, hb4, hfo, newRow]

def Scal (ys : List T) : Prop := ∀ c, c ∈ flat ys → c.scalar = true

/-- append onto a slice of the call's own. -/
theorem aop_append (hG : Fits P G) {o : Oper} {x y : Operand} {t1 t2 : TypeId} {e sz : Nat} {i1 i2 ie : TI} {own : Nat × Nat × Nat} {xs ys : List T} {ty : T} {σ0 : St} {K : Env → St → Prop}
    (ho : o.op = .call { callee := .builtin .append, args := #[x, y], argTypes := #[t1, t2] }) (h1 : G t1 = some i1) (h1d : i1.d = .slice e) (he : G e = some ie) (h2 : G t2 = some i2) (h2d : ∃ e2, i2.d = .slice e2)
    (hx : evalO a x = some (.sl sz (some own) xs)) (hy : evalO a y = some ty) (hsrc : srcOf σ.objs sz ty = some ys) (hsz : (Nat.beq sz ie.size && Nat.blt 0 sz && Nat.ble ie.bytes 4096) = true)
    (hσ : σ = σ0.sp own) (hfr : Fresh σ0 own) (hsc : Scal ys) (hlen : xs.length + ys.length ≤ 4294967296) (hd : fitsD N o.dst = true)
    (k : ∀ own', Fresh σ0 own' → K (put a o.dst (.sl sz (some own') (xs ++ ys))) (σ0.sp own')) : AOp P N o a σ K := by
  intro av w hi hr next Qc hn
  simp only [Bool.and_eq_true] at hsz
  obtain rfl : sz = ie.size := Nat.eq_of_beq_eq_true hsz.1.1
  have hsz0 : 0 < ie.size := by have := hsz.1.2; simpa [Nat.blt_eq] using this
  have hby := Nat.le_of_ble_eq_true hsz.2
  obtain ⟨e2, h2d⟩ := h2d
  obtain ⟨d1, u1, f1⟩ := g_under (P := P) (w := w) hG h1
  rw [h1d] at f1; obtain rfl := td_slice f1
  obtain ⟨d2, u2, f2⟩ := g_under (P := P) (w := w) hG h2
  rw [h2d] at f2; obtain rfl := td_slice f2
  have us := g_size (P := P) (w := w) hG he
  have rx := evalO_rel hr hx
  have ry := evalO_rel hr hy
  obtain ⟨s1, s2, vs, s3, s4, s5⟩ := srcOf_run (P := P) hi ry hsrc
  have hexec : (execOp av.eval o).run P w = ((Builtin.append_ #[t1, t2] o.type #[av.eval x, av.eval y]).run P w).andThen fun v w' => .ok (.value v) w' := by
    simp [execOp, ho, resolve, invoke, builtin]
  have hfl := flat_length s2
  -- the two ways out
  have stay : ∀ (vx : Value) (base : Option Addr) (len cap : Nat), av.eval x = vx → vx = .slice base len cap → Rel w σ vx (.sl ie.size (some own) xs) → ys = [] → len ≤ cap →
      Oper.wp P o av w next Qc := by
    intro vx base len cap hvx hb r hy0 hle
    subst hy0
    have hvs : vs.toList = [] := by
      have : vs.size = 0 := by rw [s4]; rfl
      exact List.eq_nil_of_length_eq_zero (by simpa using this)
    have hr1 := append_room_run (P := P) (ty := o.type) u1 u2 us s1 (s3 w rfl) (sLen := len) (sCap := cap) (base := base) (by simpa using hle) (w1 := w) (by
      cases base with
      | none => rfl
      | some ad => simp [hvs, storeCells])
    unfold Oper.wp
    rw [hexec, hvx, hb, hr1]
    simp only [List.length_nil, Nat.add_zero, Result.andThen_ok]
    subst hσ
    exact hn _ _ _ _ (.refl _ _) hi (hr.put hd (by rw [List.append_nil, ← hb]; exact r)) (k own hfr)
  have grow : ∀ (vx : Value) (base : Option Addr) (cap : Nat) (old : Array Value), av.eval x = vx → vx = .slice base xs.length cap → cap < xs.length + ys.length → sized ie.size xs →
      (∀ w1 : World, w1.heap = w.heap → (Builtin.firstCells ie.size xs.length (.slice base xs.length cap)).run P w1 = .ok old w1) → old.size = (flat xs).length →
      (∀ (k : Nat) (c : T) (u : Value), (flat xs)[k]? = some c → old[k]? = some u → Rel w σ u c) → Oper.wp P o av w next Qc := by
    intro vx base cap old hvx hb hlt hsx hold hos hor
    obtain ⟨info, ui, hib, his⟩ := g_info (P := P) (w := w) hG he
    have ui' : ∀ w, (typeInfo e).run P w = .ok info w := by
      intro w2
      obtain ⟨info2, ui2, _⟩ := g_info (P := P) (w := w2) hG he
      obtain ⟨i0, d0, k1, k2, _⟩ := hG e ie he
      have e1 : (typeInfo e).run P w = .ok i0 w := by simp [typeInfo, k1]
      rw [ui] at e1; injection e1 with e1; subst e1
      simp [typeInfo, k1]
    obtain ⟨z, uz, rz, hz1, hz2⟩ := g_zero (P := P) (w := w) (σ := σ) hG he
    have uz' : ∀ w, (zeroValue e).run P w = .ok z w := by
      intro w2
      obtain ⟨i0, d0, k1, k2, k3, k4, k5, k6, _⟩ := hG e ie he
      have e1 : ∀ w, (zeroValue e).run P w = .ok (if ie.d.agg then .agg (ie.zero.map Z.value).toArray else (ie.zero.headD .b).value) w := by
        intro w; simp only [zeroValue, typeInfo, Sem.run_bind, run_program, Result.andThen_ok, k1, k6, Sem.run_pure]
      rw [e1] at uz; injection uz with uz; rw [e1, uz]
    have u1' : ∀ w, (underlying t1).run P w = .ok (.slice e) w := by
      intro w2; obtain ⟨d, u, f⟩ := g_under (P := P) (w := w2) hG h1; rw [h1d] at f; obtain rfl := td_slice f; exact u
    have u2' : ∀ w, (underlying t2).run P w = .ok (.slice e2) w := by
      intro w2; obtain ⟨d, u, f⟩ := g_under (P := P) (w := w2) hG h2; rw [h2d] at f; obtain rfl := td_slice f; exact u
    obtain ⟨newCap, hnc, hrun⟩ := append_grow_run (P := P) (ty := o.type) (ie := info) (base := base) (sLen := xs.length) (sCap := cap) (vy := av.eval y) (old := old) (vs := vs) (n := ys.length) u1' u2' (fun w => by rw [his]; exact g_size hG he) ui' uz' s1 hlt (by omega) (by omega) (.inr trivial)
      (by rw [his]; exact hold w.drew rfl) (by rw [his]; exact s3 w.drew rfl)
    -- the state: the old room is let go, a draw, a new block
    subst hσ
    obtain ⟨hi0, ev0⟩ := sp_drop hfr w hi
    have ev1 : Ev w σ0 w.drew σ0 := ev_same rfl rfl rfl rfl
    have hi1 : Inv w.drew σ0 := hi0.ev_heap rfl ev1
    generalize hrest : Builtin.zeroCells z.cells (newCap - (xs.length + ys.length)) = rest at hrun
    have hrs : rest.size = (newCap - (xs.length + ys.length)) * ie.size := by rw [← hrest, zeroCells_size, hz1]
    have hflx := flat_length hsx
    have hcs : (old ++ vs ++ rest).size = newCap * ie.size := by
      rw [Array.size_append, Array.size_append, hos, s4, hflx, hfl, hrs, ← Nat.add_mul, ← Nat.add_mul]
      congr 1; omega
    let own' : Nat × Nat × Nat := (w.heap.size, (xs.length + ys.length) * ie.size, newCap * ie.size)
    have hfr' : Fresh σ0 own' := .inr ⟨hi0.fresh_room, hi0.fresh_obj⟩
    obtain ⟨ev2, hi2⟩ := alloc_step (σ1 := σ0.sp own') hi1 (old ++ vs ++ rest) e (sp_base _) (fun k hk => by rw [sp_objs]) (fun k hk => sp_spare_ne _ hk)
      (fun ev ob hob => by
        rw [sp_objs] at hob
        have : σ0.objs w.heap.size = some ob := hob
        rw [hi0.fresh_obj] at this; cases this)
      (fun f t hft => by
        have hne : own'.2.1 ≠ own'.2.2 := by
          intro he2
          rw [sp_eq he2] at hft
          have : σ0.spare w.heap.size = some (f, t) := hft
          rw [hi0.fresh_room] at this; cases this
        rw [sp_ne hne] at hft
        have : (σ0.setR own'.1 (some own'.2)).spare own'.1 = some (f, t) := hft
        rw [spare_setR_same] at this
        injection this with this
        have e1 : f = (xs.length + ys.length) * ie.size := (congrArg Prod.fst this).symm
        have e2 : t = newCap * ie.size := (congrArg Prod.snd this).symm
        refine ⟨by rw [e1, e2]; exact Nat.mul_le_mul_right _ hnc, by rw [hcs, e2]; exact Nat.le_refl _, fun ts hts => ?_⟩
        rw [sp_objs] at hts
        have : σ0.objs w.heap.size = some (.cells ts) := hts
        rw [hi0.fresh_obj] at this; cases this)
    have evA := (ev0.trans ev1).trans ev2
    have hrel : Rel (w.drew.alloc (.cells (old ++ vs ++ rest) e)) (σ0.sp own') (.slice (some ⟨w.heap.size, 0, none⟩) (xs.length + ys.length) newCap) (.sl ie.size (some own') (xs ++ ys)) := by
      refine sl_mk (by simp) hnc (fun q hq => ?_) (sized_append hsx s2) (fun k c hk => ?_)
      · injection hq with hq; subst hq; left; simp [own']
      · have hklt : k < (xs.length + ys.length) * ie.size := by
          rcases Nat.lt_or_ge k (flat (xs ++ ys)).length with h | h
          · rw [flat_append, List.length_append, hflx, hfl, ← Nat.add_mul] at h; exact h
          · rw [List.getElem?_eq_none h] at hk; cases hk
        have hkc : k < (old ++ vs ++ rest).size := by rw [hcs]; exact Nat.lt_of_lt_of_le hklt (Nat.mul_le_mul_right _ hnc)
        have hheap : (w.drew.alloc (.cells (old ++ vs ++ rest) e)).heap[w.heap.size]? = some (.cells (old ++ vs ++ rest) e) := heap_alloc_at w.drew _
        have hcell : (w.drew.alloc (.cells (old ++ vs ++ rest) e)).cell? ⟨w.heap.size, 0 + k, none⟩ = some (old ++ vs ++ rest)[k] := by
          simp only [World.cell?, hheap, Nat.zero_add]
          simp [hkc]
        refine ⟨⟨(Array.getElem?_eq_some_iff.1 hheap).1, by rw [sp_objs]; exact hi0.fresh_obj, fun f t hft => ?_⟩, _, hcell, ?_⟩
        · by_cases he2 : own'.2.1 = own'.2.2
          · rw [sp_eq he2, hi0.fresh_room] at hft; cases hft
          · rw [sp_ne he2] at hft
            have : (σ0.setR own'.1 (some own'.2)).spare own'.1 = some (f, t) := hft
            rw [spare_setR_same] at this
            injection this with this
            have e1 : f = (xs.length + ys.length) * ie.size := (congrArg Prod.fst this).symm
            omega
        · refine Rel.ev (w := w) ?_ evA
          rw [flat_append] at hk
          have hget : (old ++ vs ++ rest)[k]? = some (old ++ vs ++ rest)[k] := Array.getElem?_eq_getElem hkc
          generalize (old ++ vs ++ rest)[k] = u at hget ⊢
          rcases Nat.lt_or_ge k (flat xs).length with h | h
          · rw [List.getElem?_append_left h] at hk
            rw [Array.append_assoc, Array.getElem?_append_left (by omega)] at hget
            exact hor k c u hk hget
          · rw [List.getElem?_append_right h] at hk
            have h2 : k - (flat xs).length < (flat ys).length := by
              rcases Nat.lt_or_ge (k - (flat xs).length) (flat ys).length with h' | h'
              · exact h'
              · rw [List.getElem?_eq_none h'] at hk; cases hk
            rw [Array.append_assoc, Array.getElem?_append_right (by omega), hos, Array.getElem?_append_left (by omega)] at hget
            exact s5 _ c u hk hget
    unfold Oper.wp
    rw [hexec, hvx, hb, hrun]
    exact hn _ _ _ _ evA hi2 ((hr.ev evA).put hd hrel) (k own' hfr')
  generalize hvx : av.eval x = vx at *
  cases rx with
  | slnil sz own1 h0 =>
    cases ys with
    | nil => exact stay _ none 0 0 rfl rfl (.slnil _ _ h0) rfl (Nat.le_refl _)
    | cons y0 ys =>
      exact grow _ none 0 #[] rfl rfl (by simp) (fun i x hx => by simp at hx) (fun _ _ => rfl) rfl (fun k c u hk => by simp [flat] at hk)
  | slz ad sz own1 h0 =>
    cases ys with
    | nil => exact stay _ (some ad) 0 0 rfl rfl (.slz ad _ _ h0) rfl (Nat.le_refl _)
    | cons y0 ys =>
      exact grow _ (some ad) 0 #[] rfl rfl (by simp) (fun i x hx => by simp at hx) (fun _ _ => by simp [Builtin.firstCells, loadCells, loadCellsFrom]) rfl (fun k c u hk => by simp [flat] at hk)
  | sl b p cap sz own1 xs n hxn hc hown hs h0 r0 =>
    have rx' : Rel w σ (.slice (some ⟨b, p, none⟩) n cap) (.sl ie.size (some own) xs) := .sl b p cap _ (some own) xs n hxn hc hown hs h0 r0
    subst hxn
    by_cases hy0 : ys = []
    · exact stay _ _ _ _ rfl rfl rx' hy0 hc
    · have hypos : 0 < ys.length := List.length_pos_iff.2 hy0
      rcases Nat.lt_or_ge cap (xs.length + ys.length) with hlt | hge
      · obtain ⟨q1, q2, old, q3, q4, q5⟩ := srcOf_run (P := P) (sz := ie.size) hi rx' (ys := xs) (by simp [srcOf, beqT])
        exact grow _ _ cap old rfl rfl hlt q2 q3 q4 q5
      · -- in place
        have hmul : xs.length * ie.size < cap * ie.size := Nat.mul_lt_mul_of_pos_right (by omega) hsz0
        have hown' : own = (b, p + xs.length * ie.size, p + cap * ie.size) := by
          rcases hown own rfl with h | h
          · exact h
          · have := h.1; omega
        have hne : own.2.1 ≠ own.2.2 := by rw [hown']; show p + xs.length * ie.size ≠ p + cap * ie.size; omega
        have hspare : σ.spare b = some (p + xs.length * ie.size, p + cap * ie.size) := by
          rw [hσ, sp_ne hne, hown']; exact spare_setR_same _ _
        obtain ⟨hf1, hf2⟩ := hfr.resolve_left hne
        have hb1 : own.1 = b := by rw [hown']
        rw [hb1] at hf1 hf2
        obtain ⟨hbase, hft, c, el, hheap, htc, _⟩ := hi.room _ _ _ hspare
        have hvl : vs.toList.length = ys.length * ie.size := by rw [Array.length_toList, s4, hfl]
        have hsum : xs.length * ie.size + ys.length * ie.size ≤ cap * ie.size := by rw [← Nat.add_mul]; exact Nat.mul_le_mul_right _ hge
        have hone : ∀ v ∈ vs.toList, v.oneCell' = true := by
          intro v hv
          obtain ⟨j, hj, hjv⟩ := List.getElem_of_mem hv
          have hj' : j < (flat ys).length := by rw [Array.length_toList] at hj; omega
          refine (s5 j (flat ys)[j] v (List.getElem?_eq_getElem hj') ?_).scalar (hsc _ (List.getElem_mem hj'))
          rw [← hjv]; simp
        have hst := run_storeCells_at (P := P) b (p + xs.length * ie.size) el vs.toList 0 c w hheap (by omega) hone
        generalize hc' : (c.toList.take (p + xs.length * ie.size + 0) ++ vs.toList ++ c.toList.drop (p + xs.length * ie.size + 0 + vs.toList.length)).toArray = c' at hst
        have hc'size : c'.size = c.size := by rw [← hc']; simp; omega
        have hrun := append_room_run (P := P) (ty := o.type) u1 u2 us s1 (s3 w rfl) (sLen := xs.length) (sCap := cap) (base := some ⟨b, p, none⟩) hge (w1 := w.setRow b c') (by
          simp only [add_at]; exact hst)
        let own' : Nat × Nat × Nat := (b, p + xs.length * ie.size + ys.length * ie.size, p + cap * ie.size)
        have hfr' : Fresh σ0 own' := .inr ⟨hf1, hf2⟩
        have hobjs : ∀ k, (σ0.sp own').objs k = σ.objs k := fun k => by rw [sp_objs, hσ, sp_objs]
        have hspares : ∀ k, k ≠ b → (σ0.sp own').spare k = σ.spare k := fun k hk => by rw [sp_spare_ne own' hk, hσ, sp_spare_ne own (by rw [hb1]; exact hk)]
        have hsp' : ∀ f t, (σ0.sp own').spare b = some (f, t) → f = p + xs.length * ie.size + ys.length * ie.size ∧ t = p + cap * ie.size := by
          intro f t hft
          by_cases he2 : own'.2.1 = own'.2.2
          · rw [sp_eq he2, hf1] at hft; cases hft
          · rw [sp_ne he2] at hft
            have : (σ0.setR own'.1 (some own'.2)).spare own'.1 = some (f, t) := hft
            rw [spare_setR_same] at this
            injection this with this
            exact ⟨(congrArg Prod.fst this).symm, (congrArg Prod.snd this).symm⟩
        have hc'get : ∀ q, (q < p + xs.length * ie.size ∨ p + xs.length * ie.size + ys.length * ie.size ≤ q) → c'[q]? = c[q]? := by
          intro q hq
          rw [← hc', List.getElem?_toArray]
          have hl1 : (c.toList.take (p + xs.length * ie.size + 0)).length = p + xs.length * ie.size := by simp; omega
          rcases hq with hq | hq
          · rw [List.append_assoc, List.getElem?_append_left (by omega), List.getElem?_take, if_pos (by omega)]; simp
          · rw [List.append_assoc, List.getElem?_append_right (by omega), hl1, List.getElem?_append_right (by omega), List.getElem?_drop, hvl,
              show p + xs.length * ie.size + 0 + ys.length * ie.size + (q - (p + xs.length * ie.size) - ys.length * ie.size) = q by omega]
            simp
        have hc'new : ∀ q, q < ys.length * ie.size → c'[p + xs.length * ie.size + q]? = vs[q]? := by
          intro q hq
          rw [← hc', List.getElem?_toArray]
          have hl1 : (c.toList.take (p + xs.length * ie.size + 0)).length = p + xs.length * ie.size := by simp; omega
          rw [List.append_assoc, List.getElem?_append_right (by omega), hl1, List.getElem?_append_left (by omega), show p + xs.length * ie.size + q - (p + xs.length * ie.size) = q by omega]
          simp
        have ev : Ev w σ (w.setRow b c') (σ0.sp own') :=
          ev_at (c' := c') (e := el) hbase rfl rfl rfl (by simp) (fun k hk _ => setRow_other w b k c' hk) (setRow_heap w b c c' el (0, 0) hheap) (by rw [sp_base, hσ, sp_base]) (fun k _ => hobjs k) hspares hi.base
            (fun q hq => by
              have h2 := hq.2.2 _ _ hspare
              refine ⟨by rw [hobjs]; exact hq.2.1, fun f t hft => ?_, ?_⟩
              · obtain ⟨rfl, rfl⟩ := hsp' f t hft; omega
              · rw [hc'get q (by omega)]; simp [World.cell?, hheap])
        have hi' : Inv (w.setRow b c') (σ0.sp own') := by
          refine inv_at hi ev hbase (fun k hk _ => setRow_other w b k c' hk) (setRow_heap w b c c' el (0, 0) hheap) (fun k _ => hobjs k) hspares ?_ ?_
          · intro ob hob
            rw [sp_objs, hf2] at hob; cases hob
          · intro f t hft
            obtain ⟨rfl, rfl⟩ := hsp' f t hft
            exact ⟨by omega, by omega, fun ts hts => by rw [sp_objs, hf2] at hts; cases hts⟩
        have hflx := flat_length hs
        have hrel : Rel (w.setRow b c') (σ0.sp own') (.slice (some ⟨b, p, none⟩) (xs.length + ys.length) cap) (.sl ie.size (some own') (xs ++ ys)) := by
          refine sl_mk (by simp) hge (fun q hq => ?_) (sized_append hs s2) (fun k c0 hk => ?_)
          · injection hq with hq; subst hq; left; show (b, _, _) = _; rw [Nat.add_mul]; congr 2; omega
          · rw [flat_append] at hk
            rcases Nat.lt_or_ge k (flat xs).length with h | h
            · rw [List.getElem?_append_left h] at hk
              obtain ⟨i, j, x0, rfl, hx0, hj0⟩ := flat_get hs hk
              obtain ⟨hI, v, hv⟩ := h0 i x0 j c0 hx0 hj0
              rw [← Nat.add_assoc]
              exact ⟨(ev.imm _ _ hI).1, v, (ev.imm _ _ hI).2.trans hv, (r0 i x0 j c0 v hx0 hj0 hv).ev ev⟩
            · rw [List.getElem?_append_right h] at hk
              have h2 : k - (flat xs).length < (flat ys).length := by
                rcases Nat.lt_or_ge (k - (flat xs).length) (flat ys).length with h' | h'
                · exact h'
                · rw [List.getElem?_eq_none h'] at hk; cases hk
              have hvk : vs[k - (flat xs).length]? = some vs[k - (flat xs).length] := Array.getElem?_eq_getElem (by omega)
              have hnew := hc'new (k - (flat xs).length) (by omega)
              rw [show p + xs.length * ie.size + (k - (flat xs).length) = p + k by omega, hvk] at hnew
              have hh1 : (w.setRow b c').heap[b]? = some (.cells c' el (0, 0)) := setRow_heap w b c c' el (0, 0) hheap
              refine ⟨⟨by rw [setRow_size]; exact (Array.getElem?_eq_some_iff.1 hheap).1, by rw [sp_objs]; exact hf2, fun f t hft => ?_⟩, _, ?_, (s5 _ c0 _ hk hvk).ev ev⟩
              · obtain ⟨rfl, rfl⟩ := hsp' f t hft; omega
              · simp only [World.cell?, hh1]; simpa using hnew
        unfold Oper.wp
        rw [hexec, hrun]
        exact hn _ _ _ _ ev hi' ((hr.ev ev).put hd hrel) (k own' hfr')
end
end Go.Tr
