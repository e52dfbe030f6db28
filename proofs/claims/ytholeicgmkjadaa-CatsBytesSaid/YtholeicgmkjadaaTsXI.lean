/- A machine over trees: contracts that were shown without names, taken over where names are told. -/
import Derived.Test.YtholeicgmkjadaaTsXG
set_option linter.unusedVariables false
set_option linter.unusedSimpArgs false
namespace Go.Ts
mutual
/-- A tree in which there are no names. -/
def dataT : T → Bool
  | .ptr _ _ | .ro _ _ | .aref .. | .map (some _) | .fn _ _ | .bnd _ _ => false
  | .sl _ (.tok _) _ => false
  | .sl _ _ xs => dataTs xs
  | .agg xs => dataTs xs
  | .tup xs => dataTs xs
  | _ => true
def dataTs : List T → Bool
  | [] => true
  | x :: xs => dataT x && dataTs xs
end
theorem dataTs_get : ∀ {xs : List T} {i : Nat} {x : T}, dataTs xs = true → xs[i]? = some x → dataT x = true
  | [], i, x, _, h => by simp at h
  | y :: xs, 0, x, hd, h => by
    simp at h; subst h; simp only [dataTs, Bool.and_eq_true] at hd; exact hd.1
  | y :: xs, i + 1, x, hd, h => by
    simp only [dataTs, Bool.and_eq_true] at hd; exact dataTs_get hd.2 (by simpa using h)
theorem dataT_cells {x c : T} {j : Nat} (hd : dataT x = true) (h : x.cells[j]? = some c) : dataT c = true := by
  cases x with
  | agg cs => exact dataTs_get (show dataTs cs = true by simpa [dataT] using hd) h
  | _ =>
    cases j with
    | zero => simp [T.cells] at h; subst h; exact hd
    | succ j => simp [T.cells] at h
theorem rel_data {w w' : World} {μ μ' : Gh} {σ σ' : St} {v : Value} {t : T} (h : Rel w μ σ v t) (hd : dataT t = true) (im : ∀ b o, Imm w μ σ b o → Imm w' μ' σ' b o ∧ w'.cell? ⟨b, o, none⟩ = w.cell? ⟨b, o, none⟩) : Rel w' μ' σ' v t := by
  induction h with
  | bool b => exact .bool b
  | int k n => exact .int k n
  | flt k n => exact .flt k n
  | cplx k m n => exact .cplx k m n
  | str s => exact .str s
  | nilp => exact .nilp
  | ptr i b p o h => simp [dataT] at hd
  | ro b p o x h r ih => simp [dataT] at hd
  | nilsl => exact .nilsl
  | slnil sz own h => cases own with
    | tok k => simp [dataT] at hd
    | no => exact .slnil _ _ trivial
    | full => exact .slnil _ _ trivial
  | slz a sz own h => cases own with
    | tok k => simp [dataT] at hd
    | no => exact .slz _ _ _ trivial
    | full => exact .slz _ _ _ trivial
  | sl b p cap sz own xs n hn hc ho hs h r ih =>
    have hx : dataTs xs = true := by cases own <;> simp_all [dataT]
    refine .sl b p cap sz own xs n hn hc ?_ hs (fun i x j c hx' hj => ?_) (fun i x j c v hx' hj hv => ?_)
    · cases own with
      | tok k => simp [dataT] at hd
      | no => trivial
      | full => exact ho
    · obtain ⟨hi, v, hv⟩ := h i x j c hx' hj
      exact ⟨(im _ _ hi).1, v, (im _ _ hi).2.trans hv⟩
    · exact ih i x j c v hx' hj ((im _ _ (h i x j c hx' hj).1).2.symm.trans hv) (dataT_cells (dataTs_get hx hx') hj)
  | aref i b p o n c sz cap h hc hcap hb => simp [dataT] at hd
  | mapnil => exact .mapnil
  | map i b p h => simp [dataT] at hd
  | fn f caps vs hn r ih => simp [dataT] at hd
  | bnd f caps vs hn r ih => simp [dataT] at hd
  | nilfn => exact .nilfn
  | agg cs vs hn r ih => exact .agg cs vs hn fun j c v h1 h2 => ih j c v h1 h2 (dataTs_get (by simpa [dataT] using hd) h1)
  | tup cs vs hn r ih => exact .tup cs vs hn fun j c v h1 h2 => ih j c v h1 h2 (dataTs_get (by simpa [dataT] using hd) h1)
  | raw v => exact .raw v

section
variable {P : Program} {σ : St}
/-- What belongs to others. -/
def offOf (μ : Gh) (σ : St) (b q : Nat) : Prop := σ.off b q ∨ (∃ i ob p, (i, ob) ∈ σ.L ∧ μ.loc i = some (b, p)) ∨ (∃ k f t, k ∈ σ.R ∧ μ.tok k = some (b, f, t) ∧ f ≤ q ∧ q < t)
theorem off_imm {w : World} {μ : Gh} {b o : Nat} (hx : Imm w μ σ b o) : Imm w μ ⟨[], [], offOf μ σ, none⟩ b o := by
  refine ⟨hx.lt, ?_, fun i ob p h1 => by simp at h1, fun k f t h1 => by cases h1⟩
  rintro (h1 | ⟨i, ob, p, h1, h2⟩ | ⟨k, f, t, h1, h2, h3⟩)
  · exact hx.off h1
  · exact hx.obj i ob p h1 h2
  · exact hx.room k f t h1 h2 h3
theorem off_inv {w : World} {μ : Gh} (hi : Inv w μ σ) : Inv w μ ⟨[], [], offOf μ σ, none⟩ := by
  refine ⟨fun i ts h1 => by simp at h1, fun i es h1 => by simp at h1, fun n m i j x y b p q h => by simp at h, fun k hk => absurd hk List.not_mem_nil, fun n m k l b f t g u h1 => by simp at h1, ?_, fun b o h1 => ?_, fun i ob b p h1 => by simp at h1⟩
  · obtain ⟨n, h1, _⟩ := hi.fin
    exact ⟨n, h1, fun m hm => by cases hm⟩
  · rcases h1 with h1 | ⟨i, ob, p, h1, h2⟩ | ⟨k, f, t, h1, h2, h3⟩
    · exact hi.offlt b o h1
    · exact hi.lts h1 h2
    · obtain ⟨b', f', t', r1, r2, r3⟩ := hi.room k h1
      rw [h2] at r1; injection r1 with r1; injection r1 with r1 r4; injection r4 with r4 r5
      subst r1; subst r4; subst r5
      obtain ⟨⟨c, e', r6, _⟩, _⟩ := r3 (by omega)
      exact (Array.getElem?_eq_some_iff.1 r6).1
theorem off_notlive {μ : Gh} {off : Nat → Nat → Prop} {nx : Option Nat} (b : Nat) : ¬ Live μ ⟨[], [], off, nx⟩ b := by
  rintro (⟨i, ob, p, h, _⟩ | ⟨k, f, t, h, _⟩) <;> simp at h

theorem told_inv {w w' : World} {μ μ' μ2 : Gh} {off : Nat → Nat → Prop} {R : List Nat} (hi : Inv w μ σ) (ev : Ev w μ ⟨[], [], offOf μ σ, none⟩ w' μ' ⟨[], R, off, none⟩) {σ2 : St} (hL : σ2.L = σ.L) (hloc : μ2.loc = μ.loc) (evB : Ev w μ σ w' μ2 σ2) :
    (∀ (i : Nat) (ts : List T), (i, .cells ts) ∈ σ2.L → ∃ b p c e, μ2.loc i = some (b, p) ∧ w'.heap[b]? = some (.cells c e (0, 0)) ∧ p + ts.length ≤ c.size ∧ CellsIn w' μ2 σ2 ts c p) ∧
    (∀ (i : Nat) (es : List (T × T)), (i, .map es) ∈ σ2.L → ∃ b en clock, μ2.loc i = some (b, 0) ∧ w'.heap[b]? = some (.map en clock) ∧ en.size = es.length ∧ ∀ (j : Nat) (k u : T) (e : MapEntry), es[j]? = some (k, u) → en[j]? = some e → Rel w' μ2 σ2 e.key k ∧ Rel w' μ2 σ2 e.val u) := by
  refine ⟨fun i us h1 => ?_, fun i es h1 => ?_⟩
  · rw [hL] at h1
    obtain ⟨b, p, c, e, h2, h3, h4, h5⟩ := hi.obj i us h1
    exact ⟨b, p, c, e, by rw [hloc]; exact h2, by rw [(ev.live b (hi.lts h1 h2) (off_notlive b)).2]; exact h3, h4, fun j t v h6 h7 => (h5 j t v h6 h7).ev evB⟩
  · rw [hL] at h1
    obtain ⟨b, c, e, h2, h3, h4, h5⟩ := hi.map i es h1
    exact ⟨b, c, e, by rw [hloc]; exact h2, by rw [(ev.live b (hi.lts h1 h2) (off_notlive b)).2]; exact h3, h4, fun j k u e' h6 h7 => let ⟨h8, h9⟩ := h5 j k u e' h6 h7; ⟨h8.ev evB, h9.ev evB⟩⟩

theorem Pure.told {f : FuncId} {ts : List T} {r : T} (h : Pure P f ts r) (hd : dataT r = true) : ACalls P f ts σ (fun u σ' => u = r ∧ σ' = σ) := by
  refine ⟨(h (fun _ _ => False)).1, fun vs w μ hi hs hr => ?_⟩
  have e0 : Ev0 w μ σ w μ ⟨[], [], offOf μ σ, none⟩ := ⟨fun _ _ h => h, fun _ _ h => h, fun _ _ h => h, fun b o hx => ⟨off_imm hx, rfl⟩⟩
  refine ((h (offOf μ σ)).2 vs w μ (off_inv hi) hs fun j t v h1 h2 => (hr j t v h1 h2).ev' e0).mono ?_
  rintro e w' ⟨v, t, σs, μ', rfl, ev, his', rv, rfl, rfl⟩
  have evB : Ev w μ σ w' μ σ := by
    refine ⟨ev.below, fun _ _ h => h, fun _ _ h => h, rfl, ev.shape, fun b hb hl => ⟨hl, (ev.live b hb (off_notlive b)).2⟩, fun b o hx => ?_⟩
    obtain ⟨h1, h2⟩ := ev.imm b o (off_imm hx)
    exact ⟨⟨h1.lt, hx.off, hx.obj, hx.room⟩, h2⟩
  obtain ⟨i1, i2⟩ := told_inv hi ev rfl rfl evB
  refine ⟨v, _, σ, μ, rfl, evB, ⟨i1, i2, hi.inj, fun k hk => ?_, hi.rinj, hi.fin, fun b o h1 => Nat.lt_of_lt_of_le (hi.offlt b o h1) ev.below.size, hi.offobj⟩, rel_data rv hd fun b o hx => ⟨⟨hx.lt, fun h1 => hx.off (.inl h1), fun i ob p h1 h2 => hx.off (.inr (.inl ⟨i, ob, p, h1, h2⟩)), fun k f t h1 h2 h3 => hx.off (.inr (.inr ⟨k, f, t, h1, h2, h3⟩))⟩, rfl⟩, rfl, rfl⟩
  obtain ⟨b, f, t, h1, h2, h3⟩ := hi.room k hk
  refine ⟨b, f, t, h1, h2, fun hlt => ?_⟩
  obtain ⟨⟨c, e, h4, h5⟩, h6⟩ := h3 hlt
  exact ⟨⟨c, e, by rw [(ev.live b (Array.getElem?_eq_some_iff.1 h4).1 (off_notlive b)).2]; exact h4, h5⟩, h6⟩

theorem Owns.told {f : FuncId} {ts : List T} {sz : Nat} {xs : List T} (h : Owns P f ts sz xs) (hd : dataTs xs = true) {m : Nat} (hnx : σ.nx = some m) : ACalls P f ts σ (fun u σ' => u = .sl sz (.tok m) xs ∧ σ' = σ.newT m) := by
  refine ⟨(h (fun _ _ => False)).1, fun vs w μ hi hs hr => ?_⟩
  have e0 : Ev0 w μ σ w μ ⟨[], [], offOf μ σ, none⟩ := ⟨fun _ _ h => h, fun _ _ h => h, fun _ _ h => h, fun b o hx => ⟨off_imm hx, rfl⟩⟩
  refine ((h (offOf μ σ)).2 vs w μ (off_inv hi) hs fun j t v h1 h2 => (hr j t v h1 h2).ev' e0).mono ?_
  rintro e w' ⟨v, t, σs, μ', rfl, ev, his', rv, k, rfl, rfl⟩
  obtain ⟨n, hn1, hn2⟩ := hi.fin
  obtain rfl := hn2 m hnx
  obtain ⟨hml, hmt⟩ := hn1 m (Nat.le_refl _)
  obtain ⟨b0, f0, t0, q1, q2, q3⟩ := his'.room k (by simp)
  have old : ∀ l, l ∈ σ.R → l ≠ m := by
    rintro l hl rfl
    obtain ⟨b', f', t', h1, _⟩ := hi.room l hl
    rw [hmt] at h1; cases h1
  have lv0 : f0 < t0 → Live μ' ⟨[], [k], offOf μ σ, none⟩ b0 := fun h => .inr ⟨k, f0, t0, by simp, q1, h⟩
  have foreign : ∀ b, b < w.heap.size → f0 < t0 → b ≠ b0 := by
    rintro b hb hlt rfl
    exact (ev.live b hb (off_notlive b)).1 (lv0 hlt)
  have roomlt : ∀ l b f t, l ∈ σ.R → μ.tok l = some (b, f, t) → f < t → b < w.heap.size := by
    intro l b f t h1 h2 h3
    obtain ⟨b', f', t', r1, r2, r3⟩ := hi.room l h1
    rw [h2] at r1; injection r1 with r1; injection r1 with r1 r4; injection r4 with r4 r5
    subst r1; subst r4; subst r5
    obtain ⟨⟨c, e', r6, _⟩, _⟩ := r3 h3
    exact (Array.getElem?_eq_some_iff.1 r6).1
  have evB : Ev w μ σ w' (μ.addT m (b0, f0, t0)) (σ.newT m) := by
    refine ⟨ev.below, fun _ _ h => h, addT_mono hmt, rfl, ev.shape, fun b hb hl => ⟨?_, (ev.live b hb (off_notlive b)).2⟩, fun b o hx => ?_⟩
    · rintro (h1 | ⟨l, f, t, h1, h2, h3⟩)
      · exact hl (.inl h1)
      · rcases List.mem_cons.1 h1 with rfl | h1
        · rw [addT_same] at h2; injection h2 with h2; injection h2 with h2 h4; injection h4 with h4 h5
          subst h2; subst h4; subst h5
          exact foreign _ hb h3 rfl
        · rw [addT_ne _ (old l h1)] at h2; exact hl (.inr ⟨l, f, t, h1, h2, h3⟩)
    · obtain ⟨h1, h2⟩ := ev.imm b o (off_imm hx)
      refine ⟨⟨h1.lt, hx.off, hx.obj, fun l f t h3 h4 h5 => ?_⟩, h2⟩
      rcases List.mem_cons.1 h3 with rfl | h3
      · rw [addT_same] at h4; injection h4 with h4; injection h4 with h4 h6; injection h6 with h6 h7
        subst h4; subst h6; subst h7
        exact h1.room k _ _ (by simp) q1 h5
      · rw [addT_ne _ (old l h3)] at h4; exact hx.room l f t h3 h4 h5
  obtain ⟨i1, i2⟩ := told_inv hi ev (σ2 := σ.newT m) (μ2 := μ.addT m (b0, f0, t0)) rfl rfl evB
  have im : ∀ b o, Imm w' μ' ⟨[], [k], offOf μ σ, none⟩ b o → Imm w' (μ.addT m (b0, f0, t0)) (σ.newT m) b o := by
    intro b o hx
    refine ⟨hx.lt, fun h1 => hx.off (.inl h1), fun i ob p h1 h2 => hx.off (.inr (.inl ⟨i, ob, p, h1, h2⟩)), fun l f t h1 h2 h3 => ?_⟩
    rcases List.mem_cons.1 h1 with rfl | h1
    · rw [addT_same] at h2; injection h2 with h2; injection h2 with h2 h6; injection h6 with h6 h7
      subst h2; subst h6; subst h7
      exact hx.room k _ _ (by simp) q1 h3
    · rw [addT_ne _ (old l h1)] at h2; exact hx.off (.inr (.inr ⟨l, f, t, h1, h2, h3⟩))
  refine ⟨v, _, σ.newT m, μ.addT m (b0, f0, t0), rfl, evB, ⟨i1, i2, hi.inj, fun l hl => ?_, fun n1 m1 l l' b f t g u h1 h2 h3 h4 h5 h6 => ?_, ⟨m + 1, fun j hj => ⟨(hn1 j (by omega)).1, by rw [addT_ne _ (by omega)]; exact (hn1 j (by omega)).2⟩, fun q hq => by simp only [St.newT, Option.map_eq_some_iff] at hq; obtain ⟨_, _, hq⟩ := hq; exact hq.symm⟩, fun b o h1 => Nat.lt_of_lt_of_le (hi.offlt b o h1) ev.below.size, hi.offobj⟩, ?_, rfl, rfl⟩
  · rcases List.mem_cons.1 hl with rfl | hl
    · refine ⟨b0, f0, t0, addT_same _ _, q2, fun hlt => ?_⟩
      obtain ⟨h4, h5, h6⟩ := q3 hlt
      refine ⟨h4, fun i ob p h7 h8 => ?_, fun o h7 h8 h9 => h6 o h7 h8 (.inl h9)⟩
      exact foreign b0 (hi.lts h7 h8) hlt rfl
    · obtain ⟨b, f, t, h1, h2, h3⟩ := hi.room l hl
      refine ⟨b, f, t, by rw [addT_ne _ (old l hl)]; exact h1, h2, fun hlt => ?_⟩
      obtain ⟨⟨c, e, h4, h5⟩, h6⟩ := h3 hlt
      exact ⟨⟨c, e, by rw [(ev.live b (Array.getElem?_eq_some_iff.1 h4).1 (off_notlive b)).2]; exact h4, h5⟩, h6⟩
  · have h1' : (m :: σ.R)[n1]? = some l := h1
    have h2' : (m :: σ.R)[m1]? = some l' := h2
    cases n1 with
    | zero =>
      simp at h1'; subst h1'
      rw [addT_same] at h3; injection h3 with h3; injection h3 with h3 h7; injection h7 with h7 h8
      subst h3; subst h7; subst h8
      cases m1 with
      | zero => rfl
      | succ m1 =>
        have e2 : σ.R[m1]? = some l' := by simpa using h2'
        have hm2 := List.mem_of_getElem? e2
        rw [addT_ne _ (old l' hm2)] at h4
        exact absurd rfl (foreign _ (roomlt l' _ _ _ hm2 h4 h6) h5)
    | succ n1 =>
      have e1 : σ.R[n1]? = some l := by simpa using h1'
      have hm1 := List.mem_of_getElem? e1
      rw [addT_ne _ (old l hm1)] at h3
      cases m1 with
      | zero =>
        simp at h2'; subst h2'
        rw [addT_same] at h4; injection h4 with h4; injection h4 with h4 h7; injection h7 with h7 h8
        subst h4; subst h7; subst h8
        exact absurd rfl (foreign _ (roomlt l _ _ _ hm1 h3 h5) h6)
      | succ m1 =>
        have e2 : σ.R[m1]? = some l' := by simpa using h2'
        rw [addT_ne _ (old l' (List.mem_of_getElem? e2))] at h4
        rw [hi.rinj n1 m1 l l' b f t g u e1 e2 h3 h4 h5 h6]
  · -- the slice
    have hown : ∀ b f t, OwnOK μ' (.tok k) b f t → OwnOK (μ.addT m (b0, f0, t0)) (.tok m) b f t := by
      rintro b f t ⟨x, h1, h2⟩
      rw [q1] at h1; injection h1 with h1; subst h1
      exact ⟨_, addT_same _ _, h2⟩
    have hownn : OwnNil μ' (.tok k) → OwnNil (μ.addT m (b0, f0, t0)) (.tok m) := by
      rintro ⟨x, h1, h2⟩
      rw [q1] at h1; injection h1 with h1; subst h1
      exact ⟨_, addT_same _ _, h2⟩
    cases rv with
    | slnil sz own h0 => exact .slnil _ _ (hownn h0)
    | slz a sz own h0 => exact .slz _ _ _ (hownn h0)
    | sl b p cap sz own xs n hn hc ho hs h0 r0 =>
      refine .sl b p cap sz _ xs n hn hc (hown _ _ _ ho) hs (fun i x j c hx hj => ?_) (fun i x j c v hx hj hv => ?_)
      · obtain ⟨hi', v, hv⟩ := h0 i x j c hx hj
        exact ⟨im _ _ hi', v, hv⟩
      · exact rel_data (r0 i x j c v hx hj hv) (dataT_cells (dataTs_get hd hx) hj) fun b o hx => ⟨im b o hx, rfl⟩

theorem HCov.newT {h : HS} (c : HCov σ h) : HCov (σ.newT h.nx) ⟨h.L, h.R.set h.nx (), h.nx + 1⟩ := by
  refine ⟨c.th, c.mp, fun l u hl => ?_, by simp [St.newT, c.nx]⟩
  rcases Tr.get_set (show (h.R.set h.nx ()).get l = some u from hl) with ⟨q1, _⟩ | ⟨q1, q2⟩
  · subst q1; exact List.mem_cons_self
  · exact List.mem_cons_of_mem _ (c.room l u q2)
/-- A contract in the machine's table: a pure answer. -/
def knowP (r : T) (h : HS) : Option (T × HS) := cond (dataT r) (some (r, h)) none
theorem knowP_ok {f : FuncId} {ts : List T} {r t : T} {h h' : HS} (hp : Pure P f ts r) (hk : knowP r h = some (t, h')) (c : HCov σ h) : ACalls P f ts σ (fun u σ' => u = t ∧ HCov σ' h') := by
  unfold knowP at hk
  cases hd : dataT r with
  | false => rw [hd] at hk; cases hk
  | true =>
    rw [hd, cond_true] at hk
    injection hk with hk; injection hk with h1 h2; subst h1; subst h2
    exact (hp.told hd).mono fun u σ' ⟨h1, h2⟩ => ⟨h1, h2 ▸ c⟩
/-- The same: a slice of its own. -/
def knowO (sz : Nat) (xs : List T) (h : HS) : Option (T × HS) := cond (dataTs xs) (some (.sl sz (.tok h.nx) xs, ⟨h.L, h.R.set h.nx (), h.nx + 1⟩)) none
theorem knowO_ok {f : FuncId} {ts : List T} {sz : Nat} {xs : List T} {t : T} {h h' : HS} (hp : Owns P f ts sz xs) (hk : knowO sz xs h = some (t, h')) (c : HCov σ h) : ACalls P f ts σ (fun u σ' => u = t ∧ HCov σ' h') := by
  unfold knowO at hk
  cases hd : dataTs xs with
  | false => rw [hd] at hk; cases hk
  | true =>
    rw [hd, cond_true] at hk
    injection hk with hk; injection hk with h1 h2; subst h1; subst h2
    exact (hp.told hd c.nx).mono fun u σ' ⟨h1, h2⟩ => ⟨h1, h2 ▸ c.newT⟩
end
end Go.Ts
