/- Part of the proof of the law Call1Takes: the texts TsXI, XK1, XM2, TsXJ, P4, P8, Q3, Q5, Q6, QV4. No conditions. -/
import Derived.Test.YthfgocinlbogeaaCall1TakesE
import Derived.KernelRfl
import Derived.Laws.StructEq
set_option linter.unusedSimpArgs false
set_option linter.unusedVariables false
set_option linter.unusedVariables false
set_option linter.unusedSimpArgs false
namespace Go.Ts
mutual
def dataT : T → Bool
  | .ptr _ _ | .ro _ _ | .aref .. | .map (some _) | .mro _ _ | .fn _ _ | .bnd _ _ => false
  | .sl _ (.tok _) _ => false
  | .sl _ _ xs => dataTs xs
  | .agg xs => dataTs xs
  | .tup xs => dataTs xs
  | _ => true
def dataTs : List T → Bool
  | [] => true
  | x :: xs => dataT x && dataTs xs
end
theorem dataTs_get : ∀ {xs : List T} {i : Nat} {x : T}, dataTs xs = true → xs[i]? = some x → dataT x = true
  | [], i, x, _, h => by simp at h
  | y :: xs, 0, x, hd, h => by
    simp at h; subst h; simp only [dataTs, Bool.and_eq_true] at hd; exact hd.1
  | y :: xs, i + 1, x, hd, h => by
    simp only [dataTs, Bool.and_eq_true] at hd; exact dataTs_get hd.2 (by simpa using h)
theorem dataT_cells {x c : T} {j : Nat} (hd : dataT x = true) (h : x.cells[j]? = some c) : dataT c = true := by
  cases x with
  | agg cs => exact dataTs_get (show dataTs cs = true by simpa [dataT] using hd) h
  | _ =>
    cases j with
    | zero => simp [T.cells] at h; subst h; exact hd
    | succ j => simp [T.cells] at h
theorem rel_data {w w' : World} {μ μ' : Gh} {σ σ' : St} {v : Value} {t : T} (h : Rel w μ σ v t) (hd : dataT t = true) (im : ∀ b o, Imm w μ σ b o → Imm w' μ' σ' b o ∧ w'.cell? ⟨b, o, none⟩ = w.cell? ⟨b, o, none⟩) : Rel w' μ' σ' v t := by
  induction h with
  | bool b => exact .bool b
  | int k n => exact .int k n
  | flt k n => exact .flt k n
  | cplx k m n => exact .cplx k m n
  | str s => exact .str s
  | nilp => exact .nilp
  | ptr i b p o h => simp [dataT] at hd
  | ro b p o x h r ih => simp [dataT] at hd
  | nilsl => exact .nilsl
  | slnil sz own h => cases own with
    | tok k => simp [dataT] at hd
    | no => exact .slnil _ _ trivial
    | full => exact .slnil _ _ trivial
  | slz a sz own h => cases own with
    | tok k => simp [dataT] at hd
    | no => exact .slz _ _ _ trivial
    | full => exact .slz _ _ _ trivial
  | sl b p cap sz own xs n hn hc ho hs h r ih =>
    have hx : dataTs xs = true := by cases own <;> simp_all [dataT]
    refine .sl b p cap sz own xs n hn hc ?_ hs (fun i x j c hx' hj => ?_) (fun i x j c v hx' hj hv => ?_)
    · cases own with
      | tok k => simp [dataT] at hd
      | no => trivial
      | full => exact ho
    · obtain ⟨hi, v, hv⟩ := h i x j c hx' hj
      exact ⟨(im _ _ hi).1, v, (im _ _ hi).2.trans hv⟩
    · exact ih i x j c v hx' hj ((im _ _ (h i x j c hx' hj).1).2.symm.trans hv) (dataT_cells (dataTs_get hx hx') hj)
  | aref i b p o n c sz cap h hc hcap hb => simp [dataT] at hd
  | mapnil => exact .mapnil
  | map i b p h => simp [dataT] at hd
  | mro b ks us en cl h hs hu hb hi rk rv ihk ihv => simp [dataT] at hd
  | fn f caps vs hn r ih => simp [dataT] at hd
  | bnd f caps vs hn r ih => simp [dataT] at hd
  | nilfn => exact .nilfn
  | agg cs vs hn r ih => exact .agg cs vs hn fun j c v h1 h2 => ih j c v h1 h2 (dataTs_get (by simpa [dataT] using hd) h1)
  | tup cs vs hn r ih => exact .tup cs vs hn fun j c v h1 h2 => ih j c v h1 h2 (dataTs_get (by simpa [dataT] using hd) h1)
  | raw v => exact .raw v

section
variable {P : Program} {σ : St}
def offOf (μ : Gh) (σ : St) (b q : Nat) : Prop := σ.off b q ∨ (∃ i ob p, (i, ob) ∈ σ.L ∧ μ.loc i = some (b, p)) ∨ (∃ k f t, k ∈ σ.R ∧ μ.tok k = some (b, f, t) ∧ f ≤ q ∧ q < t)
theorem off_imm {w : World} {μ : Gh} {b o : Nat} (hx : Imm w μ σ b o) : Imm w μ ⟨[], [], offOf μ σ, none⟩ b o := by
  refine ⟨hx.lt, ?_, fun i ob p h1 => by simp at h1, fun k f t h1 => by cases h1⟩
  rintro (h1 | ⟨i, ob, p, h1, h2⟩ | ⟨k, f, t, h1, h2, h3⟩)
  · exact hx.off h1
  · exact hx.obj i ob p h1 h2
  · exact hx.room k f t h1 h2 h3
theorem off_inv {w : World} {μ : Gh} (hi : Inv w μ σ) : Inv w μ ⟨[], [], offOf μ σ, none⟩ := by
  refine ⟨fun i ts h1 => by simp at h1, fun i es h1 => by simp at h1, fun n m i j x y b p q h => by simp at h, fun k hk => absurd hk List.not_mem_nil, fun n m k l b f t g u h1 => by simp at h1, ?_, fun b o h1 => ?_, fun i ob b p h1 => by simp at h1⟩
  · obtain ⟨n, h1, _⟩ := hi.fin
    exact ⟨n, h1, fun m hm => by cases hm⟩
  · rcases h1 with h1 | ⟨i, ob, p, h1, h2⟩ | ⟨k, f, t, h1, h2, h3⟩
    · exact hi.offlt b o h1
    · exact hi.lts h1 h2
    · obtain ⟨b', f', t', r1, r2, r3⟩ := hi.room k h1
      rw [h2] at r1; injection r1 with r1; injection r1 with r1 r4; injection r4 with r4 r5
      subst r1; subst r4; subst r5
      obtain ⟨⟨c, e', r6, _⟩, _⟩ := r3 (by omega)
      exact (Array.getElem?_eq_some_iff.1 r6).1
theorem off_notlive {μ : Gh} {off : Nat → Nat → Prop} {nx : Option Nat} (b : Nat) : ¬ Live μ ⟨[], [], off, nx⟩ b := by
  rintro (⟨i, ob, p, h, _⟩ | ⟨k, f, t, h, _⟩) <;> simp at h

theorem told_inv {w w' : World} {μ μ' μ2 : Gh} {off : Nat → Nat → Prop} {R : List Nat} (hi : Inv w μ σ) (ev : Ev w μ ⟨[], [], offOf μ σ, none⟩ w' μ' ⟨[], R, off, none⟩) {σ2 : St} (hL : σ2.L = σ.L) (hloc : μ2.loc = μ.loc) (evB : Ev w μ σ w' μ2 σ2) :
    (∀ (i : Nat) (ts : List T), (i, .cells ts) ∈ σ2.L → ∃ b p c e, μ2.loc i = some (b, p) ∧ w'.heap[b]? = some (.cells c e (0, 0)) ∧ p + ts.length ≤ c.size ∧ CellsIn w' μ2 σ2 ts c p) ∧
    (∀ (i : Nat) (es : List (T × T)), (i, .map es) ∈ σ2.L → ∃ b en clock, μ2.loc i = some (b, 0) ∧ w'.heap[b]? = some (.map en clock) ∧ (en.size = es.length ∧ Born en clock) ∧ ∀ (j : Nat) (k u : T) (e : MapEntry), es[j]? = some (k, u) → en[j]? = some e → Rel w' μ2 σ2 e.key k ∧ Rel w' μ2 σ2 e.val u) := by
  refine ⟨fun i us h1 => ?_, fun i es h1 => ?_⟩
  · rw [hL] at h1
    obtain ⟨b, p, c, e, h2, h3, h4, h5⟩ := hi.obj i us h1
    exact ⟨b, p, c, e, by rw [hloc]; exact h2, by rw [(ev.live b (hi.lts h1 h2) (off_notlive b)).2]; exact h3, h4, fun j t v h6 h7 => (h5 j t v h6 h7).ev evB⟩
  · rw [hL] at h1
    obtain ⟨b, c, e, h2, h3, h4, h5⟩ := hi.map i es h1
    exact ⟨b, c, e, by rw [hloc]; exact h2, by rw [(ev.live b (hi.lts h1 h2) (off_notlive b)).2]; exact h3, h4, fun j k u e' h6 h7 => let ⟨h8, h9⟩ := h5 j k u e' h6 h7; ⟨h8.ev evB, h9.ev evB⟩⟩

theorem Pure.told {f : FuncId} {ts : List T} {r : T} (h : Pure P f ts r) (hd : dataT r = true) : ACalls P f ts σ (fun u σ' => u = r ∧ σ' = σ) := by
  refine ⟨(h (fun _ _ => False)).1, fun vs w μ hi hs hr => ?_⟩
  have e0 : Ev0 w μ σ w μ ⟨[], [], offOf μ σ, none⟩ := ⟨fun _ _ h => h, fun _ _ h => h, fun _ _ h => h, fun b o hx => ⟨off_imm hx, rfl⟩, fun _ _ _ h _ => h⟩
  refine ((h (offOf μ σ)).2 vs w μ (off_inv hi) hs fun j t v h1 h2 => (hr j t v h1 h2).ev' e0).mono ?_
  rintro e w' ⟨v, t, σs, μ', rfl, ev, his', rv, rfl, rfl⟩
  have evB : Ev w μ σ w' μ σ := by
    refine ⟨ev.below, fun _ _ h => h, fun _ _ h => h, rfl, ev.shape, fun b hb hl => ⟨hl, (ev.live b hb (off_notlive b)).2⟩, fun b o hx => ?_⟩
    obtain ⟨h1, h2⟩ := ev.imm b o (off_imm hx)
    exact ⟨⟨h1.lt, hx.off, hx.obj, hx.room⟩, h2⟩
  obtain ⟨i1, i2⟩ := told_inv hi ev rfl rfl evB
  refine ⟨v, _, σ, μ, rfl, evB, ⟨i1, i2, hi.inj, fun k hk => ?_, hi.rinj, hi.fin, fun b o h1 => Nat.lt_of_lt_of_le (hi.offlt b o h1) ev.below.size, hi.offobj⟩, rel_data rv hd fun b o hx => ⟨⟨hx.lt, fun h1 => hx.off (.inl h1), fun i ob p h1 h2 => hx.off (.inr (.inl ⟨i, ob, p, h1, h2⟩)), fun k f t h1 h2 h3 => hx.off (.inr (.inr ⟨k, f, t, h1, h2, h3⟩))⟩, rfl⟩, rfl, rfl⟩
  obtain ⟨b, f, t, h1, h2, h3⟩ := hi.room k hk
  refine ⟨b, f, t, h1, h2, fun hlt => ?_⟩
  obtain ⟨⟨c, e, h4, h5⟩, h6⟩ := h3 hlt
  exact ⟨⟨c, e, by rw [(ev.live b (Array.getElem?_eq_some_iff.1 h4).1 (off_notlive b)).2]; exact h4, h5⟩, h6⟩

theorem Owns.told {f : FuncId} {ts : List T} {sz : Nat} {xs : List T} (h : Owns P f ts sz xs) (hd : dataTs xs = true) {m : Nat} (hnx : σ.nx = some m) : ACalls P f ts σ (fun u σ' => u = .sl sz (.tok m) xs ∧ σ' = σ.newT m) := by
  refine ⟨(h (fun _ _ => False)).1, fun vs w μ hi hs hr => ?_⟩
  have e0 : Ev0 w μ σ w μ ⟨[], [], offOf μ σ, none⟩ := ⟨fun _ _ h => h, fun _ _ h => h, fun _ _ h => h, fun b o hx => ⟨off_imm hx, rfl⟩, fun _ _ _ h _ => h⟩
  refine ((h (offOf μ σ)).2 vs w μ (off_inv hi) hs fun j t v h1 h2 => (hr j t v h1 h2).ev' e0).mono ?_
  rintro e w' ⟨v, t, σs, μ', rfl, ev, his', rv, k, rfl, rfl⟩
  obtain ⟨n, hn1, hn2⟩ := hi.fin
  obtain rfl := hn2 m hnx
  obtain ⟨hml, hmt⟩ := hn1 m (Nat.le_refl _)
  obtain ⟨b0, f0, t0, q1, q2, q3⟩ := his'.room k (by simp)
  have old : ∀ l, l ∈ σ.R → l ≠ m := by
    rintro l hl rfl
    obtain ⟨b', f', t', h1, _⟩ := hi.room l hl
    rw [hmt] at h1; cases h1
  have lv0 : f0 < t0 → Live μ' ⟨[], [k], offOf μ σ, none⟩ b0 := fun h => .inr ⟨k, f0, t0, by simp, q1, h⟩
  have foreign : ∀ b, b < w.heap.size → f0 < t0 → b ≠ b0 := by
    rintro b hb hlt rfl
    exact (ev.live b hb (off_notlive b)).1 (lv0 hlt)
  have roomlt : ∀ l b f t, l ∈ σ.R → μ.tok l = some (b, f, t) → f < t → b < w.heap.size := by
    intro l b f t h1 h2 h3
    obtain ⟨b', f', t', r1, r2, r3⟩ := hi.room l h1
    rw [h2] at r1; injection r1 with r1; injection r1 with r1 r4; injection r4 with r4 r5
    subst r1; subst r4; subst r5
    obtain ⟨⟨c, e', r6, _⟩, _⟩ := r3 h3
    exact (Array.getElem?_eq_some_iff.1 r6).1
  have evB : Ev w μ σ w' (μ.addT m (b0, f0, t0)) (σ.newT m) := by
    refine ⟨ev.below, fun _ _ h => h, addT_mono hmt, rfl, ev.shape, fun b hb hl => ⟨?_, (ev.live b hb (off_notlive b)).2⟩, fun b o hx => ?_⟩
    · rintro (h1 | ⟨l, f, t, h1, h2, h3⟩)
      · exact hl (.inl h1)
      · rcases List.mem_cons.1 h1 with rfl | h1
        · rw [Av] at h2; injection h2 with h2; injection h2 with h2 h4; injection h4 with h4 h5
          subst h2; subst h4; subst h5
          exact foreign _ hb h3 rfl
        · rw [Ax _ (old l h1)] at h2; exact hl (.inr ⟨l, f, t, h1, h2, h3⟩)
    · obtain ⟨h1, h2⟩ := ev.imm b o (off_imm hx)
      refine ⟨⟨h1.lt, hx.off, hx.obj, fun l f t h3 h4 h5 => ?_⟩, h2⟩
      rcases List.mem_cons.1 h3 with rfl | h3
      · rw [Av] at h4; injection h4 with h4; injection h4 with h4 h6; injection h6 with h6 h7
        subst h4; subst h6; subst h7
        exact h1.room k _ _ (by simp) q1 h5
      · rw [Ax _ (old l h3)] at h4; exact hx.room l f t h3 h4 h5
  obtain ⟨i1, i2⟩ := told_inv hi ev (σ2 := σ.newT m) (μ2 := μ.addT m (b0, f0, t0)) rfl rfl evB
  have im : ∀ b o, Imm w' μ' ⟨[], [k], offOf μ σ, none⟩ b o → Imm w' (μ.addT m (b0, f0, t0)) (σ.newT m) b o := by
    intro b o hx
    refine ⟨hx.lt, fun h1 => hx.off (.inl h1), fun i ob p h1 h2 => hx.off (.inr (.inl ⟨i, ob, p, h1, h2⟩)), fun l f t h1 h2 h3 => ?_⟩
    rcases List.mem_cons.1 h1 with rfl | h1
    · rw [Av] at h2; injection h2 with h2; injection h2 with h2 h6; injection h6 with h6 h7
      subst h2; subst h6; subst h7
      exact hx.room k _ _ (by simp) q1 h3
    · rw [Ax _ (old l h1)] at h2; exact hx.off (.inr (.inr ⟨l, f, t, h1, h2, h3⟩))
  refine ⟨v, _, σ.newT m, μ.addT m (b0, f0, t0), rfl, evB, ⟨i1, i2, hi.inj, fun l hl => ?_, fun n1 m1 l l' b f t g u h1 h2 h3 h4 h5 h6 => ?_, ⟨m + 1, fun j hj => ⟨(hn1 j (by omega)).1, by rw [Ax _ (by omega)]; exact (hn1 j (by omega)).2⟩, fun q hq => by simp only [St.newT, Option.map_eq_some_iff] at hq; obtain ⟨_, _, hq⟩ := hq; exact hq.symm⟩, fun b o h1 => Nat.lt_of_lt_of_le (hi.offlt b o h1) ev.below.size, hi.offobj⟩, ?_, rfl, rfl⟩
  · rcases List.mem_cons.1 hl with rfl | hl
    · refine ⟨b0, f0, t0, Av _ _, q2, fun hlt => ?_⟩
      obtain ⟨h4, h5, h6⟩ := q3 hlt
      refine ⟨h4, fun i ob p h7 h8 => ?_, fun o h7 h8 h9 => h6 o h7 h8 (.inl h9)⟩
      exact foreign b0 (hi.lts h7 h8) hlt rfl
    · obtain ⟨b, f, t, h1, h2, h3⟩ := hi.room l hl
      refine ⟨b, f, t, by rw [Ax _ (old l hl)]; exact h1, h2, fun hlt => ?_⟩
      obtain ⟨⟨c, e, h4, h5⟩, h6⟩ := h3 hlt
      exact ⟨⟨c, e, by rw [(ev.live b (Array.getElem?_eq_some_iff.1 h4).1 (off_notlive b)).2]; exact h4, h5⟩, h6⟩
  · have h1' : (m :: σ.R)[n1]? = some l := h1
    have h2' : (m :: σ.R)[m1]? = some l' := h2
    cases n1 with
    | zero =>
      simp at h1'; subst h1'
      rw [Av] at h3; injection h3 with h3; injection h3 with h3 h7; injection h7 with h7 h8
      subst h3; subst h7; subst h8
      cases m1 with
      | zero => rfl
      | succ m1 =>
        have e2 : σ.R[m1]? = some l' := by simpa using h2'
        have hm2 := List.mem_of_getElem? e2
        rw [Ax _ (old l' hm2)] at h4
        exact absurd rfl (foreign _ (roomlt l' _ _ _ hm2 h4 h6) h5)
    | succ n1 =>
      have e1 : σ.R[n1]? = some l := by simpa using h1'
      have hm1 := List.mem_of_getElem? e1
      rw [Ax _ (old l hm1)] at h3
      cases m1 with
      | zero =>
        simp at h2'; subst h2'
        rw [Av] at h4; injection h4 with h4; injection h4 with h4 h7; injection h7 with h7 h8
        subst h4; subst h7; subst h8
        exact absurd rfl (foreign _ (roomlt l _ _ _ hm1 h3 h5) h6)
      | succ m1 =>
        have e2 : σ.R[m1]? = some l' := by simpa using h2'
        rw [Ax _ (old l' (List.mem_of_getElem? e2))] at h4
        rw [hi.rinj n1 m1 l l' b f t g u e1 e2 h3 h4 h5 h6]
  · -- the slice
    have hown : ∀ b f t, OwnOK μ' (.tok k) b f t → OwnOK (μ.addT m (b0, f0, t0)) (.tok m) b f t := by
      rintro b f t ⟨x, h1, h2⟩
      rw [q1] at h1; injection h1 with h1; subst h1
      exact ⟨_, Av _ _, h2⟩
    have hownn : OwnNil μ' (.tok k) → OwnNil (μ.addT m (b0, f0, t0)) (.tok m) := by
      rintro ⟨x, h1, h2⟩
      rw [q1] at h1; injection h1 with h1; subst h1
      exact ⟨_, Av _ _, h2⟩
    cases rv with
    | slnil sz own h0 => exact .slnil _ _ (hownn h0)
    | slz a sz own h0 => exact .slz _ _ _ (hownn h0)
    | sl b p cap sz own xs n hn hc ho hs h0 r0 =>
      refine .sl b p cap sz _ xs n hn hc (hown _ _ _ ho) hs (fun i x j c hx hj => ?_) (fun i x j c v hx hj hv => ?_)
      · obtain ⟨hi', v, hv⟩ := h0 i x j c hx hj
        exact ⟨im _ _ hi', v, hv⟩
      · exact rel_data (r0 i x j c v hx hj hv) (dataT_cells (dataTs_get hd hx) hj) fun b o hx => ⟨im b o hx, rfl⟩

theorem HCov.newT {h : HS} (c : HCov σ h) : HCov (σ.newT h.nx) ⟨h.L, h.R.set h.nx (), h.nx + 1⟩ := by
  refine ⟨c.th, c.mp, fun l u hl => ?_, by simp [St.newT, c.nx]⟩
  rcases Tr.get_set (show (h.R.set h.nx ()).get l = some u from hl) with ⟨q1, _⟩ | ⟨q1, q2⟩
  · subst q1; exact List.mem_cons_self
  · exact List.mem_cons_of_mem _ (c.room l u q2)
def knowO (sz : Nat) (xs : List T) (h : HS) : Option (T × HS) := cond (dataTs xs) (some (.sl sz (.tok h.nx) xs, ⟨h.L, h.R.set h.nx (), h.nx + 1⟩)) none
theorem knowO_ok {f : FuncId} {ts : List T} {sz : Nat} {xs : List T} {t : T} {h h' : HS} (hp : Owns P f ts sz xs) (hk : knowO sz xs h = some (t, h')) (c : HCov σ h) : ACalls P f ts σ (fun u σ' => u = t ∧ HCov σ' h') := by
  unfold knowO at hk
  cases hd : dataTs xs with
  | false => rw [hd] at hk; cases hk
  | true =>
    rw [hd, cond_true] at hk
    injection hk with hk; injection hk with h1 h2; subst h1; subst h2
    exact (hp.told hd c.nx).mono fun u σ' ⟨h1, h2⟩ => ⟨h1, h2 ▸ c.newT⟩
end
end Go.Ts
set_option maxHeartbeats 4000000
namespace Go.Proofs.Ythfgocinlbogeaa
open Go.Ts
attribute [local irreducible] Go.Ts.AW Go.Ts.AOps Go.Ts.AL Go.Ts.AOp Go.Ts.ACalls Go.Ts.DL
def growK (ts : List T) (h : HS) : Option (T × HS) := match ts with
  | [.nilsl, .int .i64 n] => cond (decide (0 ≤ n) && decide (n ≤ 4294967296)) (knowO 1 [] h) none
  | _ => none
theorem growK_ok : ∀ ts h t h', growK ts h = some (t, h') → ∀ σ, HCov σ h → ACalls Try.prog 93 ts σ (fun u σ' => u = t ∧ HCov σ' h') := by
  intro ts h t h' hk σ c
  unfold growK at hk
  split at hk
  · rename_i n
    revert hk
    cases hc : (decide (0 ≤ n) && decide (n ≤ 4294967296)) with
    | false => intro hk; cases hk
    | true =>
      intro hk
      rw [Bool.and_eq_true, decide_eq_true_eq, decide_eq_true_eq] at hc
      exact knowO_ok (grow_nil hc) hk c
  · cases hk
theorem clone_e {own : Own} : Owns Try.prog 44 [.sl 1 own []] 1 [] := clone_b (b := []) rfl (by simp)
def cloneK (ts : List T) (h : HS) : Option (T × HS) := match ts with
  | [.sl 1 _ []] => knowO 1 [] h
  | _ => none
theorem cloneK_ok : ∀ ts h t h', cloneK ts h = some (t, h') → ∀ σ, HCov σ h → ACalls Try.prog 44 ts σ (fun u σ' => u = t ∧ HCov σ' h') := by
  intro ts h t h' hk σ c
  unfold cloneK at hk
  split at hk
  · exact knowO_ok clone_e hk c
  · cases hk
end Go.Proofs.Ythfgocinlbogeaa
namespace Go.Proofs.Ythfgocinlbogeaa
open Go.Ts
def kn2 (g : FuncId) : Option (List T → HS → Option (T × HS)) := cond (Nat.beq g 93) (some growK) (cond (Nat.beq g 44) (some cloneK) none)
theorem kn2_ok : ∀ g f, kn2 g = some f → ∀ ts h t h', f ts h = some (t, h') → ∀ σ, HCov σ h → ACalls Try.prog g ts σ (fun u σ' => u = t ∧ HCov σ' h') := by
  intro g f hg
  unfold kn2 at hg
  by_cases e : g = 93
  · subst e; simp only [Nat.beq_refl, cond_true] at hg; injection hg with hg; subst hg; exact growK_ok
  · rw [beqF e, cond_false] at hg
    by_cases e : g = 44
    · subst e; simp only [Nat.beq_refl, cond_true] at hg; injection hg with hg; subst hg; exact cloneK_ok
    · rw [beqF e] at hg; cases hg
end Go.Proofs.Ythfgocinlbogeaa
set_option linter.unusedVariables false
set_option linter.unusedSimpArgs false
namespace Go.Ts
section
variable {P : Program} {M : Mach}
theorem HCov.none {σ : St} {h : HS} (c : HCov σ h) : HCov σ ⟨.leaf, .leaf, h.nx⟩ :=
  ⟨fun i n zn z ov hi => by simp [Tr.get] at hi, fun i es hi => by simp [Tr.get] at hi, fun k u hk => by simp [Tr.get] at hk, c.nx⟩
theorem cold_pure {f nx : Nat} (hc : ∀ σ, HCov σ hs0 → ACalls P f [] σ (fun u σ' => u = .bool true ∧ HCov σ' ⟨.leaf, .leaf, nx⟩)) : Pure P f [] (.bool true) := by
  intro off
  have hcov : HCov ⟨[], [], off, some 0⟩ hs0 := ⟨fun i n zn z ov h => by simp [hs0, Tr.get] at h, fun i es h => by simp [hs0, Tr.get] at h, fun k u h => by simp [hs0, Tr.get] at h, rfl⟩
  obtain ⟨h1, h2⟩ := hc _ hcov
  refine ⟨h1, fun vs w μ hi hn hr => ?_⟩
  have hi' : Inv w ⟨fun _ => none, fun _ => none⟩ ⟨[], [], off, some 0⟩ := by
    refine ⟨fun i ts h => by simp at h, fun i es h => by simp at h, fun n m i j x y b p q h => by simp at h, fun k h => by simp at h, fun n m k l b f t g u h => by simp at h, ⟨0, fun i _ => ⟨rfl, rfl⟩, fun m hm => by injection hm with hm; exact hm.symm⟩, fun b o h => hi.offlt b o h, fun i ob b p h => by simp at h⟩
  refine (h2 vs w _ hi' hn (fun j t v h => by simp at h)).mono ?_
  rintro e w' ⟨v, t, σ', μ', rfl, ev, hi2, rv, rfl, _⟩
  have noL : ∀ b, ¬ Live μ ⟨[], [], off, none⟩ b := by
    rintro b (⟨i, ob, p, h, _⟩ | ⟨k, f, t, h, _⟩) <;> simp at h
  have noL' : ∀ b, ¬ Live ⟨fun _ => none, fun _ => none⟩ ⟨[], [], off, some 0⟩ b := by
    rintro b (⟨i, ob, p, h, _⟩ | ⟨k, f, t, h, _⟩) <;> simp at h
  refine ⟨v, _, ⟨[], [], off, none⟩, μ, rfl, ⟨ev.below, fun _ _ h => h, fun _ _ h => h, rfl, ev.shape, fun b hb hl => ⟨noL b, (ev.live b hb (noL' b)).2⟩, fun b o him => ?_⟩, ?_, ?_, rfl, rfl⟩
  · obtain ⟨k1, k2⟩ := ev.imm b o ⟨him.lt, him.off, fun i ob p h => by simp at h, fun k f t h => by simp at h⟩
    exact ⟨⟨k1.lt, him.off, fun i ob p h => by simp at h, fun k f t h => by simp at h⟩, k2⟩
  · obtain ⟨n, hn1, _⟩ := hi.fin
    exact ⟨fun i ts h => by simp at h, fun i es h => by simp at h, fun n m i j x y b p q h => by simp at h, fun k h => by simp at h, fun n m k l b f t g u h => by simp at h, ⟨n, hn1, fun m hm => by simp at hm⟩, fun b o h => Nat.lt_of_lt_of_le (hi.offlt b o h) ev.below.size, fun i ob b p h => by simp at h⟩
  · cases rv; exact .bool _
theorem run_pure (hM : MachOK P M) {n f nx : Nat} (h : (match callX M n f [] hs0 with | some (.bool true, h') => Nat.beq h'.nx nx | _ => false) = true) : Pure P f [] (.bool true) := by
  refine cold_pure (nx := nx) fun σ c => ?_
  revert h
  cases hx : callX M n f [] hs0 with
  | none => intro h; cases h
  | some q =>
    obtain ⟨t, h'⟩ := q
    cases t with
    | bool b => cases b with
      | true =>
        intro h
        refine (callX_ok hM n f [] hs0 _ h' hx σ c).mono ?_
        rintro u σ' ⟨rfl, k⟩
        have := k.none
        rw [Nat.eq_of_beq_eq_true h] at this
        exact ⟨rfl, this⟩
      | false => intro h; cases h
    | _ => intro h; cases h
theorem run_pure0 (hM : MachOK P M) {n f : Nat} (h : (match callX M n f [] hs0 with | some (.bool true, _) => true | _ => false) = true) : Pure P f [] (.bool true) := by
  revert h
  cases hx : callX M n f [] hs0 with
  | none => intro h; cases h
  | some q =>
    obtain ⟨t, h'⟩ := q
    cases t with
    | bool b => cases b with
      | true =>
        intro _
        refine cold_pure (nx := h'.nx) fun σ c => (callX_ok hM n f [] hs0 _ h' hx σ c).mono ?_
        rintro u σ' ⟨rfl, k⟩
        exact ⟨rfl, k.none⟩
      | false => intro h; cases h
    | _ => intro h; cases h
end
end Go.Ts
namespace Go.Proofs.Ythfgocinlbogeaa
open Go.Ts Go.Sets
set_option linter.unusedSimpArgs false
set_option linter.unusedVariables false
attribute [local irreducible] Go.Ts.AW Go.Ts.AOps Go.Ts.AL Go.Ts.AOp Go.Ts.ACalls Go.Ts.DL Go.Ts.DQ Go.Ts.EL
def zT (x : Int) : T := .int .i64 x
instance : Enc zT 1 := ⟨fun x c h => by simp [zT, T.cells] at h; subst h; rfl, fun x => rfl⟩
end Go.Proofs.Ythfgocinlbogeaa
namespace Go.Proofs.Ythfgocinlbogeaa
open Go.Ts Go.Sets
set_option linter.unusedSimpArgs false
set_option linter.unusedVariables false
attribute [local irreducible] Go.Ts.AW Go.Ts.AOps Go.Ts.AL Go.Ts.AOp Go.Ts.ACalls Go.Ts.DL Go.Ts.DQ Go.Ts.EL
theorem takeC_len (s : List UInt8) : (takeC s).1.length ≤ 16 := by
  by_cases h : (takeC s).2.2 = 0
  · have q : takeC s = ((takeC s).1, (takeC s).2.1, 0) := by rw [← h]
    exact (takeC_used q).2.1
  · unfold takeC at h ⊢
    split
    · simp
    split
    · simp
    split
    · rename_i h1 h2 h3; rw [if_neg h1, if_neg h2, if_pos h3] at h; exact absurd rfl h
    · simp
end Go.Proofs.Ythfgocinlbogeaa
namespace Go.Proofs.Ythfgocinlbogeaa
open Go.Ts Go.Sets
set_option linter.unusedSimpArgs false
set_option linter.unusedVariables false
structure Pr {α : Type} (f : RS → α × RS) (B : α → List UInt8) : Prop where
  stick : ∀ r, r.e ≠ 0 → (f r).2.e = r.e
  back : ∀ b, (f ⟨b, 0⟩).2.e = 0 → b = B (f ⟨b, 0⟩).1 ++ (f ⟨b, 0⟩).2.b
  fwd : ∀ b, (f ⟨b, 0⟩).2.e = 0 → ∀ t, f ⟨B (f ⟨b, 0⟩).1 ++ t, 0⟩ = ((f ⟨b, 0⟩).1, ⟨t, 0⟩)
  short : ∀ b, (f ⟨b, 0⟩).2.e = 0 → ∀ t k, k < (B (f ⟨b, 0⟩).1).length → (f ⟨(B (f ⟨b, 0⟩).1 ++ t).take k, 0⟩).2.e = 3
def bindR {α β : Type} (f : RS → α × RS) (g : α → RS → β × RS) (r : RS) : (α × β) × RS := (((f r).1, (g (f r).1 (f r).2).1), (g (f r).1 (f r).2).2)
def mapR {α β : Type} (φ : α → β) (f : RS → α × RS) (r : RS) : β × RS := (φ (f r).1, (f r).2)
theorem Pr.map {α β : Type} {f : RS → α × RS} {B : α → List UInt8} {C : β → List UInt8} {φ : α → β} (h : Pr f B) (hc : ∀ a, C (φ a) = B a) : Pr (mapR φ f) C := by
  refine ⟨fun r hr => h.stick r hr, fun b hb => ?_, fun b hb t => ?_, fun b hb t k hk => ?_⟩
  · show b = C (φ _) ++ _
    rw [hc]; exact h.back b hb
  · have e := h.fwd b hb t
    show (φ (f ⟨C (φ _) ++ t, 0⟩).1, (f ⟨C (φ _) ++ t, 0⟩).2) = _
    rw [hc, e]; rfl
  · have e := h.short b hb t k (by have : C (φ _) = _ := hc (f ⟨b, 0⟩).1; rw [← this]; exact hk)
    show (f ⟨(C (φ _) ++ t).take k, 0⟩).2.e = 3
    rw [hc]; exact e
theorem rs_zero {r : RS} (h : r.e = 0) : r = ⟨r.b, 0⟩ := by cases r; simp only at h; subst h; rfl
theorem Pr.bind {α β : Type} {f : RS → α × RS} {g : α → RS → β × RS} {B : α → List UInt8} {C : α → β → List UInt8} (h : Pr f B) (k : ∀ a, Pr (g a) (C a)) : Pr (bindR f g) (fun p => B p.1 ++ C p.1 p.2) := by
  have key : ∀ b, (bindR f g ⟨b, 0⟩).2.e = 0 → (f ⟨b, 0⟩).2.e = 0 := fun b hb => by
    by_cases he : (f ⟨b, 0⟩).2.e = 0
    · exact he
    · have := (k (f ⟨b, 0⟩).1).stick _ he
      rw [show (bindR f g ⟨b, 0⟩).2.e = (g (f ⟨b, 0⟩).1 (f ⟨b, 0⟩).2).2.e from rfl, this] at hb
      exact absurd hb he
  refine ⟨fun r hr => ?_, fun b hb => ?_, fun b hb t => ?_, fun b hb t n hn => ?_⟩
  · have h1 := h.stick r hr
    show (g (f r).1 (f r).2).2.e = r.e
    rw [(k (f r).1).stick _ (by rw [h1]; exact hr), h1]
  · have h1 := key b hb
    have e1 := h.back b h1
    have z := rs_zero h1
    have hb' : (g (f ⟨b, 0⟩).1 (f ⟨b, 0⟩).2).2.e = 0 := hb
    rw [z] at hb'
    have e2 := (k (f ⟨b, 0⟩).1).back _ hb'
    show b = B (f ⟨b, 0⟩).1 ++ C (f ⟨b, 0⟩).1 (g (f ⟨b, 0⟩).1 (f ⟨b, 0⟩).2).1 ++ (g (f ⟨b, 0⟩).1 (f ⟨b, 0⟩).2).2.b
    rw [z]
    rw [List.append_assoc, ← e2]
    exact e1
  · have h1 := key b hb
    have z := rs_zero h1
    have hb' : (g (f ⟨b, 0⟩).1 (f ⟨b, 0⟩).2).2.e = 0 := hb
    rw [z] at hb'
    have w2 := (k (f ⟨b, 0⟩).1).fwd _ hb' t
    have w1 := h.fwd b h1 (C (f ⟨b, 0⟩).1 (g (f ⟨b, 0⟩).1 ⟨(f ⟨b, 0⟩).2.b, 0⟩).1 ++ t)
    show bindR f g ⟨B (f ⟨b, 0⟩).1 ++ C (f ⟨b, 0⟩).1 (g (f ⟨b, 0⟩).1 (f ⟨b, 0⟩).2).1 ++ t, 0⟩ = (((f ⟨b, 0⟩).1, (g (f ⟨b, 0⟩).1 (f ⟨b, 0⟩).2).1), ⟨t, 0⟩)
    rw [z, List.append_assoc]
    unfold bindR
    rw [w1]
    dsimp only
    rw [w2]
  · have h1 := key b hb
    have z := rs_zero h1
    have hb' : (g (f ⟨b, 0⟩).1 (f ⟨b, 0⟩).2).2.e = 0 := hb
    rw [z] at hb'
    have hn' : n < (B (f ⟨b, 0⟩).1 ++ C (f ⟨b, 0⟩).1 (g (f ⟨b, 0⟩).1 ⟨(f ⟨b, 0⟩).2.b, 0⟩).1).length := by rw [← z]; exact hn
    show (bindR f g ⟨(B (f ⟨b, 0⟩).1 ++ C (f ⟨b, 0⟩).1 (g (f ⟨b, 0⟩).1 (f ⟨b, 0⟩).2).1 ++ t).take n, 0⟩).2.e = 3
    rw [z]
    generalize hC : C (f ⟨b, 0⟩).1 (g (f ⟨b, 0⟩).1 ⟨(f ⟨b, 0⟩).2.b, 0⟩).1 = W2 at *
    by_cases hs : n < (B (f ⟨b, 0⟩).1).length
    · have e := h.short b h1 (W2 ++ t) n hs
      rw [List.append_assoc]
      generalize (B (f ⟨b, 0⟩).1 ++ (W2 ++ t)).take n = u at *
      show (g (f ⟨u, 0⟩).1 (f ⟨u, 0⟩).2).2.e = 3
      rw [(k (f ⟨u, 0⟩).1).stick _ (by rw [e]; decide), e]
    · have e3 : (B (f ⟨b, 0⟩).1 ++ W2 ++ t).take n = B (f ⟨b, 0⟩).1 ++ (W2 ++ t).take (n - (B (f ⟨b, 0⟩).1).length) := by
        rw [List.append_assoc, List.take_append, List.take_of_length_le (by omega)]
      rw [e3]
      have w1 := h.fwd b h1 ((W2 ++ t).take (n - (B (f ⟨b, 0⟩).1).length))
      have w2 := (k (f ⟨b, 0⟩).1).short _ hb' t (n - (B (f ⟨b, 0⟩).1).length) (by rw [hC]; rw [List.length_append] at hn'; omega)
      rw [hC] at w2
      unfold bindR
      rw [w1]
      exact w2
end Go.Proofs.Ythfgocinlbogeaa
set_option maxHeartbeats 4000000
namespace Go.Proofs.Ythfgocinlbogeaa
open Go.Ts Go.Sets
set_option linter.unusedSimpArgs false
set_option linter.unusedVariables false
attribute [local irreducible] Go.Ts.AW Go.Ts.AOps Go.Ts.AL Go.Ts.AOp Go.Ts.ACalls Go.Ts.DL Go.Ts.DQ Go.Ts.EL
structure CO.Fits (c : CO) : Prop where
  hop : c.op < 256
  hkind : c.kind < 256
  hid : c.id < 18446744073709551616
  hto : c.to < 18446744073709551616
  hoff : c.off < 65536
  hn : c.n < 65536
  hps : c.ps.length ≤ 16
  hd : c.d.length ≤ 65535
  hc : c.c.length ≤ 16
theorem rdN_1 (r : RS) : (rdN r 1).1 < 256 := rdN_lt r 1
theorem rdN_2 (r : RS) : (rdN r 2).1 < 65536 := rdN_lt r 2
theorem rdN_8 (r : RS) : (rdN r 8).1 < 18446744073709551616 := rdN_lt r 8
theorem rdB_l (r : RS) : (rdB r).1.length ≤ 65535 := by
  unfold rdB
  split
  · split
    · rcases takeBE_e r.b with h | h
      · exact h.2.2.2
      · rw [h]; simp
    · simp
  · simp
theorem rdC_l (r : RS) : (rdC r).1.length ≤ 16 := by
  unfold rdC
  split
  · split
    · exact takeC_len _
    · simp
  · simp
theorem rdS_l (r : RS) : (rdS r).1.ps.length ≤ 16 := by
  have := takeLab_small r.b
  unfold rdS
  split
  · split
    · exact this.1
    · simp
  · simp
theorem callF_fits {op : Nat} (h : op < 256) (r : RS) : (Ai op r).1.Fits := by
  unfold Ai freshF
  repeat' split
  all_goals refine ⟨h, ?_, ?_, ?_, ?_, ?_, ?_, ?_, ?_⟩ <;> first | (dsimp only; omega) | exact rdN_1 _ | exact rdN_8 _ | exact rdN_2 _ | exact rdB_l _ | exact rdC_l _ | exact rdS_l _ | simp
theorem zeroK_fits : zeroK.Fits := by refine ⟨?_, ?_, ?_, ?_, ?_, ?_, ?_, ?_, ?_⟩ <;> simp [zeroK]
theorem takeK_fits (b : List UInt8) : (takeK b).1.Fits := by
  unfold takeK
  split
  · exact zeroK_fits
  split
  · exact zeroK_fits
  split
  · exact zeroK_fits
  · exact callF_fits (rdN_1 _) _
end Go.Proofs.Ythfgocinlbogeaa
set_option maxHeartbeats 4000000
namespace Go.Proofs.Ythfgocinlbogeaa
open Go.Ts Go.Sets
set_option linter.unusedSimpArgs false
set_option linter.unusedVariables false
attribute [local irreducible] Go.Ts.AW Go.Ts.AOps Go.Ts.AL Go.Ts.AOp Go.Ts.ACalls Go.Ts.DL Go.Ts.DQ Go.Ts.EL
set_option maxRecDepth 100000 in
theorem k1_begun : Ts.Pure Try.prog 23 [] (.bool true) := run_pure0 (M := mach noLive kn2) (mach_ok noLive kn2_ok) (n := 20000) (by kernel_rfl)
end Go.Proofs.Ythfgocinlbogeaa
set_option maxHeartbeats 4000000
namespace Go.Ts
set_option linter.unusedSimpArgs false
set_option linter.unusedVariables false
section
variable {P : Program} {G : Nat → Option TI} {N : Nat} {σ : St} {a : Env} {K : Env → St → Prop} {d : Tmp} {ty : TypeId} {pos : String} {af : Array Edge} {gd : Option (Nat × Bool)}
theorem eqFields_true {w : World} {n : Nat} {vs us : Array Value} : ∀ fs : List Field, (∀ f ∈ fs, ∃ k m k', (part f.type vs f.offset).run P w = .ok (.int k m) w ∧ (part f.type us f.offset).run P w = .ok (.int k m) w ∧ P.underlying f.type = some (.int k')) → (Op.eqFields (n + 1) vs us fs).run P w = .ok true w
  | [], _ => by simp [Op.eqFields]
  | f :: fs, h => by
    obtain ⟨k, m, k', h1, h3, h2⟩ := h f List.mem_cons_self
    have ih := eqFields_true (n := n) fs (fun g hg => h g (List.mem_cons_of_mem _ hg))
    by_cases hn : f.name = "_"
    · simp [Op.eqFields, hn, ih]
    · simp [Op.eqFields, hn, h1, h3, run_equalIn_int w n f.type k k' m m h2, ih]
theorem r_neqS {t yt : TypeId} {x y : Operand} {cs : List T} {fs : List (Nat × Nat)} (hG : Fits P G) (hS : P.underlying t = some (.struct (P.fieldsOf t))) (hp : P.stoodInHeld t = false) (hq : P.eqGuardType P.depth t = false) (hf : (P.fieldsOf t).toList.map (fun f => (f.type, f.offset)) = fs)
    (hc : ∀ q ∈ fs, ∃ k m ti k', cs[q.2]? = some (.int k m) ∧ G q.1 = some ti ∧ ti.d = .int k' ∧ P.underlying q.1 = some (.int k'))
    (hx : Aa a x = some (.agg cs)) (hy : Aa a y = some (.agg cs)) (hd : Ae N (some d) = true)
    (kk : K (put a (some d) (.bool false)) σ) : AOp P N ⟨some d, .binOp .neq t x y yt, ty, pos, af, gd⟩ a σ K := by
  generalize some d = dd at *
  intro av w μ hi hr next Qc hn
  have rx := Af hr hx
  have ry := Af hr hy
  generalize hv : av.eval x = vx at rx
  generalize hu : av.eval y = vy at ry
  cases rx with
  | agg cs vs hn1 r1 =>
  cases ry with
  | agg cs us hn2 r2 =>
  have part1 : ∀ (ws : Array Value), ws.size = cs.length → (∀ (j : Nat) (c : T) (v : Value), cs[j]? = some c → ws[j]? = some v → Rel w μ σ v c) → ∀ f ∈ (P.fieldsOf t).toList, ∃ k m k', cs[f.offset]? = some (.int k m) ∧ (part f.type ws f.offset).run P w = .ok (.int k m) w ∧ P.underlying f.type = some (.int k') := by
    intro ws hws hr f hfm
    obtain ⟨k, m, ti, k', h1, h2, h3, h4⟩ := hc (f.type, f.offset) (by rw [← hf]; exact List.mem_map.2 ⟨f, hfm, rfl⟩)
    dsimp only at h1 h2 h4
    have hlt : f.offset < cs.length := (List.getElem?_eq_some_iff.1 h1).1
    obtain ⟨v, hv⟩ : ∃ v, ws[f.offset]? = some v := ⟨_, Array.getElem?_eq_getElem (by omega)⟩
    have hrel := hr _ _ _ h1 hv
    cases hrel
    refine ⟨k, m, k', h1, ?_, h4⟩
    have ha := g_agg (P := P) (w := w) hG h2
    rw [h3] at ha
    simp [part, ha, TD.agg, hv]
  have he : (Op.eqFields 9999 vs us (P.fieldsOf t).toList).run P w = .ok true w := eqFields_true (n := 9998) _ fun f hfm => by
    obtain ⟨k, m, k', h1, h2, h3⟩ := part1 vs hn1 r1 f hfm
    obtain ⟨k2, m2, k3, h4, h5, h6⟩ := part1 us hn2 r2 f hfm
    rw [h1] at h4
    injection h4 with h4; injection h4 with h4 h7; subst h4; subst h7
    exact ⟨k, m, k', h2, h5, h3⟩
  have hb : (binOp .neq t (.agg vs) (.agg us)).run P w = .ok (.bool false) w := by
    rw [run_neq_struct, show (10000 : Nat) = 9999 + 1 from rfl, run_equalIn_agg w 9999 t _ _ hS hp, he]; rfl
  have hrun : (execOp av.eval ⟨dd, .binOp .neq t x y yt, ty, pos, af, gd⟩).run P w = .ok (.value (.bool false)) w := by
    simp [execOp, hv, hu, run_eqGuard_agg w .neq t x y vs us hq, hb]
  unfold Oper.wp
  rw [hrun]
  exact hn _ _ _ _ _ (.refl _ _ _) hi (hr.put hd (.bool _)) kk
end
end Go.Ts
namespace Go.Proofs.Ythfgocinlbogeaa
open Go.Ts Go.Sets
set_option linter.unusedSimpArgs false
set_option linter.unusedVariables false
attribute [local irreducible] Go.Ts.AW Go.Ts.AOps Go.Ts.AL Go.Ts.AOp Go.Ts.ACalls Go.Ts.DL Go.Ts.DQ Go.Ts.DQ0 Go.Ts.EL
structure SmX (n : Nat) where
  q : Nat
  p : Nat
  i : Nat
  hi : i ≤ n
set_option maxHeartbeats 9000000 in
theorem ref_SameL {df : UInt8} {ps : List PR} (hl : ps.length ≤ 100000) : Ts.Pure Try.prog 56 [.agg [bT df, .sl 2 .no (ps.map pT)], .agg [bT df, .sl 2 .no (ps.map pT)]] (.bool true) := by
  intro off
  refine Ad (N := 38) (rs := [.tmp 4]) hG Try.func56 rfl rfl rfl rfl rfl ?_
  repeat' (first | (show AL _ _ _ _ _ _ _ _; first | refine so0 ?_ | (refine sb ?_; intro i)) | (show DL _ _ _ _ _ _ _; first | refine do0 ?_) | (show AW _ _ _ _ _ _; first | (show AW _ _ (.region _ _ _) _ _ _; refine sc0 ?_; intro O1) | (refine sc0 ?_; try intro Q1)) | (show (_ → _) ∧ _; refine ⟨fun h => ?_, fun h => ?_⟩) | fail)
  refine aw_loop (X := SmX ps.length) (fun x => [(2, .ptr x.p 0), (3, .ptr x.q 0), (5, .int .i64 x.i)]) (fun x => ⟨[(x.q, .cells [bT df, .sl 2 .no (ps.map pT)]), (x.p, .cells [bT df, .sl 2 .no (ps.map pT)])], [], off, none⟩) (fun x => ps.length - x.i) ⟨_, _, 0, Nat.zero_le _⟩ ?_ (.refl _) ?_
  · exact .cons rfl (.cons rfl (.consW rfl (.int rfl) (.nil _)))
  rintro ⟨q, p, i, hi⟩
  dsimp only
  by_cases hil : i < ps.length
  · repeat' (first | (show AL _ _ _ _ _ _ _ _; first | refine so2 ?_ | (refine sb ?_; intro i)) | (show DL _ _ _ _ _ _ _; first | refine do2 ?_) | (show AW _ _ _ _ _ _; first | (show AW _ _ (.region _ _ _) _ _ _; refine sc0 ?_; intro O1) | (refine sc1 ?_; try intro Q1)) | (show (_ → _) ∧ _; refine ⟨fun h => ?_, fun h => ?_⟩) | fail)
    refine' dl_cons rfl rfl (fun K kk => r_neqS (cs := [hT (ps.getD i default).1, bT (ps.getD i default).2]) (fs := [(124, 0), (5, 1)]) hG (by kernel_rfl) (by kernel_rfl) (by kernel_rfl) (by kernel_rfl) (by
      intro q hq
      simp only [List.mem_cons, List.mem_nil_iff, or_false] at hq
      rcases hq with rfl | rfl
      · exact ⟨_, _, _, _, rfl, rfl, rfl, by kernel_rfl⟩
      · exact ⟨_, _, _, _, rfl, rfl, rfl, by kernel_rfl⟩) rfl rfl rfl kk) ?_
    repeat' (first | (show AL _ _ _ _ _ _ _ _; first | refine so2 ?_ | (refine sb ?_; intro i)) | (show DL _ _ _ _ _ _ _; first | refine do2 ?_) | (show AW _ _ _ _ _ _; first | (show AW _ _ (.region _ _ _) _ _ _; refine sc0 ?_; intro O1) | (refine sc1 ?_; try intro Q1)) | (show (_ → _) ∧ _; refine ⟨fun h => ?_, fun h => ?_⟩) | fail)
    exact ⟨⟨q, p, i + 1, by omega⟩, by dsimp only; omega, .cons rfl (.cons rfl (.consW rfl (.int (by simp)) (.nil _))), .refl _⟩
  · obtain rfl : i = ps.length := by omega
    repeat' (first | (show AL _ _ _ _ _ _ _ _; first | refine so2 ?_ | (refine sb ?_; intro i)) | (show DL _ _ _ _ _ _ _; first | refine do2 ?_) | (show AW _ _ _ _ _ _; first | (show AW _ _ (.region _ _ _) _ _ _; refine sc0 ?_; intro O1) | (refine sc1 ?_; try intro Q1)) | (show (_ → _) ∧ _; refine ⟨fun h => ?_, fun h => ?_⟩) | fail)
    exact Ag (Ab rfl Ac) (.refl _) rfl
set_option maxHeartbeats 9000000 in
theorem ref_SameCallK {c : CO} (h : c.Fits) : Ts.Pure Try.prog 27 [c.t, c.t] (.bool true) := by
  obtain ⟨q1, q2, q3, q4, q5, q6, q7, q10, q11⟩ := h
  have h1 := ref_SameSets (x := cT []) (y := cT []) (z := cT []) (x' := cT []) (y' := cT []) (z' := cT []) (catsT_c _) (catsT_c _) (catsT_c _) (catsT_c _) (catsT_c _) (catsT_c _) (by simp) (by simp) (by simp) (by simp) (by simp) (by simp)
  have h2 := ref_SameSet (x := cT c.c) (y := cT c.c) (catsT_c _) (catsT_c _) (by omega) (by omega)
  rw [decide_eq_true ⟨rfl, rfl, rfl⟩] at h1
  rw [decide_eq_true rfl] at h2
  have h3 := ref_SameL (df := c.df) (ps := c.ps) (by omega)
  intro off
  unfold CO.t
  refine Ad (N := 75) (rs := [.tmp 4]) hG Try.func27 rfl rfl rfl rfl rfl ?_
  repeat' (first | (show AL _ _ _ _ _ _ _ _; first | refine so0 ?_ | refine sp Y Y Y Y Y Y (by apply h1 <;> exact sd) ?_ | refine sp Y Y Y Y Y Y (by apply h2 <;> exact sd) ?_ | refine sp Y Y Y Y Y Y (by apply h3 <;> exact sd) ?_ | (refine sb ?_; intro i)) | (show AW _ _ _ _ _ _; first | (show AW _ _ (.region _ _ _) _ _ _; refine sc0 ?_; intro O1) | (refine sc0 ?_; try intro Q1)) | (show (_ → _) ∧ _; refine ⟨fun h => ?_, fun h => ?_⟩) | fail)
  exact Ag (Ab rfl Ac) (.refl _) rfl
set_option maxHeartbeats 9000000 in
theorem call1Takes_pure {b : List UInt8} (hb : b.length ≤ bigLen) : Ts.Pure Try.prog 5 [sT b] (.bool true) := by
  unfold bigLen at hb
  intro off
  by_cases h300 : 300 < b.length
  · refine Ad (N := 42) (rs := [.tmp 2]) hG Try.func5 rfl rfl rfl rfl rfl ?_
    repeat' (first | (show AL _ _ _ _ _ _ _ _; first | refine so0 ?_ | refine sp Y Y Y Y Y Y (by apply k1_begun <;> exact sd) ?_ | (refine sb ?_; intro i)) | (show AW _ _ _ _ _ _; first | (show AW _ _ (.region _ _ _) _ _ _; refine sc0 ?_; intro O1) | (refine sc0 ?_; try intro Q1)) | (show (_ → _) ∧ _; refine ⟨fun h => ?_, fun h => ?_⟩) | fail)
    exact Ag (Ab rfl Ac) (.refl _) rfl
  have hll : (twL b).length = b.length + 3 := by simp [twL]
  have hw : win (twL b) 0 b.length = b := by unfold win; rw [List.drop_zero]; exact twL_take b
  have hT := fun tw => abi1_Take_v (l := twL b) (o := 0) (m := b.length) (by omega) (by omega) tw
  rw [hw] at hT
  have hR := d_TakeCall (b := b) (by omega)
  have hS := ref_SameCallK (takeK_fits b)
  generalize takeK b = r at *
  obtain ⟨c, e⟩ := r
  dsimp only at hT hR hS
  refine Ad (N := 42) (rs := [.tmp 2]) hG Try.func5 rfl rfl rfl rfl rfl ?_
  repeat' (first | (show AL _ _ _ _ _ _ _ _; first | refine so2 ?_ | refine sp Y Y Y Y Y Y (by apply k1_begun <;> exact sd) ?_ | (refine sb ?_; intro i)) | (show AW _ _ _ _ _ _; first | (show AW _ _ (.region _ _ _) _ _ _; refine sc0 ?_; intro O1) | (refine sc1 ?_; try intro Q1)) | (show (_ → _) ∧ _; refine ⟨fun h => ?_, fun h => ?_⟩) | fail)
  refine Ar rfl (r_onL0 rfl rfl rfl rfl rfl (law_Twin (by omega)) ?_)
  rintro u L' ⟨tw, rfl, rfl⟩
  repeat' (first | (show AL _ _ _ _ _ _ _ _; first | refine so2 ?_ | (refine sb ?_; intro i)) | (show AW _ _ _ _ _ _; first | (show AW _ _ (.region _ _ _) _ _ _; refine sc0 ?_; intro O1) | (refine sc1 ?_; try intro Q1)) | (show (_ → _) ∧ _; refine ⟨fun h => ?_, fun h => ?_⟩) | fail)
  refine al_on (hT tw) rfl rfl rfl rfl rfl rfl hs ?_
  rintro u L' ⟨rfl, rfl⟩
  have hk := law_Kept (b := b) (by omega) tw
  unfold CO.t at hR hS ⊢
  repeat' (first | (show AL _ _ _ _ _ _ _ _; first | refine so2 ?_ | refine sp Y Y Y Y Y Y (by apply hR <;> exact sd) ?_ | refine al_onS hk Y Y Y Y Y hs ?_ | (refine sb ?_; intro i)) | (show AW _ _ _ _ _ _; first | (show AW _ _ (.region _ _ _) _ _ _; refine sc0 ?_; intro O1) | (refine sc1 ?_; try intro Q1)) | (show (_ → _) ∧ _; refine ⟨fun h => ?_, fun h => ?_⟩) | fail)
  refine al_on (law_Spoil (l := twL b) (n := b.length) (c := b.length + 3) hll (by omega) tw) rfl rfl rfl rfl rfl rfl hs ?_
  rintro u L' ⟨l', hl', rfl, rfl⟩
  repeat' (first | (show AL _ _ _ _ _ _ _ _; first | refine so2 ?_ | refine sp Y Y Y Y Y Y (by apply hS <;> exact sd) ?_ | (refine sb ?_; intro i)) | (show AW _ _ _ _ _ _; first | (show AW _ _ (.region _ _ _) _ _ _; refine sc0 ?_; intro O1) | (refine sc1 ?_; try intro Q1)) | (show (_ → _) ∧ _; refine ⟨fun h => ?_, fun h => ?_⟩) | fail)
  exact Ag (Ab rfl Ac) (.refl _) rfl
theorem call1Takes_law (_W : World) (y : T) (ty : ArgTy G 6 22 y) : ACalls Try.prog 5 [y] σ0 (fun r _ => r = .bool true) := by
  obtain ⟨b, rfl, hb⟩ := argTy_bytes ty rfl rfl rfl rfl rfl
  exact (call1Takes_pure hb (fun _ _ => False)).mono fun _ _ h => h.1
end Go.Proofs.Ythfgocinlbogeaa
