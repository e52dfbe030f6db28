/- Part of the proof of the law Call2Takes: the texts TsXJ, O4, O8, K3, K5, K6, KV4. No conditions. -/
import Derived.Test.YthfgocinlbogeaaCall2TakesE
import Derived.KernelRfl
set_option linter.unusedSimpArgs false
set_option linter.unusedVariables false
set_option linter.unusedVariables false
set_option linter.unusedSimpArgs false
namespace Go.Ts
section
variable {P : Program} {M : Mach}
theorem HCov.none {σ : St} {h : HS} (c : HCov σ h) : HCov σ ⟨.leaf, .leaf, h.nx⟩ :=
  ⟨fun i n zn z ov hi => by simp [Tr.get] at hi, fun i es hi => by simp [Tr.get] at hi, fun k u hk => by simp [Tr.get] at hk, c.nx⟩
theorem cold_pure {f nx : Nat} (hc : ∀ σ, HCov σ hs0 → ACalls P f [] σ (fun u σ' => u = .bool true ∧ HCov σ' ⟨.leaf, .leaf, nx⟩)) : Pure P f [] (.bool true) := by
  intro off
  have hcov : HCov ⟨[], [], off, some 0⟩ hs0 := ⟨fun i n zn z ov h => by simp [hs0, Tr.get] at h, fun i es h => by simp [hs0, Tr.get] at h, fun k u h => by simp [hs0, Tr.get] at h, rfl⟩
  obtain ⟨h1, h2⟩ := hc _ hcov
  refine ⟨h1, fun vs w μ hi hn hr => ?_⟩
  have hi' : Inv w ⟨fun _ => none, fun _ => none⟩ ⟨[], [], off, some 0⟩ := by
    refine ⟨fun i ts h => by simp at h, fun i es h => by simp at h, fun n m i j x y b p q h => by simp at h, fun k h => by simp at h, fun n m k l b f t g u h => by simp at h, ⟨0, fun i _ => ⟨rfl, rfl⟩, fun m hm => by injection hm with hm; exact hm.symm⟩, fun b o h => hi.offlt b o h, fun i ob b p h => by simp at h⟩
  refine (h2 vs w _ hi' hn (fun j t v h => by simp at h)).mono ?_
  rintro e w' ⟨v, t, σ', μ', rfl, ev, hi2, rv, rfl, _⟩
  have noL : ∀ b, ¬ Live μ ⟨[], [], off, none⟩ b := by
    rintro b (⟨i, ob, p, h, _⟩ | ⟨k, f, t, h, _⟩) <;> simp at h
  have noL' : ∀ b, ¬ Live ⟨fun _ => none, fun _ => none⟩ ⟨[], [], off, some 0⟩ b := by
    rintro b (⟨i, ob, p, h, _⟩ | ⟨k, f, t, h, _⟩) <;> simp at h
  refine ⟨v, _, ⟨[], [], off, none⟩, μ, rfl, ⟨ev.below, fun _ _ h => h, fun _ _ h => h, rfl, ev.shape, fun b hb hl => ⟨noL b, (ev.live b hb (noL' b)).2⟩, fun b o him => ?_⟩, ?_, ?_, rfl, rfl⟩
  · obtain ⟨k1, k2⟩ := ev.imm b o ⟨him.lt, him.off, fun i ob p h => by simp at h, fun k f t h => by simp at h⟩
    exact ⟨⟨k1.lt, him.off, fun i ob p h => by simp at h, fun k f t h => by simp at h⟩, k2⟩
  · obtain ⟨n, hn1, _⟩ := hi.fin
    exact ⟨fun i ts h => by simp at h, fun i es h => by simp at h, fun n m i j x y b p q h => by simp at h, fun k h => by simp at h, fun n m k l b f t g u h => by simp at h, ⟨n, hn1, fun m hm => by simp at hm⟩, fun b o h => Nat.lt_of_lt_of_le (hi.offlt b o h) ev.below.size, fun i ob b p h => by simp at h⟩
  · cases rv; exact .bool _
theorem run_pure (hM : MachOK P M) {n f nx : Nat} (h : (match callX M n f [] hs0 with | some (.bool true, h') => Nat.beq h'.nx nx | _ => false) = true) : Pure P f [] (.bool true) := by
  refine cold_pure (nx := nx) fun σ c => ?_
  revert h
  cases hx : callX M n f [] hs0 with
  | none => intro h; cases h
  | some q =>
    obtain ⟨t, h'⟩ := q
    cases t with
    | bool b => cases b with
      | true =>
        intro h
        refine (callX_ok hM n f [] hs0 _ h' hx σ c).mono ?_
        rintro u σ' ⟨rfl, k⟩
        have := k.none
        rw [Nat.eq_of_beq_eq_true h] at this
        exact ⟨rfl, this⟩
      | false => intro h; cases h
    | _ => intro h; cases h
theorem run_pure0 (hM : MachOK P M) {n f : Nat} (h : (match callX M n f [] hs0 with | some (.bool true, _) => true | _ => false) = true) : Pure P f [] (.bool true) := by
  revert h
  cases hx : callX M n f [] hs0 with
  | none => intro h; cases h
  | some q =>
    obtain ⟨t, h'⟩ := q
    cases t with
    | bool b => cases b with
      | true =>
        intro _
        refine cold_pure (nx := h'.nx) fun σ c => (callX_ok hM n f [] hs0 _ h' hx σ c).mono ?_
        rintro u σ' ⟨rfl, k⟩
        exact ⟨rfl, k.none⟩
      | false => intro h; cases h
    | _ => intro h; cases h
end
end Go.Ts
namespace Go.Proofs.Ythfgocinlbogeaa
open Go.Ts Go.Sets
set_option linter.unusedSimpArgs false
set_option linter.unusedVariables false
attribute [local irreducible] Go.Ts.AW Go.Ts.AOps Go.Ts.AL Go.Ts.AOp Go.Ts.ACalls Go.Ts.DL Go.Ts.DQ Go.Ts.EL
def zT (x : Int) : T := .int .i64 x
instance : Enc zT 1 := ⟨fun x c h => by simp [zT, T.cells] at h; subst h; rfl, fun x => rfl⟩
end Go.Proofs.Ythfgocinlbogeaa
namespace Go.Proofs.Ythfgocinlbogeaa
open Go.Ts Go.Sets
set_option linter.unusedSimpArgs false
set_option linter.unusedVariables false
attribute [local irreducible] Go.Ts.AW Go.Ts.AOps Go.Ts.AL Go.Ts.AOp Go.Ts.ACalls Go.Ts.DL Go.Ts.DQ Go.Ts.EL
theorem takeC_len (s : List UInt8) : (Ag s).1.length ≤ 16 := by
  by_cases h : (Ag s).2.2 = 0
  · have q : Ag s = ((Ag s).1, (Ag s).2.1, 0) := by rw [← h]
    exact (Av q).2.1
  · unfold Ag at h ⊢
    split
    · simp
    split
    · simp
    split
    · rename_i h1 h2 h3; rw [if_neg h1, if_neg h2, if_pos h3] at h; exact absurd rfl h
    · simp
end Go.Proofs.Ythfgocinlbogeaa
namespace Go.Proofs.Ythfgocinlbogeaa
open Go.Ts Go.Sets
set_option linter.unusedSimpArgs false
set_option linter.unusedVariables false
structure Pr {α : Type} (f : RS → α × RS) (B : α → List UInt8) : Prop where
  stick : ∀ r, r.e ≠ 0 → (f r).2.e = r.e
  back : ∀ b, (f ⟨b, 0⟩).2.e = 0 → b = B (f ⟨b, 0⟩).1 ++ (f ⟨b, 0⟩).2.b
  fwd : ∀ b, (f ⟨b, 0⟩).2.e = 0 → ∀ t, f ⟨B (f ⟨b, 0⟩).1 ++ t, 0⟩ = ((f ⟨b, 0⟩).1, ⟨t, 0⟩)
  short : ∀ b, (f ⟨b, 0⟩).2.e = 0 → ∀ t k, k < (B (f ⟨b, 0⟩).1).length → (f ⟨(B (f ⟨b, 0⟩).1 ++ t).take k, 0⟩).2.e = 3
def bindR {α β : Type} (f : RS → α × RS) (g : α → RS → β × RS) (r : RS) : (α × β) × RS := (((f r).1, (g (f r).1 (f r).2).1), (g (f r).1 (f r).2).2)
def mapR {α β : Type} (φ : α → β) (f : RS → α × RS) (r : RS) : β × RS := (φ (f r).1, (f r).2)
theorem Pr.map {α β : Type} {f : RS → α × RS} {B : α → List UInt8} {C : β → List UInt8} {φ : α → β} (h : Pr f B) (hc : ∀ a, C (φ a) = B a) : Pr (mapR φ f) C := by
  refine ⟨fun r hr => h.stick r hr, fun b hb => ?_, fun b hb t => ?_, fun b hb t k hk => ?_⟩
  · show b = C (φ _) ++ _
    rw [hc]; exact h.back b hb
  · have e := h.fwd b hb t
    show (φ (f ⟨C (φ _) ++ t, 0⟩).1, (f ⟨C (φ _) ++ t, 0⟩).2) = _
    rw [hc, e]; rfl
  · have e := h.short b hb t k (by have : C (φ _) = _ := hc (f ⟨b, 0⟩).1; rw [← this]; exact hk)
    show (f ⟨(C (φ _) ++ t).take k, 0⟩).2.e = 3
    rw [hc]; exact e
theorem rs_zero {r : RS} (h : r.e = 0) : r = ⟨r.b, 0⟩ := by cases r; simp only at h; subst h; rfl
theorem Pr.bind {α β : Type} {f : RS → α × RS} {g : α → RS → β × RS} {B : α → List UInt8} {C : α → β → List UInt8} (h : Pr f B) (k : ∀ a, Pr (g a) (C a)) : Pr (bindR f g) (fun p => B p.1 ++ C p.1 p.2) := by
  have key : ∀ b, (bindR f g ⟨b, 0⟩).2.e = 0 → (f ⟨b, 0⟩).2.e = 0 := fun b hb => by
    by_cases he : (f ⟨b, 0⟩).2.e = 0
    · exact he
    · have := (k (f ⟨b, 0⟩).1).stick _ he
      rw [show (bindR f g ⟨b, 0⟩).2.e = (g (f ⟨b, 0⟩).1 (f ⟨b, 0⟩).2).2.e from rfl, this] at hb
      exact absurd hb he
  refine ⟨fun r hr => ?_, fun b hb => ?_, fun b hb t => ?_, fun b hb t n hn => ?_⟩
  · have h1 := h.stick r hr
    show (g (f r).1 (f r).2).2.e = r.e
    rw [(k (f r).1).stick _ (by rw [h1]; exact hr), h1]
  · have h1 := key b hb
    have e1 := h.back b h1
    have z := rs_zero h1
    have hb' : (g (f ⟨b, 0⟩).1 (f ⟨b, 0⟩).2).2.e = 0 := hb
    rw [z] at hb'
    have e2 := (k (f ⟨b, 0⟩).1).back _ hb'
    show b = B (f ⟨b, 0⟩).1 ++ C (f ⟨b, 0⟩).1 (g (f ⟨b, 0⟩).1 (f ⟨b, 0⟩).2).1 ++ (g (f ⟨b, 0⟩).1 (f ⟨b, 0⟩).2).2.b
    rw [z]
    rw [List.append_assoc, ← e2]
    exact e1
  · have h1 := key b hb
    have z := rs_zero h1
    have hb' : (g (f ⟨b, 0⟩).1 (f ⟨b, 0⟩).2).2.e = 0 := hb
    rw [z] at hb'
    have w2 := (k (f ⟨b, 0⟩).1).fwd _ hb' t
    have w1 := h.fwd b h1 (C (f ⟨b, 0⟩).1 (g (f ⟨b, 0⟩).1 ⟨(f ⟨b, 0⟩).2.b, 0⟩).1 ++ t)
    show bindR f g ⟨B (f ⟨b, 0⟩).1 ++ C (f ⟨b, 0⟩).1 (g (f ⟨b, 0⟩).1 (f ⟨b, 0⟩).2).1 ++ t, 0⟩ = (((f ⟨b, 0⟩).1, (g (f ⟨b, 0⟩).1 (f ⟨b, 0⟩).2).1), ⟨t, 0⟩)
    rw [z, List.append_assoc]
    unfold bindR
    rw [w1]
    dsimp only
    rw [w2]
  · have h1 := key b hb
    have z := rs_zero h1
    have hb' : (g (f ⟨b, 0⟩).1 (f ⟨b, 0⟩).2).2.e = 0 := hb
    rw [z] at hb'
    have hn' : n < (B (f ⟨b, 0⟩).1 ++ C (f ⟨b, 0⟩).1 (g (f ⟨b, 0⟩).1 ⟨(f ⟨b, 0⟩).2.b, 0⟩).1).length := by rw [← z]; exact hn
    show (bindR f g ⟨(B (f ⟨b, 0⟩).1 ++ C (f ⟨b, 0⟩).1 (g (f ⟨b, 0⟩).1 (f ⟨b, 0⟩).2).1 ++ t).take n, 0⟩).2.e = 3
    rw [z]
    generalize hC : C (f ⟨b, 0⟩).1 (g (f ⟨b, 0⟩).1 ⟨(f ⟨b, 0⟩).2.b, 0⟩).1 = W2 at *
    by_cases hs : n < (B (f ⟨b, 0⟩).1).length
    · have e := h.short b h1 (W2 ++ t) n hs
      rw [List.append_assoc]
      generalize (B (f ⟨b, 0⟩).1 ++ (W2 ++ t)).take n = u at *
      show (g (f ⟨u, 0⟩).1 (f ⟨u, 0⟩).2).2.e = 3
      rw [(k (f ⟨u, 0⟩).1).stick _ (by rw [e]; decide), e]
    · have e3 : (B (f ⟨b, 0⟩).1 ++ W2 ++ t).take n = B (f ⟨b, 0⟩).1 ++ (W2 ++ t).take (n - (B (f ⟨b, 0⟩).1).length) := by
        rw [List.append_assoc, List.take_append, List.take_of_length_le (by omega)]
      rw [e3]
      have w1 := h.fwd b h1 ((W2 ++ t).take (n - (B (f ⟨b, 0⟩).1).length))
      have w2 := (k (f ⟨b, 0⟩).1).short _ hb' t (n - (B (f ⟨b, 0⟩).1).length) (by rw [hC]; rw [List.length_append] at hn'; omega)
      rw [hC] at w2
      unfold bindR
      rw [w1]
      exact w2
end Go.Proofs.Ythfgocinlbogeaa
set_option maxHeartbeats 4000000
namespace Go.Proofs.Ythfgocinlbogeaa
open Go.Ts Go.Sets
set_option linter.unusedSimpArgs false
set_option linter.unusedVariables false
attribute [local irreducible] Go.Ts.AW Go.Ts.AOps Go.Ts.AL Go.Ts.AOp Go.Ts.ACalls Go.Ts.DL Go.Ts.DQ Go.Ts.EL
structure CO.Fits (c : CO) : Prop where
  hop : c.op < 256
  hkind : c.kind < 256
  hid : c.id < 18446744073709551616
  hto : c.to < 18446744073709551616
  hoff : c.off < 65536
  hn : c.n < 65536
  hs : c.s.length ≤ 16
  hi : c.i.length ≤ 16
  ho : c.o.length ≤ 16
  hd : c.d.length ≤ 65535
  hc : c.c.length ≤ 16
theorem rdN_1 (r : RS) : (rdN r 1).1 < 256 := rdN_lt r 1
theorem rdN_2 (r : RS) : (rdN r 2).1 < 65536 := rdN_lt r 2
theorem rdN_8 (r : RS) : (rdN r 8).1 < 18446744073709551616 := rdN_lt r 8
theorem rdB_l (r : RS) : (rdB r).1.length ≤ 65535 := by
  unfold rdB
  split
  · split
    · rcases takeBE_e r.b with h | h
      · exact h.2.2.2
      · rw [h]; simp
    · simp
  · simp
theorem rdC_l (r : RS) : (rdC r).1.length ≤ 16 := by
  unfold rdC
  split
  · split
    · exact takeC_len _
    · simp
  · simp
theorem rdS_l (r : RS) : (rdS r).1.s.length ≤ 16 ∧ (rdS r).1.i.length ≤ 16 ∧ (rdS r).1.o.length ≤ 16 := by
  have := takeS_small r.b
  unfold rdS
  split
  · split
    · exact ⟨this.1, this.2.1, this.2.2.1⟩
    · simp
  · simp
theorem callF_fits {op : Nat} (h : op < 256) (r : RS) : (Aj op r).1.Fits := by
  unfold Aj freshF
  repeat' split
  all_goals refine ⟨h, ?_, ?_, ?_, ?_, ?_, ?_, ?_, ?_, ?_, ?_⟩ <;> first | (dsimp only; omega) | exact rdN_1 _ | exact rdN_8 _ | exact rdN_2 _ | exact rdB_l _ | exact rdC_l _ | exact (rdS_l _).1 | exact (rdS_l _).2.1 | exact (rdS_l _).2.2 | simp
theorem zeroK_fits : zeroK.Fits := by refine ⟨?_, ?_, ?_, ?_, ?_, ?_, ?_, ?_, ?_, ?_, ?_⟩ <;> simp [zeroK]
theorem takeK_fits (b : List UInt8) : (takeK b).1.Fits := by
  unfold takeK
  split
  · exact zeroK_fits
  split
  · exact zeroK_fits
  split
  · exact zeroK_fits
  · exact callF_fits (rdN_1 _) _
end Go.Proofs.Ythfgocinlbogeaa
set_option maxHeartbeats 4000000
namespace Go.Proofs.Ythfgocinlbogeaa
open Go.Ts Go.Sets
set_option linter.unusedSimpArgs false
set_option linter.unusedVariables false
attribute [local irreducible] Go.Ts.AW Go.Ts.AOps Go.Ts.AL Go.Ts.AOp Go.Ts.ACalls Go.Ts.DL Go.Ts.DQ Go.Ts.EL
set_option maxRecDepth 100000 in
theorem k2_begun : Ts.Pure Try.prog 28 [] (.bool true) := run_pure0 (M := mach noLive kn2) (mach_ok noLive kn2_ok) (n := 20000) (by kernel_rfl)
end Go.Proofs.Ythfgocinlbogeaa
set_option maxHeartbeats 4000000
namespace Go.Proofs.Ythfgocinlbogeaa
open Go.Ts Go.Sets
set_option linter.unusedSimpArgs false
set_option linter.unusedVariables false
attribute [local irreducible] Go.Ts.AW Go.Ts.AOps Go.Ts.AL Go.Ts.AOp Go.Ts.ACalls Go.Ts.DL Go.Ts.DQ Go.Ts.DQ0 Go.Ts.EL
theorem ref_Same00 : Ts.Pure Try.prog 56 [.agg [.int .u8 0, .sl 2 .no []], .agg [.int .u8 0, .sl 2 .no []]] (.bool true) := by
  intro off
  have n0 : ([] : List T).length = 0 := rfl
  refine Ad (N := 38) (rs := [.tmp 4]) hG Try.func56 rfl rfl rfl rfl rfl ?_
  repeat' (first | (show AL _ _ _ _ _ _ _ _; first | refine so0 ?_ | (refine sb ?_; intro i)) | (show DL _ _ _ _ _ _ _; first | refine do0 ?_) | (show AW _ _ _ _ _ _; first | (show AW _ _ (.region _ _ _) _ _ _; refine sc0 ?_; intro O1) | (refine sc0 ?_; try intro Q1)) | (show (_ → _) ∧ _; refine ⟨fun h => ?_, fun h => ?_⟩) | fail)
  refine aw_loop (X := Nat × Nat) (fun x => [(2, .ptr x.1 0), (3, .ptr x.2 0), (5, .int .i64 0)]) (fun x => ⟨[(x.2, .cells [.int .u8 0, .sl 2 .no []]), (x.1, .cells [.int .u8 0, .sl 2 .no []])], [], off, none⟩) (fun _ => 0) (_, _) ?_ (.refl _) ?_
  · exact .cons rfl (.cons rfl (.cons rfl (.nil _)))
  rintro ⟨i, j⟩
  dsimp only
  repeat' (first | (show AL _ _ _ _ _ _ _ _; first | refine so0 ?_ | (refine sb ?_; intro i)) | (show DL _ _ _ _ _ _ _; first | refine do0 ?_) | (show AW _ _ _ _ _ _; first | (show AW _ _ (.region _ _ _) _ _ _; refine sc0 ?_; intro O1) | (refine sc0 ?_; try intro Q1)) | (show (_ → _) ∧ _; refine ⟨fun h => ?_, fun h => ?_⟩) | fail)
  exact Ai (Ab rfl Ac) (.refl _) rfl
set_option maxHeartbeats 9000000 in
theorem ref_SameCallK {c : CO} (h : c.Fits) : Ts.Pure Try.prog 27 [c.t, c.t] (.bool true) := by
  obtain ⟨q1, q2, q3, q4, q5, q6, q7, q8, q9, q10, q11⟩ := h
  have h1 := ref_SameSets (x := cT c.s) (y := cT c.i) (z := cT c.o) (x' := cT c.s) (y' := cT c.i) (z' := cT c.o) (catsT_c _) (catsT_c _) (catsT_c _) (catsT_c _) (catsT_c _) (catsT_c _) (by omega) (by omega) (by omega) (by omega) (by omega) (by omega)
  have h2 := ref_SameSet (x := cT c.c) (y := cT c.c) (catsT_c _) (catsT_c _) (by omega) (by omega)
  rw [decide_eq_true ⟨rfl, rfl, rfl⟩] at h1
  rw [decide_eq_true rfl] at h2
  intro off
  unfold CO.t
  refine Ad (N := 75) (rs := [.tmp 4]) hG Try.func27 rfl rfl rfl rfl rfl ?_
  repeat' (first | (show AL _ _ _ _ _ _ _ _; first | refine so0 ?_ | refine sp Y Y Y Y Y Y (by apply h1 <;> exact sd) ?_ | refine sp Y Y Y Y Y Y (by apply h2 <;> exact sd) ?_ | refine sp Y Y Y Y Y Y (by apply ref_Same00 <;> exact sd) ?_ | (refine sb ?_; intro i)) | (show AW _ _ _ _ _ _; first | (show AW _ _ (.region _ _ _) _ _ _; refine sc0 ?_; intro O1) | (refine sc0 ?_; try intro Q1)) | (show (_ → _) ∧ _; refine ⟨fun h => ?_, fun h => ?_⟩) | fail)
  exact Ai (Ab rfl Ac) (.refl _) rfl
set_option maxHeartbeats 9000000 in
theorem call2Takes_pure {b : List UInt8} (hb : b.length ≤ bigLen) : Ts.Pure Try.prog 6 [sT b] (.bool true) := by
  unfold bigLen at hb
  intro off
  by_cases h300 : 300 < b.length
  · refine Ad (N := 42) (rs := [.tmp 2]) hG Try.func6 rfl rfl rfl rfl rfl ?_
    repeat' (first | (show AL _ _ _ _ _ _ _ _; first | refine so0 ?_ | refine sp Y Y Y Y Y Y (by apply k2_begun <;> exact sd) ?_ | (refine sb ?_; intro i)) | (show AW _ _ _ _ _ _; first | (show AW _ _ (.region _ _ _) _ _ _; refine sc0 ?_; intro O1) | (refine sc0 ?_; try intro Q1)) | (show (_ → _) ∧ _; refine ⟨fun h => ?_, fun h => ?_⟩) | fail)
    exact Ai (Ab rfl Ac) (.refl _) rfl
  have hll : (twL b).length = b.length + 3 := by simp [twL]
  have hw : win (twL b) 0 b.length = b := by unfold win; rw [List.drop_zero]; exact twL_take b
  have hT := fun tw => abi2_Take_v (l := twL b) (o := 0) (m := b.length) (by omega) (by omega) tw
  rw [hw] at hT
  have hR := d_TakeCall (b := b) (by omega)
  have hS := ref_SameCallK (takeK_fits b)
  generalize takeK b = r at *
  obtain ⟨c, e⟩ := r
  dsimp only at hT hR hS
  refine Ad (N := 42) (rs := [.tmp 2]) hG Try.func6 rfl rfl rfl rfl rfl ?_
  repeat' (first | (show AL _ _ _ _ _ _ _ _; first | refine so2 ?_ | refine sp Y Y Y Y Y Y (by apply k2_begun <;> exact sd) ?_ | (refine sb ?_; intro i)) | (show AW _ _ _ _ _ _; first | (show AW _ _ (.region _ _ _) _ _ _; refine sc0 ?_; intro O1) | (refine sc1 ?_; try intro Q1)) | (show (_ → _) ∧ _; refine ⟨fun h => ?_, fun h => ?_⟩) | fail)
  refine Ap rfl (r_onL0 rfl rfl rfl rfl rfl (law_Twin (by omega)) ?_)
  rintro u L' ⟨tw, rfl, rfl⟩
  repeat' (first | (show AL _ _ _ _ _ _ _ _; first | refine so2 ?_ | (refine sb ?_; intro i)) | (show AW _ _ _ _ _ _; first | (show AW _ _ (.region _ _ _) _ _ _; refine sc0 ?_; intro O1) | (refine sc1 ?_; try intro Q1)) | (show (_ → _) ∧ _; refine ⟨fun h => ?_, fun h => ?_⟩) | fail)
  refine al_on (hT tw) rfl rfl rfl rfl rfl rfl hs ?_
  rintro u L' ⟨rfl, rfl⟩
  have hk := law_Kept (b := b) (by omega) tw
  unfold CO.t at hR hS ⊢
  repeat' (first | (show AL _ _ _ _ _ _ _ _; first | refine so2 ?_ | refine sp Y Y Y Y Y Y (by apply hR <;> exact sd) ?_ | refine al_onS hk Y Y Y Y Y hs ?_ | (refine sb ?_; intro i)) | (show AW _ _ _ _ _ _; first | (show AW _ _ (.region _ _ _) _ _ _; refine sc0 ?_; intro O1) | (refine sc1 ?_; try intro Q1)) | (show (_ → _) ∧ _; refine ⟨fun h => ?_, fun h => ?_⟩) | fail)
  refine al_on (law_Spoil (l := twL b) (n := b.length) (c := b.length + 3) hll (by omega) tw) rfl rfl rfl rfl rfl rfl hs ?_
  rintro u L' ⟨l', hl', rfl, rfl⟩
  repeat' (first | (show AL _ _ _ _ _ _ _ _; first | refine so2 ?_ | refine sp Y Y Y Y Y Y (by apply hS <;> exact sd) ?_ | (refine sb ?_; intro i)) | (show AW _ _ _ _ _ _; first | (show AW _ _ (.region _ _ _) _ _ _; refine sc0 ?_; intro O1) | (refine sc1 ?_; try intro Q1)) | (show (_ → _) ∧ _; refine ⟨fun h => ?_, fun h => ?_⟩) | fail)
  exact Ai (Ab rfl Ac) (.refl _) rfl
theorem call2Takes_law (_W : World) (y : T) (ty : ArgTy G 6 22 y) : ACalls Try.prog 6 [y] σ0 (fun r _ => r = .bool true) := by
  obtain ⟨b, rfl, hb⟩ := argTy_bytes ty rfl rfl rfl rfl rfl
  exact (call2Takes_pure hb (fun _ _ => False)).mono fun _ _ h => h.1
end Go.Proofs.Ythfgocinlbogeaa
