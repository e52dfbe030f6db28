/- Trees, continued: the table of types, checked against the program. -/
import Derived.Test.YtholeicgmkjadaaTsE
set_option linter.unusedVariables false
set_option linter.unusedSimpArgs false
namespace Go.Ts

def eqZ : Value → Z → Bool
  | .bool b, .b => !b
  | .int k n, .i k' => decide (k = k') && decide (n = 0)
  | .float k n, .f k' => decide (k = k') && decide (n = 0)
  | .complex k m n, .c k' => decide (k = k') && decide (m = 0) && decide (n = 0)
  | .string s, .s => s.data.toList.isEmpty
  | .pointer a, .p => a.isNone
  | .slice a n c, .sl => a.isNone && decide (n = 0) && decide (c = 0)
  | .map r, .m => r.isNone
  | .nilFunc, .fn => true
  | _, _ => false
theorem eqZ_eq {v : Value} {z : Z} (h : eqZ v z = true) : v = z.value := by
  cases v <;> cases z <;> simp [eqZ] at h <;> simp [Z.value, h]
  rename_i s
  obtain ⟨⟨l⟩⟩ := s
  simp at h; subst h; rfl
def eqZs : List Value → List Z → Bool
  | [], [] => true
  | v :: vs, z :: zs => eqZ v z && eqZs vs zs
  | _, _ => false
theorem eqZs_eq : ∀ {vs : List Value} {zs : List Z}, eqZs vs zs = true → vs = zs.map Z.value
  | [], [], _ => rfl
  | [], _ :: _, h => by cases h
  | _ :: _, [], h => by cases h
  | v :: vs, z :: zs, h => by
    simp only [eqZs, Bool.and_eq_true] at h
    rw [List.map_cons, eqZ_eq h.1, eqZs_eq h.2]

def fitB (P : Program) (t : Nat) (i : TI) : Bool :=
  match P.info? t, P.underlying t with
  | some info, some d => decide (tdOf d = i.d) && Nat.beq info.size i.size && Nat.beq info.bytes i.bytes && Nat.beq i.zero.length i.size && (i.d.agg || Nat.beq i.size 1) &&
    (match info.zero with
     | some (.agg cs) => i.d.agg && eqZs cs.toList i.zero
     | some v => !i.d.agg && eqZs [v] i.zero
     | none => false)
  | _, _ => false
theorem fitB_fits {P : Program} {t : Nat} {i : TI} (h : fitB P t i = true) : fits1 P t i := by
  unfold fitB at h
  split at h
  · rename_i info d h1 h2
    simp only [Bool.and_eq_true, decide_eq_true_eq, Bool.or_eq_true] at h
    obtain ⟨⟨⟨⟨⟨h3, h4⟩, h5⟩, h6⟩, h7⟩, h8⟩ := h
    refine ⟨info, d, h1, h2, h3, Nat.eq_of_beq_eq_true h4, Nat.eq_of_beq_eq_true h5, ?_, Nat.eq_of_beq_eq_true h6, fun ha => ?_⟩
    · split at h8
      · rename_i cs hz
        simp only [Bool.and_eq_true] at h8
        rw [hz, if_pos h8.1, ← eqZs_eq h8.2]
      · rename_i v hv hz
        simp only [Bool.and_eq_true, Bool.not_eq_true'] at h8
        have := eqZs_eq h8.2
        rw [hz, h8.1]
        cases hzs : i.zero with
        | nil => rw [hzs] at this; cases this
        | cons z zs => rw [hzs] at this; simp at this ⊢; exact this.1
      · cases h8
    · rw [ha] at h7
      rcases h7 with h7 | h7
      · cases h7
      · exact Nat.eq_of_beq_eq_true h7
  · cases h

def tabB (P : Program) : Nat → List (Option TI) → Bool
  | _, [] => true
  | t, none :: r => tabB P (t + 1) r
  | t, some i :: r => fitB P t i && tabB P (t + 1) r
def tab (L : List (Option TI)) (t : Nat) : Option TI := match L[t]? with
  | some x => x
  | none => none
theorem tabB_get {P : Program} : ∀ (L : List (Option TI)) (s t : Nat) (i : TI), tabB P s L = true → L[t]? = some (some i) → fits1 P (s + t) i
  | [], s, t, i, _, h => by simp at h
  | x :: L, s, 0, i, hb, h => by
    simp at h; subst h
    simp only [tabB, Bool.and_eq_true] at hb
    exact fitB_fits hb.1
  | none :: L, s, t + 1, i, hb, h => by
    have := tabB_get L (s + 1) t i hb (by simpa using h)
    rw [show s + 1 + t = s + (t + 1) by omega] at this; exact this
  | some x :: L, s, t + 1, i, hb, h => by
    simp only [tabB, Bool.and_eq_true] at hb
    have := tabB_get L (s + 1) t i hb.2 (by simpa using h)
    rw [show s + 1 + t = s + (t + 1) by omega] at this; exact this
theorem tab_fits {P : Program} {L : List (Option TI)} (h : tabB P 0 L = true) : Fits P (tab L) := by
  intro t i ht
  unfold tab at ht
  split at ht
  · rename_i x hx; subst ht; have := tabB_get L 0 t i h hx; rwa [Nat.zero_add] at this
  · cases ht
end Go.Ts
