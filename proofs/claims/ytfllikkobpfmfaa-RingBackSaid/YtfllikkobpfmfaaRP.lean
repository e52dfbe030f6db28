/- ring: the plain law of letters as bytes. -/
import Derived.Test.YtfllikkobpfmfaaS5
import Derived.Test.YtfllikkobpfmfaaRA
namespace Go.Proofs.Ytfllikkobpfmfaa
open Go.Ts
set_option linter.unusedSimpArgs false
set_option linter.unusedVariables false
def mayL (l : List (List UInt8)) : Bool := decide (l.length ≤ 4) && l.all fun b => decide (b.length ≤ 16)
theorem mayL_iff {l : List (List UInt8)} : mayL l = true ↔ l.length ≤ 4 ∧ ∀ b ∈ l, b.length ≤ 16 := by simp [mayL]
def putR (b : List UInt8) (l : List (List UInt8)) : List UInt8 := l.foldl putBs (b ++ putI l.length 1)
def takeLs (b : List UInt8) : Nat → List (List UInt8) → Nat → List (List UInt8) × Nat × Int
  | 0, acc, at' => (acc, at', 0)
  | n + 1, acc, at' => if (takeBE (b.drop at')).2.2 = 0 then takeLs b n (acc ++ [(takeBE (b.drop at')).1]) (at' + (takeBE (b.drop at')).2.1) else ([], 0, 3)
def takeR (b : List UInt8) : List (List UInt8) × Nat × Int :=
  if b.length < 1 then ([], 0, 3)
  else if (takeLs b (beV (b.take 1)) [] 1).2.2 = 0 then (if mayL (takeLs b (beV (b.take 1)) [] 1).1 then takeLs b (beV (b.take 1)) [] 1 else ([], 0, 2)) else ([], 0, 3)
def trT (r : List (List UInt8) × Nat × Int) : T := .tup [lT r.1, .int .i64 r.2.1, .int .i64 r.2.2]
theorem takeBE_e (b : List UInt8) : (takeBE b).2.2 = 0 ∧ 2 ≤ b.length ∧ (takeBE b).2.1 ≤ b.length ∧ (takeBE b).1.length ≤ 65535 ∨ takeBE b = ([], 0, 3) := by
  unfold takeBE
  split
  · exact .inr rfl
  split
  · exact .inr rfl
  · have := beV2 b (by omega)
    refine .inl ⟨rfl, by omega, by simp; omega, ?_⟩
    simp; omega
theorem be1 (n : Nat) (h : n < 256) : putI n 1 = [UInt8.ofNat n] := by
  unfold putI
  rw [if_pos (by omega)]
  simp [be]
theorem be2 (n : Nat) (h : n < 65536) : putI n 2 = [UInt8.ofNat (n / 256), UInt8.ofNat n] := by
  unfold putI
  rw [if_pos (by omega)]
  simp [be]
theorem putBs_len (b s : List UInt8) (h : s.length < 65536) : (putBs b s).length = b.length + 2 + s.length := by
  unfold putBs; rw [be2 _ h]; simp; omega
/-- The letters alone. -/
def lets (l : List (List UInt8)) : List UInt8 := l.flatMap fun s => putI s.length 2 ++ s
theorem fold_put (l : List (List UInt8)) : ∀ b, l.foldl putBs b = b ++ lets l := by
  induction l with
  | nil => intro b; simp [lets]
  | cons s l ih => intro b; rw [List.foldl_cons, ih]; simp [lets, putBs]
theorem lets_cons (s : List UInt8) (l : List (List UInt8)) : lets (s :: l) = putI s.length 2 ++ s ++ lets l := by simp [lets]
theorem lets_len (l : List (List UInt8)) (h : ∀ b ∈ l, b.length ≤ 16) : (lets l).length ≤ 18 * l.length := by
  induction l with
  | nil => simp [lets]
  | cons s l ih =>
    have h1 := h s List.mem_cons_self
    have h2 := ih fun b hb => h b (List.mem_cons_of_mem _ hb)
    rw [lets_cons, be2 _ (by omega)]
    simp only [List.length_append, List.length_cons, List.length_nil]
    omega
theorem putR_eq (b : List UInt8) (l : List (List UInt8)) : putR b l = b ++ putI l.length 1 ++ lets l := fold_put l _
theorem beV_2 (n : Nat) (h : n < 65536) : beV [UInt8.ofNat (n / 256), UInt8.ofNat n] = n := by
  simp [beV]; omega
theorem takeBE_put (s rest : List UInt8) (h : s.length < 65536) : takeBE (putI s.length 2 ++ s ++ rest) = (s, 2 + s.length, 0) := by
  rw [be2 _ h]
  unfold takeBE
  have e : beV (([UInt8.ofNat (s.length / 256), UInt8.ofNat s.length] ++ s ++ rest).take 2) = s.length := beV_2 _ h
  rw [e, if_neg (by simp), if_neg (by simp)]
  congr 1
  rw [show 2 + s.length = s.length + 2 by omega]
  simp
theorem takeBE_short (s rest : List UInt8) (k : Nat) (h : s.length < 65536) (hk : k < 2 + s.length) : takeBE ((putI s.length 2 ++ s ++ rest).take k) = ([], 0, 3) := by
  rw [be2 _ h]
  unfold takeBE
  by_cases h2 : k < 2
  · rw [if_pos (by simp; omega)]
  · have e : beV ((([UInt8.ofNat (s.length / 256), UInt8.ofNat s.length] ++ s ++ rest).take k).take 2) = s.length := by
      rw [List.take_take, Nat.min_eq_left (by omega)]; exact beV_2 _ h
    have hlen : (([UInt8.ofNat (s.length / 256), UInt8.ofNat s.length] ++ s ++ rest).take k).length = min k (2 + s.length + rest.length) := by simp; omega
    rw [e, if_neg (by omega), if_pos (by omega)]
theorem takeLs_put : ∀ (l : List (List UInt8)) (pre acc rest), (∀ b ∈ l, b.length ≤ 16) → takeLs (pre ++ lets l ++ rest) l.length acc pre.length = (acc ++ l, pre.length + (lets l).length, 0)
  | [], pre, acc, rest, _ => by simp [takeLs, lets]
  | s :: l, pre, acc, rest, h => by
    have h1 := h s List.mem_cons_self
    have e : (pre ++ lets (s :: l) ++ rest).drop pre.length = putI s.length 2 ++ s ++ (lets l ++ rest) := by rw [lets_cons]; simp
    rw [List.length_cons, takeLs, e, takeBE_put _ _ (by omega), if_pos rfl]
    have h2 := takeLs_put l (pre ++ (putI s.length 2 ++ s)) (acc ++ [s]) rest fun b hb => h b (List.mem_cons_of_mem _ hb)
    rw [show pre ++ lets (s :: l) ++ rest = pre ++ (putI s.length 2 ++ s) ++ lets l ++ rest by rw [lets_cons]; simp]
    have e3 : (pre ++ (putI s.length 2 ++ s)).length = pre.length + (2 + s.length) := by rw [be2 _ (by omega)]; simp; omega
    have e4 : (lets (s :: l)).length = 2 + s.length + (lets l).length := by rw [lets_cons, be2 _ (by omega)]; simp; omega
    rw [e3] at h2
    rw [h2, e4]
    simp; omega
theorem takeLs_short : ∀ (l : List (List UInt8)) (pre acc) (k : Nat), (∀ b ∈ l, b.length ≤ 16) → pre.length ≤ k → k < (pre ++ lets l).length → takeLs ((pre ++ lets l).take k) l.length acc pre.length = ([], 0, 3)
  | [], pre, acc, k, _, h1, h2 => by simp [lets] at h2; omega
  | s :: l, pre, acc, k, h, hk1, hk2 => by
    have h1 := h s List.mem_cons_self
    have e : ((pre ++ lets (s :: l)).take k).drop pre.length = (putI s.length 2 ++ s ++ lets l).take (k - pre.length) := by rw [lets_cons, List.drop_take]; simp
    have e3 : (pre ++ (putI s.length 2 ++ s)).length = pre.length + (2 + s.length) := by rw [be2 _ (by omega)]; simp; omega
    have e5 : pre ++ lets (s :: l) = pre ++ (putI s.length 2 ++ s) ++ lets l := by rw [lets_cons]; simp
    rw [List.length_cons, takeLs, e]
    by_cases hc : k - pre.length < 2 + s.length
    · rw [takeBE_short _ _ _ (by omega) hc, if_neg (by decide)]
    · have e6 : (putI s.length 2 ++ s ++ lets l).take (k - pre.length) = putI s.length 2 ++ s ++ (lets l).take (k - pre.length - (2 + s.length)) := by
        rw [List.take_append, List.take_of_length_le (by rw [be2 _ (by omega)]; simp; omega)]
        congr 2
        rw [be2 _ (by omega)]; simp; omega
      rw [e6, takeBE_put _ _ (by omega), if_pos rfl]
      have h2 := takeLs_short l (pre ++ (putI s.length 2 ++ s)) (acc ++ [s]) k (fun b hb => h b (List.mem_cons_of_mem _ hb)) (by omega) (by rwa [← e5])
      rw [e3] at h2
      rw [e5]; exact h2
theorem beV_1 (n : Nat) (h : n < 256) : beV [UInt8.ofNat n] = n := by simp [beV]; omega
theorem takeR_put {l : List (List UInt8)} (h : mayL l = true) (more : List UInt8) : takeR (putR [] l ++ more) = (l, (putR [] l).length, 0) := by
  obtain ⟨h1, h2⟩ := mayL_iff.1 h
  have e := takeLs_put l (putI l.length 1) [] more h2
  rw [putR_eq, List.nil_append]
  rw [be1 _ (by omega)] at e ⊢
  have ev : beV (([UInt8.ofNat l.length] ++ lets l ++ more).take 1) = l.length := beV_1 _ (by omega)
  unfold takeR
  rw [if_neg (by simp), ev]
  have e1 : ([UInt8.ofNat l.length] : List UInt8).length = 1 := rfl
  rw [e1] at e
  rw [e, if_pos rfl, List.nil_append, if_pos h]
  simp; omega
theorem takeR_short {l : List (List UInt8)} (h : mayL l = true) (k : Nat) (hk : k < (putR [] l).length) : takeR ((putR [] l).take k) = ([], 0, 3) := by
  obtain ⟨h1, h2⟩ := mayL_iff.1 h
  rw [putR_eq, List.nil_append] at hk ⊢
  rw [be1 _ (by omega)] at hk ⊢
  unfold takeR
  by_cases h0 : k = 0
  · subst h0; rfl
  obtain ⟨j, rfl⟩ := Nat.exists_eq_succ_of_ne_zero h0
  have ev : beV ((([UInt8.ofNat l.length] ++ lets l).take (j + 1)).take 1) = l.length := by
    rw [List.take_take, Nat.min_eq_left (by omega)]; exact beV_1 _ (by omega)
  rw [Nat.succ_eq_add_one, if_neg (by simp), ev]
  have e := takeLs_short l [UInt8.ofNat l.length] [] (j + 1) h2 (by simp) hk
  have e1 : ([UInt8.ofNat l.length] : List UInt8).length = 1 := rfl
  rw [e1] at e
  rw [e, if_neg (by decide)]
theorem putR_len {l : List (List UInt8)} (h : mayL l = true) (b : List UInt8) : b.length + 1 ≤ (putR b l).length ∧ (putR b l).length ≤ b.length + 73 := by
  obtain ⟨h1, h2⟩ := mayL_iff.1 h
  have h3 := lets_len l h2
  rw [putR_eq, be1 _ (by omega)]
  simp only [List.length_append, List.length_cons, List.length_nil]
  omega
end Go.Proofs.Ytfllikkobpfmfaa
