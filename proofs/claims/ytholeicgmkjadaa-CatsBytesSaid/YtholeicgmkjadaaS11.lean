/- Plain facts: what is put is taken again. -/
import Derived.Test.YtholeicgmkjadaaS10
namespace Go.Proofs.Ytholeicgmkjadaa
open Go.Ts Go.Sets
def flat2 (a : List UInt16) : List UInt8 := a.flatMap fun c => putI c.toNat 2
theorem flat2_cons (x : UInt16) (a : List UInt16) : flat2 (x :: a) = be x.toNat 2 ++ flat2 a := by
  unfold flat2; rw [List.flatMap_cons, putI, if_pos (by omega)]; rfl
theorem putC_eq (b : List UInt8) (a : List UInt16) : putC b a = b ++ putC [] a := by simp [putC, List.append_assoc]
theorem putC_nil (a : List UInt16) : putC [] a = UInt8.ofNat a.length :: flat2 a := by simp [putC, putI1, flat2]
theorem putC_len (a : List UInt16) : (putC [] a).length = 1 + 2 * a.length := by rw [putC_nil, List.length_cons, flat2, flat2_length]; omega
theorem beV_be2 (v : Nat) (h : v < 65536) : beV (be v 2) = v := by
  simp [be, beV, UInt8.toNat_ofNat']; omega
theorem flat2_len (a : List UInt16) : (flat2 a).length = 2 * a.length := flat2_length a
theorem flat2_drop : ∀ (a : List UInt16) (i : Nat) (t : List UInt8), i ≤ a.length → (flat2 a ++ t).drop (2 * i) = flat2 (a.drop i) ++ t
  | a, 0, t, _ => by simp
  | [], i + 1, t, h => by simp at h
  | x :: a, i + 1, t, h => by
    rw [flat2_cons, List.append_assoc, show 2 * (i + 1) = (be x.toNat 2).length + 2 * i by rw [be_length]; omega, List.drop_length_add_append, flat2_drop a i t (by simpa using h)]; rfl
theorem flat2_take (a : List UInt16) (t : List UInt8) (h : a ≠ []) : (flat2 a ++ t).take 2 = be (a.getD 0 default).toNat 2 := by
  cases a with
  | nil => exact absurd rfl h
  | cons x a =>
    rw [flat2_cons, List.append_assoc]
    have : (be x.toNat 2).length = 2 := be_length _ _
    rw [List.take_append_of_le_length (by omega), List.take_of_length_le (by omega)]; rfl
theorem range_map_eq {α : Type} [Inhabited α] (l : List α) (g : Nat → α) (h : ∀ i, i < l.length → g i = l.getD i default) : (List.range l.length).map g = l := by
  refine List.ext_getElem (by simp) fun i h1 h2 => ?_
  rw [List.getElem_map, List.getElem_range, h i h2]
  simp [List.getElem?_eq_getElem h2]
theorem takeC_putC {a : List UInt16} (ha : mayC a = true) (t : List UInt8) : takeC (putC [] a ++ t) = (a, 1 + 2 * a.length, 0) := by
  have hl := mayC_le ha
  have h1 : beV ((putC [] a ++ t).take 1) = a.length := by
    rw [putC_nil]; simp [beV, UInt8.toNat_ofNat']; omega
  have h2 : (putC [] a ++ t).length = 1 + 2 * a.length + t.length := by rw [List.length_append, putC_len]
  have h3 : (List.range a.length).map (fun i => UInt16.ofNat (beV (((putC [] a ++ t).drop (1 + 2 * i)).take 2))) = a := by
    refine range_map_eq a _ fun i hi => ?_
    have : (putC [] a ++ t).drop (1 + 2 * i) = flat2 (a.drop i) ++ t := by
      rw [putC_nil, List.cons_append, show 1 + 2 * i = 2 * i + 1 by omega, List.drop_succ_cons]
      exact flat2_drop a i t (by omega)
    rw [this, flat2_take _ _ (by intro h; have := congrArg List.length h; simp at this; omega), beV_be2 _ (UInt16.toNat_lt _)]
    simp [List.getD_eq_getElem?_getD]
  unfold takeC
  rw [h1, h3, if_neg (by omega), if_neg (by omega), if_pos ha]
theorem takeC_short {a : List UInt16} (hl : a.length ≤ 16) (k : Nat) (hk : k < 1 + 2 * a.length) (t : List UInt8) : takeC ((putC [] a ++ t).take k) = ([], 0, 3) := by
  have hp := putC_len a
  have e : (putC [] a ++ t).take k = (putC [] a).take k := List.take_append_of_le_length (by omega)
  have h2 : ((putC [] a).take k).length = k := by rw [List.length_take]; omega
  rw [e]
  unfold takeC
  by_cases h0 : k < 1
  · rw [if_pos (by omega)]
  · have h1 : beV (((putC [] a).take k).take 1) = a.length := by
      rw [List.take_take, show min 1 k = 1 by omega, putC_nil]; simp [beV, UInt8.toNat_ofNat']; omega
    rw [h1, if_neg (by omega), if_pos (by omega)]
theorem be_beV2 (x y : UInt8) : be (UInt16.ofNat (beV [x, y])).toNat 2 = [x, y] := by
  have hx := x.toNat_lt
  have hy := y.toNat_lt
  have : (UInt16.ofNat (beV [x, y])).toNat = x.toNat * 256 + y.toNat := by simp [beV, UInt16.toNat_ofNat']; omega
  rw [this]
  have e1 : UInt8.ofNat ((x.toNat * 256 + y.toNat) / 256) = x := by
    rw [← UInt8.toNat_inj, UInt8.toNat_ofNat']; omega
  have e2 : UInt8.ofNat (x.toNat * 256 + y.toNat) = y := by
    rw [← UInt8.toNat_inj, UInt8.toNat_ofNat']; omega
  simp only [be, Nat.mul_one, Nat.mul_zero, Nat.pow_zero, Nat.div_one, show 2 ^ 8 = 256 from rfl, e1, e2]
theorem flat2_snoc (a : List UInt16) (x : UInt16) : flat2 (a ++ [x]) = flat2 a ++ be x.toNat 2 := by
  unfold flat2; rw [List.flatMap_append]; simp [putI]
theorem flat2_back (r : List UInt8) : ∀ m, 2 * m ≤ r.length → flat2 ((List.range m).map fun i => UInt16.ofNat (beV ((r.drop (2 * i)).take 2))) = r.take (2 * m)
  | 0, _ => by simp [flat2]
  | m + 1, h => by
    rw [List.range_succ, List.map_append, List.map_singleton, flat2_snoc, flat2_back r m (by omega)]
    obtain ⟨x, y, hxy⟩ : ∃ x y, (r.drop (2 * m)).take 2 = [x, y] := by
      have : ((r.drop (2 * m)).take 2).length = 2 := by rw [List.length_take, List.length_drop]; omega
      match hh : (r.drop (2 * m)).take 2, this with
      | [x, y], _ => exact ⟨x, y, rfl⟩
    rw [hxy, be_beV2, ← hxy, show 2 * (m + 1) = 2 * m + 2 by omega, List.take_add]
theorem takeC_back {s : List UInt8} {a : List UInt16} {n : Nat} (h : takeC s = (a, n, 0)) : putC [] a = s.take n := by
  unfold takeC at h
  split at h
  · injection h with h1 h2; injection h2 with h3 h4; cases h4
  split at h
  · injection h with h1 h2; injection h2 with h3 h4; cases h4
  split at h
  · rename_i q1 q2 q3
    injection h with h1 h2; injection h2 with h3 h4
    cases s with
    | nil => simp at q1
    | cons x r =>
      have hx := x.toNat_lt
      have e0 : beV ((x :: r).take 1) = x.toNat := by simp [beV]
      rw [e0] at h1 h3 q2
      rw [putC_nil]
      subst h3
      rw [show 1 + 2 * x.toNat = 2 * x.toNat + 1 by omega, List.take_succ_cons]
      have hal : a.length = x.toNat := by rw [← h1]; simp
      congr 1
      · rw [hal]; simp
      · rw [← h1]
        have := flat2_back r x.toNat (by simp at q2; omega)
        rw [← this]
        congr 2
        funext i
        rw [show 1 + 2 * i = 2 * i + 1 by omega, List.drop_succ_cons]
  · injection h with h1 h2; injection h2 with h3 h4; cases h4
theorem takeC_may {s : List UInt8} {a : List UInt16} {n : Nat} (h : takeC s = (a, n, 0)) : mayC a = true := by
  unfold takeC at h
  split at h
  · injection h with h1 h2; injection h2 with h3 h4; cases h4
  split at h
  · injection h with h1 h2; injection h2 with h3 h4; cases h4
  split at h
  · rename_i q3
    injection h with h1 h2; rw [← h1]; exact q3
  · injection h with h1 h2; injection h2 with h3 h4; cases h4
theorem takeC_err {s : List UInt8} : (takeC s).2.2 = 0 ∨ (takeC s).2.2 = 2 ∨ (takeC s).2.2 = 3 := by
  unfold takeC
  split
  · simp
  split
  · simp
  split <;> simp

theorem putS_eq (s : List UInt8) (a b c : List UInt16) : putS s a b c = s ++ (putC [] a ++ (putC [] b ++ putC [] c)) := by
  unfold putS; rw [putC_eq (putC (putC s a) b), putC_eq (putC s a), putC_eq s]; simp
theorem putS_len (a b c : List UInt16) : (putS [] a b c).length = 3 + 2 * (a.length + b.length + c.length) := by
  rw [putS_eq]; simp only [List.nil_append, List.length_append, putC_len]; omega
theorem maySetsB_parts {a b c : List UInt16} (h : maySetsB a b c = true) : mayC a = true ∧ mayC b = true ∧ mayC c = true := by
  unfold maySetsB at h; simp only [Bool.and_eq_true] at h; exact ⟨h.1.1.1.1, h.1.1.1.2, h.1.1.2⟩
theorem takeS_putS {a b c : List UInt16} (h : maySetsB a b c = true) (t : List UInt8) : takeS (putS [] a b c ++ t) = ⟨a, b, c, (putS [] a b c).length, 0⟩ := by
  obtain ⟨ha, hb, hc⟩ := maySetsB_parts h
  have e : putS [] a b c ++ t = putC [] a ++ (putC [] b ++ (putC [] c ++ t)) := by rw [putS_eq]; simp
  have h1 := takeC_putC ha (putC [] b ++ (putC [] c ++ t))
  have h2 := takeC_putC hb (putC [] c ++ t)
  have h3 := takeC_putC hc t
  have d1 : (putS [] a b c ++ t).drop (1 + 2 * a.length) = putC [] b ++ (putC [] c ++ t) := by
    rw [e, ← putC_len a, List.drop_left]
  have d2 : (putS [] a b c ++ t).drop (1 + 2 * a.length + (1 + 2 * b.length)) = putC [] c ++ t := by
    rw [← List.drop_drop, d1, ← putC_len b, List.drop_left]
  rw [takeS_4 (by rw [e]; exact h1) (by rw [d1]; exact h2) (by rw [d2]; exact h3), h, if_pos rfl, putS_len]
  congr 1; omega
theorem takeS_short {a b c : List UInt16} (h : maySetsB a b c = true) (k : Nat) (hk : k < (putS [] a b c).length) : (takeS ((putS [] a b c).take k)).e = 3 := by
  obtain ⟨ha, hb, hc⟩ := maySetsB_parts h
  have la := mayC_le ha
  have lb := mayC_le hb
  have lc := mayC_le hc
  rw [putS_len] at hk
  have e : putS [] a b c = putC [] a ++ (putC [] b ++ putC [] c) := by rw [putS_eq]; rfl
  have pa := putC_len a
  have pb := putC_len b
  have pc := putC_len c
  by_cases k1 : k < 1 + 2 * a.length
  · have hs := takeC_short la k k1 (putC [] b ++ putC [] c)
    rw [← e] at hs
    rw [takeS_1 hs (by decide)]
  · have t1 : (putS [] a b c).take k = putC [] a ++ (putC [] b ++ putC [] c).take (k - (1 + 2 * a.length)) := by
      rw [e, List.take_append, List.take_of_length_le (by omega), pa]
    have h1 := takeC_putC ha ((putC [] b ++ putC [] c).take (k - (1 + 2 * a.length)))
    rw [← t1] at h1
    have d1 : ((putS [] a b c).take k).drop (1 + 2 * a.length) = (putC [] b ++ putC [] c).take (k - (1 + 2 * a.length)) := by rw [t1, ← pa, List.drop_left]
    by_cases k2 : k - (1 + 2 * a.length) < 1 + 2 * b.length
    · have hs := takeC_short lb _ k2 (putC [] c)
      rw [← d1] at hs
      rw [takeS_2 h1 hs (by decide)]
    · have t2 : (putC [] b ++ putC [] c).take (k - (1 + 2 * a.length)) = putC [] b ++ (putC [] c).take (k - (1 + 2 * a.length) - (1 + 2 * b.length)) := by
        rw [List.take_append, List.take_of_length_le (by omega), pb]
      have h2 := takeC_putC hb ((putC [] c).take (k - (1 + 2 * a.length) - (1 + 2 * b.length)))
      rw [← t2, ← d1] at h2
      have d2 : ((putS [] a b c).take k).drop (1 + 2 * a.length + (1 + 2 * b.length)) = (putC [] c).take (k - (1 + 2 * a.length) - (1 + 2 * b.length)) := by
        rw [← List.drop_drop, d1, t2, ← pb, List.drop_left]
      have h3 := takeC_short lc (k - (1 + 2 * a.length) - (1 + 2 * b.length)) (by omega) []
      rw [List.append_nil, ← d2] at h3
      rw [takeS_3 h1 h2 h3 (by decide)]
theorem takeS_ok {s : List UInt8} (h : (takeS s).e = 0) : maySetsB (takeS s).a (takeS s).b (takeS s).c = true ∧ (takeS s).n ≤ s.length ∧ putS [] (takeS s).a (takeS s).b (takeS s).c = s.take (takeS s).n := by
  rcases h1 : takeC s with ⟨a, n, e⟩
  by_cases e1 : e = 0
  · subst e1
    rcases h2 : takeC (s.drop n) with ⟨b, n2, e⟩
    by_cases e2 : e = 0
    · subst e2
      rcases h3 : takeC (s.drop (n + n2)) with ⟨c, n3, e⟩
      by_cases e3 : e = 0
      · subst e3
        have hh := takeS_4 h1 h2 h3
        by_cases hm : maySetsB a b c = true
        · rw [if_pos hm] at hh
          rw [hh]
          have u1 := takeC_used h1
          have u2 := takeC_used h2
          have u3 := takeC_used h3
          rw [List.length_drop] at u2 u3
          refine ⟨hm, by dsimp only; omega, ?_⟩
          dsimp only
          rw [putS_eq, takeC_back h1, takeC_back h2, takeC_back h3, List.nil_append, List.take_add, List.take_add, List.append_assoc]
        · rw [if_neg hm] at hh
          rw [hh] at h; cases h
      · rw [takeS_3 h1 h2 h3 e3] at h; exact absurd h e3
    · rw [takeS_2 h1 h2 e2] at h; exact absurd h e2
  · rw [takeS_1 h1 e1] at h; exact absurd h e1
/-- Whatever comes out is small. -/
theorem takeS_small (s : List UInt8) : (takeS s).a.length ≤ 16 ∧ (takeS s).b.length ≤ 16 ∧ (takeS s).c.length ≤ 16 ∧ (takeS s).n ≤ s.length := by
  by_cases h : (takeS s).e = 0
  · obtain ⟨h1, h2, h3⟩ := takeS_ok h
    obtain ⟨a, b, c⟩ := maySetsB_parts h1
    exact ⟨mayC_le a, mayC_le b, mayC_le c, h2⟩
  · have key : ∀ e : Int, takeS s = ⟨[], [], [], 0, e⟩ → (takeS s).a.length ≤ 16 ∧ (takeS s).b.length ≤ 16 ∧ (takeS s).c.length ≤ 16 ∧ (takeS s).n ≤ s.length := by
      intro e he; rw [he]; simp
    rcases h1 : takeC s with ⟨a, n, e⟩
    by_cases e1 : e = 0
    · subst e1
      rcases h2 : takeC (s.drop n) with ⟨b, n2, e⟩
      by_cases e2 : e = 0
      · subst e2
        rcases h3 : takeC (s.drop (n + n2)) with ⟨c, n3, e⟩
        by_cases e3 : e = 0
        · subst e3
          have hh := takeS_4 h1 h2 h3
          by_cases hm : maySetsB a b c = true
          · rw [if_pos hm] at hh; exact absurd (by rw [hh]) h
          · rw [if_neg hm] at hh; exact key _ hh
        · exact key _ (takeS_3 h1 h2 h3 e3)
      · exact key _ (takeS_2 h1 h2 e2)
    · exact key _ (takeS_1 h1 e1)
theorem putS_inj {a b c a' b' c' : List UInt16} (h : maySetsB a b c = true) (h' : maySetsB a' b' c' = true) : putS [] a b c = putS [] a' b' c' ↔ a = a' ∧ b = b' ∧ c = c' := by
  constructor
  · intro he
    have h1 := takeS_putS h []
    have h2 := takeS_putS h' []
    rw [he, h2] at h1
    injection h1 with q1 q2 q3 q4 q5
    exact ⟨q1.symm, q2.symm, q3.symm⟩
  · rintro ⟨rfl, rfl, rfl⟩; rfl
theorem merge_nil_r (a : List UInt16) : mergeK kOr a [] = a := by
  induction a with
  | nil => simp [mergeK]
  | cons x a ih => rw [mergeK, ih]; rfl
theorem merge_nil_l (b : List UInt16) : mergeK kOr [] b = b := by
  induction b with
  | nil => simp [mergeK]
  | cons x a ih => rw [mergeK, ih]; rfl
end Go.Proofs.Ytholeicgmkjadaa
