/- Sets of numbers as lists that rise: plain Lean, no program in sight. -/
namespace Go.Sets
set_option linter.unusedSimpArgs false
set_option linter.unusedVariables false
abbrev C := UInt16

theorem lt_irrefl (x : C) : ¬ x < x := by simp [UInt16.lt_iff_toNat_lt]
theorem lt_trans {x y z : C} (h : x < y) (k : y < z) : x < z := by rw [UInt16.lt_iff_toNat_lt] at *; omega
theorem lt_or {x y : C} : x < y ∨ x = y ∨ y < x := by
  rcases Nat.lt_trichotomy x.toNat y.toNat with h | h | h
  · exact .inl (UInt16.lt_iff_toNat_lt.2 h)
  · exact .inr (.inl (UInt16.toNat_inj.1 h))
  · exact .inr (.inr (UInt16.lt_iff_toNat_lt.2 h))
theorem lt_asymm {x y : C} (h : x < y) : ¬ y < x := fun k => lt_irrefl x (lt_trans h k)
theorem lt_ne {x y : C} (h : x < y) : x ≠ y := fun e => lt_irrefl x (e ▸ h : x < x)

/-- A list that rises. -/
def Up (l : List C) : Prop := l.Pairwise (· < ·)
def risesB : List C → Bool
  | x :: y :: r => decide (x < y) && risesB (y :: r)
  | _ => true
theorem up_nil : Up [] := List.Pairwise.nil
theorem up_cons {x : C} {l : List C} : Up (x :: l) ↔ (∀ y ∈ l, x < y) ∧ Up l := List.pairwise_cons
theorem up_one (x : C) : Up [x] := up_cons.2 ⟨fun y h => by simp at h, up_nil⟩
theorem risesB_iff : ∀ {l : List C}, risesB l = true ↔ Up l
  | [] => ⟨fun _ => up_nil, fun _ => rfl⟩
  | [x] => ⟨fun _ => up_one x, fun _ => rfl⟩
  | x :: y :: r => by
    simp only [risesB, Bool.and_eq_true, decide_eq_true_eq]
    rw [risesB_iff, up_cons (x := x)]
    constructor
    · rintro ⟨h1, h2⟩
      refine ⟨fun z hz => ?_, h2⟩
      rcases List.mem_cons.1 hz with rfl | hz
      · exact h1
      · exact lt_trans h1 ((up_cons.1 h2).1 z hz)
    · rintro ⟨h1, h2⟩
      exact ⟨h1 y (by simp), h2⟩
theorem up_ext : ∀ {a b : List C}, Up a → Up b → (∀ x, x ∈ a ↔ x ∈ b) → a = b
  | [], [], _, _, _ => rfl
  | [], y :: b, _, _, h => by have := (h y).2 (by simp); simp at this
  | x :: a, [], _, _, h => by have := (h x).1 (by simp); simp at this
  | x :: a, y :: b, ha, hb, h => by
    obtain ⟨ha1, ha2⟩ := up_cons.1 ha
    obtain ⟨hb1, hb2⟩ := up_cons.1 hb
    have hxy : x = y := by
      rcases List.mem_cons.1 ((h x).1 (by simp)) with e | e
      · exact e
      · rcases List.mem_cons.1 ((h y).2 (by simp)) with e2 | e2
        · exact e2.symm
        · exact absurd (ha1 y e2) (lt_asymm (hb1 x e))
    subst hxy
    congr 1
    refine up_ext ha2 hb2 fun z => ?_
    constructor
    · intro hz
      rcases List.mem_cons.1 ((h z).1 (by simp [hz])) with e | e
      · exact absurd (ha1 z hz) (by rw [e]; exact lt_irrefl x)
      · exact e
    · intro hz
      rcases List.mem_cons.1 ((h z).2 (by simp [hz])) with e | e
      · exact absurd (hb1 z hz) (by rw [e]; exact lt_irrefl x)
      · exact e
theorem up_nodup {l : List C} (h : Up l) : l.Nodup := h.imp fun h => lt_ne h
theorem up_sub {l m : List C} (h : Up m) (hs : l.Sublist m) : Up l := List.Pairwise.sublist hs h

/-- Two lists walked through at once. -/
def mergeK (keep : Bool → Bool → Bool) : List C → List C → List C
  | [], [] => []
  | [], y :: b => cond (keep false true) [y] [] ++ mergeK keep [] b
  | x :: a, [] => cond (keep true false) [x] [] ++ mergeK keep a []
  | x :: a, y :: b => if x < y then cond (keep true false) [x] [] ++ mergeK keep a (y :: b)
      else if y < x then cond (keep false true) [y] [] ++ mergeK keep (x :: a) b
      else cond (keep true true) [x] [] ++ mergeK keep a b
termination_by a b => a.length + b.length

theorem merge_mem (keep : Bool → Bool → Bool) : ∀ (a b : List C), Up a → Up b → ∀ z, z ∈ mergeK keep a b ↔ (z ∈ a ∨ z ∈ b) ∧ keep (decide (z ∈ a)) (decide (z ∈ b)) = true
  | [], [], _, _, z => by simp [mergeK]
  | [], y :: b, ha, hb, z => by
    obtain ⟨hb1, hb2⟩ := up_cons.1 hb
    rw [mergeK, List.mem_append, merge_mem keep [] b ha hb2]
    by_cases h : z = y
    · subst h
      have : z ∉ b := fun h => lt_irrefl z (hb1 z h)
      cases hk : keep false true <;> simp [hk, this]
    · cases hk : keep false true <;> simp [hk, h]
  | x :: a, [], ha, hb, z => by
    obtain ⟨ha1, ha2⟩ := up_cons.1 ha
    rw [mergeK, List.mem_append, merge_mem keep a [] ha2 hb]
    by_cases h : z = x
    · subst h
      have : z ∉ a := fun h => lt_irrefl z (ha1 z h)
      cases hk : keep true false <;> simp [hk, this]
    · cases hk : keep true false <;> simp [hk, h]
  | x :: a, y :: b, ha, hb, z => by
    obtain ⟨ha1, ha2⟩ := up_cons.1 ha
    obtain ⟨hb1, hb2⟩ := up_cons.1 hb
    rw [mergeK]
    by_cases h1 : x < y
    · rw [if_pos h1, List.mem_append, merge_mem keep a (y :: b) ha2 hb]
      have hxb : x ∉ y :: b := by
        intro h
        rcases List.mem_cons.1 h with e | e
        · exact lt_irrefl x (by rw [e] at h1 ⊢; exact absurd h1 (lt_irrefl y))
        · exact lt_irrefl x (lt_trans h1 (hb1 x e))
      by_cases h : z = x
      · subst h
        have : z ∉ a := fun h => lt_irrefl z (ha1 z h)
        cases hk : keep true false <;> simp only [this, hxb] <;> simp [hk]
      · have e1 : z ∈ x :: a ↔ z ∈ a := by simp [h]
        simp only [e1]
        cases hk : keep true false <;> simp [h]
    · rw [if_neg h1]
      by_cases h2 : y < x
      · rw [if_pos h2, List.mem_append, merge_mem keep (x :: a) b ha hb2]
        have hya : y ∉ x :: a := by
          intro h
          rcases List.mem_cons.1 h with e | e
          · exact lt_irrefl y (by rw [e] at h2 ⊢; exact absurd h2 (lt_irrefl x))
          · exact lt_irrefl y (lt_trans h2 (ha1 y e))
        by_cases h : z = y
        · subst h
          have : z ∉ b := fun h => lt_irrefl z (hb1 z h)
          cases hk : keep false true <;> simp only [this, hya] <;> simp [hk]
        · have e1 : z ∈ y :: b ↔ z ∈ b := by simp [h]
          simp only [e1]
          cases hk : keep false true <;> simp [h]
      · rw [if_neg h2]
        obtain rfl : x = y := by
          rcases lt_or (x := x) (y := y) with h | h | h
          · exact absurd h h1
          · exact h
          · exact absurd h h2
        rw [List.mem_append, merge_mem keep a b ha2 hb2]
        by_cases h : z = x
        · subst h
          have h3 : z ∉ a := fun h => lt_irrefl z (ha1 z h)
          have h4 : z ∉ b := fun h => lt_irrefl z (hb1 z h)
          cases hk : keep true true <;> simp [hk, h3, h4]
        · have e1 : z ∈ x :: a ↔ z ∈ a := by simp [h]
          have e2 : z ∈ x :: b ↔ z ∈ b := by simp [h]
          simp only [e1, e2]
          cases hk : keep true true <;> simp [h]
termination_by a b => a.length + b.length

theorem up_app {p : Bool} {x : C} {l : List C} (h : Up l) (hx : ∀ y ∈ l, x < y) : Up (cond p [x] [] ++ l) := by
  cases p with
  | false => exact h
  | true => exact up_cons.2 ⟨hx, h⟩
theorem merge_up (keep : Bool → Bool → Bool) : ∀ (a b : List C), Up a → Up b → Up (mergeK keep a b)
  | [], [], _, _ => by simp [mergeK]; exact up_nil
  | [], y :: b, ha, hb => by
    obtain ⟨hb1, hb2⟩ := up_cons.1 hb
    rw [mergeK]
    refine up_app (merge_up keep [] b ha hb2) fun z hz => ?_
    rw [merge_mem keep [] b ha hb2] at hz
    rcases hz.1 with h | h
    · simp at h
    · exact hb1 z h
  | x :: a, [], ha, hb => by
    obtain ⟨ha1, ha2⟩ := up_cons.1 ha
    rw [mergeK]
    refine up_app (merge_up keep a [] ha2 hb) fun z hz => ?_
    rw [merge_mem keep a [] ha2 hb] at hz
    rcases hz.1 with h | h
    · exact ha1 z h
    · simp at h
  | x :: a, y :: b, ha, hb => by
    obtain ⟨ha1, ha2⟩ := up_cons.1 ha
    obtain ⟨hb1, hb2⟩ := up_cons.1 hb
    rw [mergeK]
    by_cases h1 : x < y
    · rw [if_pos h1]
      refine up_app (merge_up keep a (y :: b) ha2 hb) fun z hz => ?_
      rw [merge_mem keep a (y :: b) ha2 hb] at hz
      rcases hz.1 with h | h
      · exact ha1 z h
      · rcases List.mem_cons.1 h with e | e
        · rw [e]; exact h1
        · exact lt_trans h1 (hb1 z e)
    · rw [if_neg h1]
      by_cases h2 : y < x
      · rw [if_pos h2]
        refine up_app (merge_up keep (x :: a) b ha hb2) fun z hz => ?_
        rw [merge_mem keep (x :: a) b ha hb2] at hz
        rcases hz.1 with h | h
        · rcases List.mem_cons.1 h with e | e
          · rw [e]; exact h2
          · exact lt_trans h2 (ha1 z e)
        · exact hb1 z h
      · rw [if_neg h2]
        obtain rfl : x = y := by
          rcases lt_or (x := x) (y := y) with h | h | h
          · exact absurd h h1
          · exact h
          · exact absurd h h2
        refine up_app (merge_up keep a b ha2 hb2) fun z hz => ?_
        rw [merge_mem keep a b ha2 hb2] at hz
        rcases hz.1 with h | h
        · exact ha1 z h
        · exact hb1 z h
termination_by a b => a.length + b.length

def kOr (_ _ : Bool) : Bool := true
def kAnd (a b : Bool) : Bool := a && b
def kLess (_ b : Bool) : Bool := !b
theorem or_mem {a b : List C} (ha : Up a) (hb : Up b) (z : C) : z ∈ mergeK kOr a b ↔ z ∈ a ∨ z ∈ b := by rw [merge_mem _ _ _ ha hb]; simp [kOr]
theorem and_mem {a b : List C} (ha : Up a) (hb : Up b) (z : C) : z ∈ mergeK kAnd a b ↔ z ∈ a ∧ z ∈ b := by rw [merge_mem _ _ _ ha hb]; by_cases h : z ∈ a <;> simp [kAnd, h]
theorem less_mem {a b : List C} (ha : Up a) (hb : Up b) (z : C) : z ∈ mergeK kLess a b ↔ z ∈ a ∧ z ∉ b := by
  rw [merge_mem _ _ _ ha hb]
  by_cases h : z ∈ b <;> simp [kLess, h]

/-- One more, in its place. -/
def ins (x : C) : List C → List C
  | [] => [x]
  | y :: l => if x < y then x :: y :: l else if x = y then y :: l else y :: ins x l
theorem ins_mem {x z : C} : ∀ {l : List C}, z ∈ ins x l ↔ z = x ∨ z ∈ l
  | [] => by simp [ins]
  | y :: l => by
    rw [ins]
    by_cases h : x < y
    · rw [if_pos h]; simp
    · rw [if_neg h]
      by_cases h2 : x = y
      · rw [if_pos h2]; subst h2; simp
      · rw [if_neg h2, List.mem_cons, ins_mem, List.mem_cons]
        constructor
        · rintro (h | h | h) <;> simp [h]
        · rintro (h | h | h) <;> simp [h]
theorem ins_up {x : C} : ∀ {l : List C}, Up l → Up (ins x l)
  | [], _ => up_one x
  | y :: l, h => by
    obtain ⟨h1, h2⟩ := up_cons.1 h
    rw [ins]
    by_cases h3 : x < y
    · rw [if_pos h3]
      refine up_cons.2 ⟨fun z hz => ?_, h⟩
      rcases List.mem_cons.1 hz with e | e
      · rw [e]; exact h3
      · exact lt_trans h3 (h1 z e)
    · rw [if_neg h3]
      by_cases h4 : x = y
      · rw [if_pos h4]; exact h
      · rw [if_neg h4]
        refine up_cons.2 ⟨fun z hz => ?_, ins_up h2⟩
        rcases ins_mem.1 hz with e | e
        · rw [e]
          rcases lt_or (x := x) (y := y) with h | h | h
          · exact absurd h h3
          · exact absurd h h4
          · exact h
        · exact h1 z e
/-- The set of a list. -/
def mk (l : List C) : List C := l.foldl (fun acc x => ins x acc) []
theorem foldl_ins_mem {z : C} : ∀ (l acc : List C), z ∈ l.foldl (fun acc x => ins x acc) acc ↔ z ∈ acc ∨ z ∈ l
  | [], acc => by simp
  | x :: l, acc => by
    rw [List.foldl_cons, foldl_ins_mem l, ins_mem, List.mem_cons]
    constructor
    · rintro ((h | h) | h) <;> simp [h]
    · rintro (h | h | h) <;> simp [h]
theorem foldl_ins_up : ∀ (l acc : List C), Up acc → Up (l.foldl (fun acc x => ins x acc) acc)
  | [], acc, h => h
  | x :: l, acc, h => foldl_ins_up l _ (ins_up h)
theorem mk_mem {l : List C} {z : C} : z ∈ mk l ↔ z ∈ l := by unfold mk; rw [foldl_ins_mem]; simp
theorem mk_up (l : List C) : Up (mk l) := foldl_ins_up l [] up_nil
theorem mk_self {l : List C} (h : Up l) : mk l = l := up_ext (mk_up l) h fun x => mk_mem
theorem mk_or {a b : List C} (ha : Up a) (hb : Up b) : mk (a ++ b) = mergeK kOr a b :=
  up_ext (mk_up _) (merge_up _ _ _ ha hb) fun x => by rw [mk_mem, List.mem_append, or_mem ha hb]
theorem part_and {a b : List C} (ha : Up a) (hb : Up b) : a.filter (fun x => b.contains x) = mergeK kAnd a b :=
  up_ext (up_sub ha List.filter_sublist) (merge_up _ _ _ ha hb) fun x => by rw [List.mem_filter, and_mem ha hb]; simp
theorem part_less {a b : List C} (ha : Up a) (hb : Up b) : a.filter (fun x => !b.contains x) = mergeK kLess a b :=
  up_ext (up_sub ha List.filter_sublist) (merge_up _ _ _ ha hb) fun x => by rw [List.mem_filter, less_mem ha hb]; simp
theorem mk_length_le (l : List C) : (mk l).length ≤ l.length := by
  have h1 : (mk l).Nodup := up_nodup (mk_up l)
  have : ∀ (m l : List C), m.Nodup → (∀ x ∈ m, x ∈ l) → m.length ≤ l.length := by
    intro m
    induction m with
    | nil => intro l _ _; simp
    | cons x m ih =>
      intro l hn hs
      obtain ⟨h1, h2⟩ := List.nodup_cons.1 hn
      have hx := hs x (by simp)
      have := ih (l.erase x) h2 (fun y hy => (List.mem_erase_of_ne (by rintro rfl; exact h1 hy)).2 (hs y (by simp [hy])))
      have h3 := List.length_erase_of_mem hx
      have h4 := List.length_pos_of_mem hx
      simp only [List.length_cons]; omega
  exact this _ _ h1 fun x hx => mk_mem.1 hx
theorem ins_length_le (x : C) : ∀ (l : List C), (ins x l).length ≤ l.length + 1
  | [] => by simp [ins]
  | y :: l => by
    rw [ins]; split
    · simp
    · split
      · simp
      · simpa using ins_length_le x l
theorem merge_length_le (keep : Bool → Bool → Bool) : ∀ (a b : List C), (mergeK keep a b).length ≤ a.length + b.length
  | [], [] => by simp [mergeK]
  | [], y :: b => by
    have := merge_length_le keep [] b
    rw [mergeK]; cases keep false true <;> simp at this ⊢ <;> omega
  | x :: a, [] => by
    have := merge_length_le keep a []
    rw [mergeK]; cases keep true false <;> simp at this ⊢ <;> omega
  | x :: a, y :: b => by
    rw [mergeK]
    split
    · have := merge_length_le keep a (y :: b)
      cases keep true false <;> simp at this ⊢ <;> omega
    · split
      · have := merge_length_le keep (x :: a) b
        cases keep false true <;> simp at this ⊢ <;> omega
      · have := merge_length_le keep a b
        cases keep true true <;> simp at this ⊢ <;> omega
termination_by a b => a.length + b.length
end Go.Sets
