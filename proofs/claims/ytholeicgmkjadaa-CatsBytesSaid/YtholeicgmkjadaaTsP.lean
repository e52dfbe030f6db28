/- Trees, continued: regions that draw their order, in which some operations change the state, one behind the other; the others hold at all states of a family. -/
import Derived.Test.YtholeicgmkjadaaTsK
namespace Go.Ts
set_option linter.unusedSimpArgs false
set_option linter.unusedVariables false

def tailOK : Nat → List Oper → Bool
  | _, [] => true
  | i, o :: os => (o.after.toList.all fun e => !Region.binds .any e || Nat.blt e.on i) && (List.range i).all (hasEdge o) && tailOK (i + 1) os
theorem tailOK_at : ∀ {i0 : Nat} {os : List Oper}, tailOK i0 os = true → ∀ (i : Nat) (o : Oper), os[i]? = some o →
    (∀ e ∈ o.after.toList, Region.binds .any e = true → e.on < i0 + i) ∧ ∀ j, j < i0 + i → hasEdge o j = true
  | i0, [], _, i, o, h => by simp at h
  | i0, q :: os, h, i, o, ho => by
    simp only [tailOK, Bool.and_eq_true] at h
    cases i with
    | zero =>
      simp at ho; subst ho
      refine ⟨fun e he hb => ?_, fun j hj => List.all_eq_true.1 h.1.2 j (List.mem_range.2 (by simpa using hj))⟩
      have := List.all_eq_true.1 h.1.1 e he
      simpa [hb, Nat.blt_eq] using this
    | succ i =>
      have := tailOK_at h.2 i o (by simpa using ho)
      rwa [show i0 + 1 + i = i0 + (i + 1) by omega] at this
def blank (eff : List Nat) : Nat → List Oper → List Oper
  | _, [] => []
  | i, o :: os => (cond (memB i eff) { o with dst := none } o) :: blank eff (i + 1) os
theorem blank_at {eff : List Nat} : ∀ {i0 : Nat} {os : List Oper} (j : Nat), (blank eff i0 os)[j]? = (os[j]?).map fun o => cond (memB (i0 + j) eff) { o with dst := none } o
  | i0, [], j => by simp [blank]
  | i0, o :: os, 0 => by simp [blank]
  | i0, o :: os, j + 1 => by
    have := blank_at (eff := eff) (i0 := i0 + 1) (os := os) j
    rw [show i0 + (j + 1) = i0 + 1 + j by omega]
    simpa [blank] using this
theorem blank_length {eff : List Nat} : ∀ {i0 : Nat} {os : List Oper}, (blank eff i0 os).length = os.length
  | i0, [] => rfl
  | i0, o :: os => by simp [blank, blank_length (os := os)]

/-- An edge, or a way over a few edges. -/
def far (ops : Array Oper) : Nat → Oper → Nat → Bool
  | 0, o, j => hasEdge o j
  | n + 1, o, j => hasEdge o j || o.after.toList.any fun e => Region.binds .any e && (match ops[e.on]? with | some p => far ops n p j | none => false)
/-- What of one operation must hold against another: i looks, j writes. -/
def pairE (ops : Array Oper) (eff : List Nat) (i j : Nat) (o p : Oper) : Bool :=
  (cond (memB i eff && memB j eff && Nat.blt j i) (far ops 2 o j) true) &&
  match p.dst with
  | none => true
  | some s => (Nat.beq i j || !(match o.dst with | some s' => Nat.beq s s' | none => false)) &&
    (!memB s (looks ops o) || cond (memB i eff)
      (cond (memB j eff) true (Nat.blt j i && far ops 2 o j))
      (cond (memB j eff) (Nat.blt i j && far ops 2 p i) (cond (Nat.blt j i) (far ops 2 o j) (cond (Nat.blt i j) (far ops 2 p i) true))))
def okE2 (ops : Array Oper) (eff : List Nat) (i : Nat) (o : Oper) : Nat → List Oper → Bool
  | _, [] => true
  | j, p :: ps => pairE ops eff i j o p && okE2 ops eff i o (j + 1) ps
def okE1 (ops : Array Oper) (eff : List Nat) (pre : List Oper) : Nat → List Oper → Bool
  | _, [] => true
  | i, o :: os => (o.after.toList.all fun e => !Region.binds .any e || Nat.blt e.on i) && okE2 ops eff i o 0 pre && okE1 ops eff pre (i + 1) os
def sortedB : List Nat → Bool
  | [] => true
  | i :: is => (is.all fun j => Nat.blt i j) && sortedB is
def drawOKE (ops : Array Oper) (m : Nat) (eff : List Nat) : Bool :=
  okE1 ops eff (ops.toList.take m) 0 (ops.toList.take m) && tailOK m (ops.toList.drop m) && sortedB eff && (eff.all fun i => Nat.blt i m)

theorem okE2_at {ops : Array Oper} {eff : List Nat} {i : Nat} {o : Oper} : ∀ {j0 : Nat} {ps : List Oper}, okE2 ops eff i o j0 ps = true → ∀ (j : Nat) (p : Oper), ps[j]? = some p → pairE ops eff i (j0 + j) o p = true
  | j0, [], _, j, p, h => by simp at h
  | j0, q :: ps, h, j, p, hp => by
    simp only [okE2, Bool.and_eq_true] at h
    cases j with
    | zero => simp at hp; subst hp; exact h.1
    | succ j =>
      have := okE2_at h.2 j p (by simpa using hp)
      rwa [show j0 + 1 + j = j0 + (j + 1) by omega] at this
theorem okE1_at {ops : Array Oper} {eff : List Nat} {pre : List Oper} : ∀ {i0 : Nat} {os : List Oper}, okE1 ops eff pre i0 os = true → ∀ (i : Nat) (o : Oper), os[i]? = some o →
    (∀ e ∈ o.after.toList, Region.binds .any e = true → e.on < i0 + i) ∧ okE2 ops eff (i0 + i) o 0 pre = true
  | i0, [], _, i, o, h => by simp at h
  | i0, q :: os, h, i, o, ho => by
    simp only [okE1, Bool.and_eq_true] at h
    cases i with
    | zero =>
      simp at ho; subst ho
      refine ⟨fun e he hb => ?_, h.1.2⟩
      have := List.all_eq_true.1 h.1.1 e he
      simpa [hb, Nat.blt_eq] using this
    | succ i =>
      have := okE1_at h.2 i o (by simpa using ho)
      rwa [show i0 + 1 + i = i0 + (i + 1) by omega] at this
theorem memB_iff {s : Nat} : ∀ {l : List Nat}, memB s l = true ↔ s ∈ l
  | [] => by simp [memB]
  | x :: l => by
    unfold memB
    by_cases e : x = s
    · subst e; simp
    · rw [beqF e, cond_false, memB_iff, List.mem_cons]
      exact ⟨.inr, fun h => h.resolve_left (fun h => e h.symm)⟩

theorem get_append {s : Nat} : ∀ {E A : Env}, get (E ++ A) s = (match get E s with | some t => some t | none => get A s)
  | [], A => by simp [get]
  | (i, t) :: E, A => by
    simp only [List.cons_append, get]
    cases Nat.beq i s with
    | true => rfl
    | false => simpa using get_append (E := E)

section
variable {P : Program} {G : Nat → Option TI} {N : Nat} {σ : St}

theorem wpAny_tail {os : List Oper} {m : Nat} {Qc : Exit → Act → World → Prop} (hct : ∀ (i : Nat) (o : Oper), m ≤ i → os[i]? = some o → (∀ e ∈ o.after.toList, Region.binds .any e = true → e.on < i) ∧ ∀ j, j < i → hasEdge o j = true) :
    ∀ (fuel k : Nat) (listed : Array Bool) (av : Act) (w : World), k + fuel = os.length → m ≤ k → listed.size = os.length → (∀ i, listed.getD i false = true ↔ i < k) →
      wpOps P ⟨os⟩ Qc (List.range' k fuel) av w → wpAny P .any ⟨os⟩ Qc fuel listed av w := by
  intro fuel
  induction fuel with
  | zero =>
    intro k listed av w hk hm hsz hl h
    refine ⟨?_, by simpa [wpOps] using h⟩
    simp only [Region.ready, List.filter_eq_nil_iff, List.mem_range]
    intro i hi
    have h1 := (hl i).2 (by simp at hi; omega)
    simp only [Array.getD_eq_getD_getElem?, Array.getElem?_eq_getElem (show i < listed.size by simp at hi; omega), Option.getD_some] at h1 ⊢
    simp [h1]
  | succ fuel ih =>
    intro k listed av w hk hm hsz hl h
    have hdef : ∀ i, i < os.length → listed.getD i true = listed.getD i false := by
      intro i hi
      simp only [Array.getD_eq_getD_getElem?, Array.getElem?_eq_getElem (show i < listed.size by omega), Option.getD_some]
    have hkl : listed.getD k false = false := by
      cases hb : listed.getD k false with
      | false => rfl
      | true => have := (hl k).1 hb; omega
    refine ⟨fun hr => ?_, fun i hi => ?_⟩
    · exfalso
      have : k ∈ Region.ready .any ⟨os⟩ listed := by
        simp only [Region.ready, List.mem_filter, List.mem_range]
        refine ⟨by simp; omega, ?_⟩
        have hko : k < os.length := by omega
        have ho : (⟨os⟩ : Array Oper)[k]? = some os[k] := by simp [hko]
        rw [hdef k hko, hkl]
        simp only [ho, Option.map_some, Option.getD_some, Bool.not_false, Bool.true_and]
        rw [← Array.all_toList, List.all_eq_true]
        intro e he
        cases hb : Region.binds .any e with
        | false => simp
        | true => simp [(hl e.on).2 ((hct k os[k] hm (List.getElem?_eq_getElem hko)).1 e he hb)]
      rw [hr] at this; cases this
    · simp only [Region.ready, List.mem_filter, List.mem_range, Bool.and_eq_true] at hi
      obtain ⟨hi1, hi2, hi3⟩ := hi
      have hin : i < os.length := by simpa using hi1
      have hil : listed.getD i true = false := by simpa using hi2
      rw [hdef i hin] at hil
      have hge : k ≤ i := by
        rcases Nat.lt_or_ge i k with h | h
        · rw [(hl i).2 h] at hil; cases hil
        · exact h
      obtain ⟨o, ho⟩ : ∃ o, os[i]? = some o := ⟨_, List.getElem?_eq_getElem hin⟩
      have ho' : (⟨os⟩ : Array Oper)[i]? = some o := by simpa using ho
      have hik : i = k := by
        rcases Nat.lt_or_ge k i with h | h
        · exfalso
          have hE := (hct i o (by omega) ho).2 k h
          obtain ⟨e, he, h2⟩ := List.any_eq_true.1 hE
          simp only [Bool.and_eq_true] at h2
          simp only [ho', Option.map_some, Option.getD_some] at hi3
          rw [← Array.all_toList, List.all_eq_true] at hi3
          have := hi3 e he
          rw [Nat.eq_of_beq_eq_true h2.2, hkl] at this
          simp [h2.1] at this
        · omega
      subst hik
      rw [List.range'_succ, wpOps_cons] at h
      refine wpOp_mono (fun a' w' h' => ih (i + 1) _ a' w' (by omega) (by omega) (by simpa using hsz) (fun j => ?_) h') h
      rw [setD (by omega)]
      by_cases e : i = j
      · subst e; simp
      · rw [beqF e, cond_false, hl j]; omega

/-- The quiet operations, in the text's order. -/
def DQ (P : Program) (N : Nat) (ops : Array Oper) (eff : List Nat) (F : St → Prop) (Q : Env → Prop) : Nat → List Oper → Env → Prop
  | _, [], a => Q a
  | i, o :: os, a => cond (memB i eff) (DQ P N ops eff F Q (i + 1) os a) (∃ t, (∀ σ, F σ → StepOK P N ops σ o (restr a (looks ops o)) t) ∧ DQ P N ops eff F Q (i + 1) os (put a o.dst t))

/-- The operations that change the state, one behind the other. -/
def EL (P : Program) (N : Nat) (ops : Array Oper) (F : St → Prop) (fin : Env → St → Prop) (A : Env) : List Nat → Env → St → Prop
  | [], E, σ => F σ ∧ fin (E ++ A) σ
  | i :: is, E, σ => F σ ∧ ∃ o, ops[i]? = some o ∧
      ((guardOf ops (restr (E ++ A) (looks ops o)) o = some true ∧ AOp P N o (restr (E ++ A) (looks ops o)) σ (fun b' σ' => ∃ u, b' = put (restr (E ++ A) (looks ops o)) o.dst u ∧ EL P N ops F fin A is (put E o.dst u) σ')) ∨
       (guardOf ops (restr (E ++ A) (looks ops o)) o = some false ∧ fitsD N o.dst = true ∧ EL P N ops F fin A is (put E o.dst (.tup [])) σ))

theorem EL.fam {ops : Array Oper} {F : St → Prop} {fin : Env → St → Prop} {A E : Env} : ∀ {is : List Nat}, EL P N ops F fin A is E σ → F σ
  | [], h => h.1
  | _ :: _, h => h.1

theorem dq_can {ops : Array Oper} {eff : List Nat} {F : St → Prop} {Q : Env → Prop} : ∀ (os : List Oper) (i0 : Nat) (a : Env), DQ P N ops eff F Q i0 os a →
    ∃ rs : List T, rs.length = os.length ∧ (∀ (j : Nat) (o : Oper), os[j]? = some o → memB (i0 + j) eff = false → ∃ t, rs[j]? = some t ∧ ∀ σ, F σ → StepOK P N ops σ o (restr (envAt (blank eff i0 os) rs a j) (looks ops o)) t) ∧ Q (envAt (blank eff i0 os) rs a os.length)
  | [], i0, a, h => ⟨[], rfl, fun j o ho => by simp at ho, by simpa [envAt, DQ, blank] using h⟩
  | o :: os, i0, a, h => by
    unfold DQ at h
    cases hb : memB i0 eff with
    | true =>
      rw [hb, cond_true] at h
      obtain ⟨rs, k1, k2, k3⟩ := dq_can os _ _ h
      refine ⟨.tup [] :: rs, by simp [k1], fun j o' ho' hj => ?_, by simpa [envAt, blank, hb, put] using k3⟩
      cases j with
      | zero => simp [hb] at hj
      | succ j =>
        obtain ⟨t', h3, h4⟩ := k2 j o' (by simpa using ho') (by rwa [show i0 + 1 + j = i0 + (j + 1) by omega])
        exact ⟨t', by simpa using h3, by simpa [envAt, blank, hb, put] using h4⟩
    | false =>
      rw [hb, cond_false] at h
      obtain ⟨t, h1, h2⟩ := h
      obtain ⟨rs, k1, k2, k3⟩ := dq_can os _ _ h2
      refine ⟨t :: rs, by simp [k1], fun j o' ho' hj => ?_, by simpa [envAt, blank, hb] using k3⟩
      cases j with
      | zero => simp at ho'; subst ho'; exact ⟨t, rfl, by simpa [envAt, blank] using h1⟩
      | succ j =>
        obtain ⟨t', h3, h4⟩ := k2 j o' (by simpa using ho') (by rwa [show i0 + 1 + j = i0 + (j + 1) by omega])
        exact ⟨t', by simpa using h3, by simpa [envAt, blank, hb] using h4⟩

structure EInv (os : List Oper) (eff : List Nat) (rs : List T) (a0 : Env) (N : Nat) (σ : St) (E : Env) (listed : Array Bool) (av : Act) (w : World) (μ : Gh) : Prop where
  inv : Inv w μ σ
  size : av.tmps.size = N
  defers : av.defers = []
  base : ∀ (s : Nat) (t : T), (∀ (j : Nat) (o : Oper), listed.getD j false = true → os[j]? = some o → o.dst ≠ some s) → get a0 s = some t → ∃ v, av.tmps[s]? = some v ∧ Rel w μ σ v t
  done : ∀ (j : Nat) (o : Oper) (s : Nat) (t : T), listed.getD j false = true → memB j eff = false → os[j]? = some o → o.dst = some s → rs[j]? = some t → ∃ v, av.tmps[s]? = some v ∧ Rel w μ σ v t
  effd : ∀ (s : Nat) (t : T), get E s = some t → ∃ v, av.tmps[s]? = some v ∧ Rel w μ σ v t
  ekey : ∀ (s : Nat) (t : T), get E s = some t → ∃ (j : Nat) (o : Oper), listed.getD j false = true ∧ memB j eff = true ∧ os[j]? = some o ∧ o.dst = some s
  ehas : ∀ (j : Nat) (o : Oper) (s : Nat), listed.getD j false = true → memB j eff = true → os[j]? = some o → o.dst = some s → get E s ≠ none
  closed : ∀ (j : Nat) (o : Oper), listed.getD j false = true → os[j]? = some o → ∀ e ∈ o.after.toList, Region.binds .any e = true → listed.getD e.on false = true

theorem sorted_head {i : Nat} {is : List Nat} (h : sortedB (i :: is) = true) : ∀ j ∈ is, i < j := by
  simp only [sortedB, Bool.and_eq_true] at h
  intro j hj
  have := List.all_eq_true.1 h.1 j hj
  rwa [Nat.blt_eq] at this
theorem sorted_tail {i : Nat} {is : List Nat} (h : sortedB (i :: is) = true) : sortedB is = true := by
  simp only [sortedB, Bool.and_eq_true] at h; exact h.2

theorem wpAny_eff {os : List Oper} {m : Nat} {eff : List Nat} {F : St → Prop} {fin : Env → St → Prop} {rs : List T} {a0 : Env} {Qc : Exit → Act → World → Prop} {w0 : World} {μ0 : Gh} {σ0 : St} (hm : m ≤ os.length) (hc : drawOKE ⟨os⟩ m eff = true) (hl : rs.length = (os.take m).length)
    (hs : ∀ (j : Nat) (o : Oper), (os.take m)[j]? = some o → memB j eff = false → ∃ t, rs[j]? = some t ∧ ∀ σ, F σ → StepOK P N ⟨os⟩ σ o (restr (envAt (blank eff 0 (os.take m)) rs a0 j) (looks ⟨os⟩ o)) t)
    (hQ : ∀ av' w' μ' σ' a' listed, listed.size = os.length → (∀ i, listed.getD i false = true ↔ i < m) → Ev w0 μ0 σ0 w' μ' σ' → Inv w' μ' σ' → RelA w' μ' σ' N av' a' → fin a' σ' → wpAny P .any ⟨os⟩ Qc (os.length - m) listed av' w') :
    ∀ (fuel : Nat) (l es : List Nat) (E : Env) (σ : St) (listed : Array Bool) (av : Act) (w : World) (μ : Gh), l.Nodup → l.length = fuel → listed.size = os.length → (∀ i, i ∈ l ↔ i < m ∧ listed.getD i true = false) → (∀ i, listed.getD i false = true → i < m) →
      sortedB es = true → (∀ i, i ∈ es ↔ i ∈ eff ∧ listed.getD i false = false) → EL P N ⟨os⟩ F fin (envAt (blank eff 0 (os.take m)) rs a0 m) es E σ →
      Ev w0 μ0 σ0 w μ σ → EInv (os.take m) eff rs a0 N σ E listed av w μ → wpAny P .any ⟨os⟩ Qc (fuel + (os.length - m)) listed av w := by
  have htl : (os.take m).length = m := by rw [List.length_take]; omega
  have hbl : (blank eff 0 (os.take m)).length = m := by rw [blank_length, htl]
  unfold drawOKE at hc
  simp only [Bool.and_eq_true] at hc
  obtain ⟨⟨⟨hcp, hct0⟩, hcs⟩, hcm⟩ := hc
  have hct : ∀ (i : Nat) (o : Oper), m ≤ i → os[i]? = some o → (∀ e ∈ o.after.toList, Region.binds .any e = true → e.on < i) ∧ ∀ j, j < i → hasEdge o j = true := by
    intro i o hi ho
    have := tailOK_at hct0 (i - m) o (by rw [List.getElem?_drop, show m + (i - m) = i by omega]; exact ho)
    rwa [show m + (i - m) = i by omega] at this
  have heffm : ∀ i, i ∈ eff → i < m := fun i hi => by have := List.all_eq_true.1 hcm i hi; rwa [Nat.blt_eq] at this
  have hedge : ∀ (q : Oper) (j : Nat), hasEdge q j = true → ∃ e ∈ q.after.toList, Region.binds .any e = true ∧ e.on = j := by
    intro q j h
    obtain ⟨e, he, h2⟩ := List.any_eq_true.1 h
    simp only [Bool.and_eq_true] at h2
    exact ⟨e, he, h2.1, Nat.eq_of_beq_eq_true h2.2⟩
  -- what the canonical environment says of a slot
  have hcan : ∀ (i s : Nat) (t : T), i ≤ m → get (envAt (blank eff 0 (os.take m)) rs a0 i) s = some t →
      (∃ (j : Nat) (p : Oper), j < i ∧ memB j eff = false ∧ (os.take m)[j]? = some p ∧ p.dst = some s ∧ rs[j]? = some t) ∨ ((∀ (j : Nat) (p : Oper), j < i → memB j eff = false → (os.take m)[j]? = some p → p.dst ≠ some s) ∧ get a0 s = some t) := by
    intro i s t hi hg
    rcases get_envAt _ rs a0 i s t (by rw [hl, htl, hbl]) (by omega) hg with ⟨j, o, h1, h2, h3, h4⟩ | ⟨h1, h2⟩
    · left
      rw [blank_at, Nat.zero_add] at h2
      cases hp : (os.take m)[j]? with
      | none => rw [hp] at h2; cases h2
      | some p =>
        rw [hp, Option.map_some] at h2
        injection h2 with h2
        cases hb : memB j eff with
        | true => rw [hb, cond_true] at h2; subst h2; cases h3
        | false => rw [hb, cond_false] at h2; subst h2; exact ⟨j, p, h1, hb, hp, h3, h4⟩
    · refine .inr ⟨fun j p hj hb hp => ?_, h2⟩
      have := h1 j p hj (by rw [blank_at, Nat.zero_add, hp, Option.map_some, hb, cond_false])
      exact this
  intro fuel
  induction fuel with
  | zero =>
    intro l es E σ listed av w μ hn hlen hsz hmem hlm hso hes hel hev hd
    obtain rfl : l = [] := List.eq_nil_of_length_eq_zero hlen
    have hall : ∀ i, i < m → listed.getD i false = true := by
      intro i hi
      have h1 : ¬ listed.getD i true = false := fun h => by simpa using (hmem i).2 ⟨hi, h⟩
      simp only [Array.getD_eq_getD_getElem?, Array.getElem?_eq_getElem (show i < listed.size by omega), Option.getD_some] at h1 ⊢
      simpa using h1
    obtain rfl : es = [] := by
      cases es with
      | nil => rfl
      | cons i is =>
        obtain ⟨h1, h2⟩ := (hes i).1 (by simp)
        rw [hall i (heffm i h1)] at h2; cases h2
    rw [Nat.zero_add]
    refine hQ av w μ σ _ listed hsz (fun i => ⟨hlm i, hall i⟩) hev hd.inv ⟨hd.size, hd.defers, fun s t ht => ?_⟩ hel.2
    rw [get_append] at ht
    cases hE : get E s with
    | some u => rw [hE] at ht; injection ht with ht; subst ht; exact hd.effd s u hE
    | none =>
      rw [hE] at ht
      rcases hcan m s t (Nat.le_refl _) ht with ⟨j, p, h1, h2, h3, h4, h5⟩ | ⟨h1, h2⟩
      · exact hd.done j p s t (hall j h1) h2 h3 h4 h5
      · refine hd.base s t (fun j p hj hp hps => ?_) h2
        cases hb : memB j eff with
        | true => exact hd.ehas j p s hj hb hp hps hE
        | false => exact h1 j p (by have := (List.getElem?_eq_some_iff.1 hp).1; omega) hb hp hps
  | succ fuel ih =>
    intro l es E σ listed av w μ hn hlen hsz hmem hlm hso hes hel hev hd
    have hdef : ∀ i, i < os.length → listed.getD i true = listed.getD i false := by
      intro i hi
      simp only [Array.getD_eq_getD_getElem?, Array.getElem?_eq_getElem (show i < listed.size by omega), Option.getD_some]
    rw [show fuel + 1 + (os.length - m) = (fuel + (os.length - m)) + 1 by omega]
    refine ⟨fun hr => ?_, fun i hi => ?_⟩
    · exfalso
      obtain ⟨i, hil, him⟩ := minimal (l := l) (by intro h; subst h; simp at hlen)
      obtain ⟨h1, h2⟩ := (hmem i).1 hil
      have : i ∈ Region.ready .any ⟨os⟩ listed := by
        simp only [Region.ready, List.mem_filter, List.mem_range]
        refine ⟨by simp; omega, ?_⟩
        have hil2 : i < os.length := by omega
        have ho : (⟨os⟩ : Array Oper)[i]? = some os[i] := by simp [hil2]
        simp only [h2, ho, Option.map_some, Option.getD_some, Bool.not_false, Bool.true_and]
        rw [← Array.all_toList, List.all_eq_true]
        intro e he
        obtain ⟨k1, _⟩ := okE1_at hcp i os[i] (by rw [List.getElem?_take_of_lt h1, List.getElem?_eq_getElem (by omega)])
        cases hb : Region.binds .any e with
        | false => simp
        | true =>
          have := k1 e he hb
          have h3 : e.on < m := by omega
          have h4 : ¬ e.on ∈ l := fun h => by have := him _ h; omega
          have h5 : ¬ listed.getD e.on true = false := fun h => h4 ((hmem _).2 ⟨h3, h⟩)
          rw [hdef _ (by omega)] at h5
          simpa using h5
      rw [hr] at this; cases this
    · simp only [Region.ready, List.mem_filter, List.mem_range, Bool.and_eq_true] at hi
      obtain ⟨hi1, hi2, hi3⟩ := hi
      have hin0 : i < os.length := by simpa using hi1
      have hil : listed.getD i true = false := by simpa using hi2
      have hilf : listed.getD i false = false := by rw [← hdef i hin0]; exact hil
      obtain ⟨o, ho0⟩ : ∃ o, os[i]? = some o := ⟨_, List.getElem?_eq_getElem hin0⟩
      have ho' : (⟨os⟩ : Array Oper)[i]? = some o := by simpa using ho0
      simp only [ho', Option.map_some, Option.getD_some] at hi3
      rw [← Array.all_toList, List.all_eq_true] at hi3
      have hready : ∀ e ∈ o.after.toList, Region.binds .any e = true → listed.getD e.on false = true := by
        intro e he hb
        have := hi3 e he
        simpa [hb] using this
      have hre : ∀ j, hasEdge o j = true → listed.getD j false = true := by
        intro j hj
        obtain ⟨e, he, hb, hon⟩ := hedge o j hj
        exact hon ▸ hready e he hb
      have hin : i < m := by
        rcases Nat.lt_or_ge i m with h | h
        · exact h
        · exfalso
          obtain ⟨j, hj⟩ : ∃ j, j ∈ l := by cases l with | nil => simp at hlen | cons x l => exact ⟨x, by simp⟩
          obtain ⟨h1, h2⟩ := (hmem j).1 hj
          have := hre j ((hct i o h ho0).2 j (by omega))
          rw [← hdef j (by omega), h2] at this; cases this
      have ho : (os.take m)[i]? = some o := by rw [List.getElem?_take_of_lt hin]; exact ho0
      obtain ⟨hk1, hk2⟩ := okE1_at hcp i o ho
      simp only [Nat.zero_add] at hk1 hk2
      have hpair : ∀ (j : Nat) (p : Oper), (os.take m)[j]? = some p → pairE ⟨os⟩ eff i j o p = true := fun j p hp => by simpa using okE2_at hk2 j p hp
      have hfar : ∀ (n : Nat) (q : Oper) (j : Nat), (∀ e ∈ q.after.toList, Region.binds .any e = true → e.on < m ∧ listed.getD e.on false = true) → far ⟨os⟩ n q j = true → listed.getD j false = true := by
        intro n
        induction n with
        | zero =>
          intro q j hq h
          obtain ⟨e, he, hb, hon⟩ := hedge q j h
          exact hon ▸ (hq e he hb).2
        | succ n ih =>
          intro q j hq h
          rw [far, Bool.or_eq_true] at h
          rcases h with h | h
          · obtain ⟨e, he, hb, hon⟩ := hedge q j h
            exact hon ▸ (hq e he hb).2
          · obtain ⟨e, he, h2⟩ := List.any_eq_true.1 h
            rw [Bool.and_eq_true] at h2
            obtain ⟨h3, h4⟩ := hq e he h2.1
            have h5 := h2.2
            split at h5
            · rename_i p hp
              have hp' : (os.take m)[e.on]? = some p := by rw [List.getElem?_take_of_lt h3]; simpa using hp
              refine ih p j (fun e' he' hb' => ⟨?_, hd.closed e.on p h4 hp' e' he' hb'⟩) h5
              obtain ⟨k1, _⟩ := okE1_at hcp e.on p hp'
              have := k1 e' he' hb'
              omega
            · cases h5
      have hreF : ∀ j, far ⟨os⟩ 2 o j = true → listed.getD j false = true := fun j hj => hfar 2 o j (fun e he hb => ⟨by have := hk1 e he hb; omega, hready e he hb⟩) hj
      have hclosed : ∀ (j : Nat) (p : Oper), listed.getD j false = true → (os.take m)[j]? = some p → far ⟨os⟩ 2 p i = true → False := by
        intro j p hj hp h
        have := hfar 2 p i (fun e he hb => ⟨by obtain ⟨k1, _⟩ := okE1_at hcp j p hp; have := k1 e he hb; have := (List.getElem?_eq_some_iff.1 hp).1; rw [List.length_take] at this; omega, hd.closed j p hj hp e he hb⟩) h
        rw [hilf] at this; cases this
      have hssa : ∀ (j : Nat) (p : Oper) (s : Nat), (os.take m)[j]? = some p → p.dst = some s → i ≠ j → o.dst ≠ some s := by
        intro j p s hp hps hij h
        have := hpair j p hp
        simp [pairE, hps, h, beqF hij] at this
      have hsize : ∀ b, (listed.setIfInBounds i b).size = os.length := by intro b; simpa using hsz
      have hcond : ∀ j, (listed.setIfInBounds i true).getD j false = cond (Nat.beq i j) true (listed.getD j false) := fun j => setD (by omega)
      -- the step behind an operation
      have hnew : ∀ (es' : List Nat) (E' : Env) (σ' : St) (av' : Act) (w' : World) (μ' : Gh) (u : T), sortedB es' = true → (∀ j, j ∈ es' ↔ j ∈ eff ∧ (listed.setIfInBounds i true).getD j false = false) →
          EL P N ⟨os⟩ F fin (envAt (blank eff 0 (os.take m)) rs a0 m) es' E' σ' → Ev w μ σ w' μ' σ' → Inv w' μ' σ' → av'.tmps.size = N → av'.defers = [] → (∀ s, o.dst ≠ some s → av'.tmps[s]? = av.tmps[s]?) →
          (∀ s, o.dst = some s → ∃ v, av'.tmps[s]? = some v ∧ Rel w' μ' σ' v u) →
          (memB i eff = true ∧ E' = put E o.dst u ∨ memB i eff = false ∧ E' = E ∧ rs[i]? = some u) → wpAny P .any ⟨os⟩ Qc (fuel + (os.length - m)) (listed.setIfInBounds i true) av' w' := by
        intro es' E' σ' av' w' μ' u hso' hes' hel' hev' hi' hsz' hdf' hfr hdst hcase
        refine ih (l.erase i) es' E' σ' _ av' w' μ' (hn.erase i) ?_ (hsize _) (fun j => ?_) (fun j hj => ?_) hso' hes' hel' (hev.trans hev') ⟨hi', hsz', hdf', ?_, ?_, ?_, ?_, ?_, ?_⟩
        · rw [List.length_erase_of_mem ((hmem i).2 ⟨hin, hil⟩)]; omega
        · rw [hn.mem_erase_iff, hmem j, setD (by omega)]
          by_cases e : i = j
          · subst e; simp
          · rw [beqF e]; simp only [cond_false]
            exact ⟨fun h => h.2, fun h => ⟨fun h' => e h'.symm, h⟩⟩
        · by_cases e : i = j
          · omega
          · rw [hcond, beqF e] at hj; exact hlm j hj
        · intro s t hno ht
          have hds : o.dst ≠ some s := hno i o (by rw [hcond]; simp) ho
          rw [hfr s hds]
          obtain ⟨v, hv, r⟩ := hd.base s t (fun j p hj hp => hno j p (by rw [hcond, hj]; cases Nat.beq i j <;> rfl) hp) ht
          exact ⟨v, hv, r.ev hev'⟩
        · intro j p s t hj hje hp hps ht
          by_cases e : i = j
          · subst e
            rw [ho] at hp; injection hp with hp; subst hp
            rcases hcase with ⟨h1, _⟩ | ⟨_, _, h1⟩
            · rw [h1] at hje; cases hje
            · rw [ht] at h1; injection h1 with h1; subst h1
              exact hdst s hps
          · rw [hcond, beqF e, cond_false] at hj
            rw [hfr s (hssa j p s hp hps e)]
            obtain ⟨v, hv, r⟩ := hd.done j p s t hj hje hp hps ht
            exact ⟨v, hv, r.ev hev'⟩
        · intro s t ht
          have hold : get E s = some t → o.dst ≠ some s → ∃ v, av'.tmps[s]? = some v ∧ Rel w' μ' σ' v t := by
            intro ht hds
            rw [hfr s hds]
            obtain ⟨v, hv, r⟩ := hd.effd s t ht
            exact ⟨v, hv, r.ev hev'⟩
          have hne : get E s = some t → o.dst ≠ some s := by
            intro ht
            obtain ⟨j, p, h1, h2, h3, h4⟩ := hd.ekey s t ht
            exact hssa j p s h3 h4 (by intro e; subst e; rw [hilf] at h1; cases h1)
          rcases hcase with ⟨_, rfl⟩ | ⟨_, rfl, _⟩
          · cases hdd : o.dst with
            | none => rw [hdd] at ht; exact hold ht (by rw [hdd]; simp)
            | some d =>
              rw [hdd] at ht
              by_cases e : d = s
              · subst e
                have : u = t := by simpa [put, get] using ht
                subst this
                exact hdst d hdd
              · have ht' : get E s = some t := by simpa [put, get, beqF e] using ht
                exact hold ht' (hne ht')
          · exact hold ht (hne ht)
        · intro s t ht
          have hold : get E s = some t → ∃ (j : Nat) (p : Oper), (listed.setIfInBounds i true).getD j false = true ∧ memB j eff = true ∧ (os.take m)[j]? = some p ∧ p.dst = some s := by
            intro ht
            obtain ⟨j, p, h1, h2, h3, h4⟩ := hd.ekey s t ht
            exact ⟨j, p, by rw [hcond, h1]; cases Nat.beq i j <;> rfl, h2, h3, h4⟩
          rcases hcase with ⟨hie, rfl⟩ | ⟨_, rfl, _⟩
          · cases hdd : o.dst with
            | none => rw [hdd] at ht; exact hold ht
            | some d =>
              rw [hdd] at ht
              by_cases e : d = s
              · subst e
                exact ⟨i, o, by rw [hcond]; simp, hie, ho, hdd⟩
              · exact hold (by simpa [put, get, beqF e] using ht)
          · exact hold ht
        · intro j p s hj hje hp hps
          by_cases e : i = j
          · subst e
            rw [ho] at hp; injection hp with hp; subst hp
            rcases hcase with ⟨_, rfl⟩ | ⟨h1, _⟩
            · rw [hps]; simp [put, get]
            · rw [h1] at hje; cases hje
          · rw [hcond, beqF e, cond_false] at hj
            have h0 := hd.ehas j p s hj hje hp hps
            rcases hcase with ⟨_, rfl⟩ | ⟨_, rfl, _⟩
            · cases hdd : o.dst with
              | none => exact h0
              | some d =>
                have : d ≠ s := fun e' => hssa j p s hp hps e (by rw [hdd, e'])
                simpa [put, get, beqF this] using h0
            · exact h0
        · intro j p hj hp e he hb
          rw [hcond]
          cases hij : Nat.beq i e.on with
          | true => rfl
          | false =>
            rw [hcond] at hj
            cases hij2 : Nat.beq i j with
            | true =>
              have := Nat.eq_of_beq_eq_true hij2; subst this
              rw [ho] at hp; injection hp with hp; subst hp
              exact hready e he hb
            | false => rw [hij2] at hj; exact hd.closed j p hj hp e he hb
      unfold wpOp
      simp only [ho']
      cases hie : memB i eff with
      | false =>
        obtain ⟨t, ht, hstep0⟩ := hs i o ho hie
        have hstep := hstep0 σ hel.fam
        have hrel : RelA w μ σ N av (restr (envAt (blank eff 0 (os.take m)) rs a0 i) (looks ⟨os⟩ o)) := by
          refine ⟨hd.size, hd.defers, fun s u hu => ?_⟩
          obtain ⟨m1, m2⟩ := get_restr hu
          rcases hcan i s u (by omega) m2 with ⟨j, p, h1, h2, h3, h4, h5⟩ | ⟨h1, h2⟩
          · have := hpair j p h3
            simp only [pairE, h4, memB_of m1, hie, h2, Bool.not_true, Bool.false_or, Bool.and_eq_true, cond_false, show Nat.blt j i = true from (by rw [Nat.blt_eq]; exact h1), cond_true] at this
            exact hd.done j p s u (hreF j this.2.2) h2 h3 h4 h5
          · refine hd.base s u (fun j p hj hp hps => ?_) h2
            have := hpair j p hp
            cases hje : memB j eff with
            | true =>
              simp only [pairE, hps, memB_of m1, hie, hje, Bool.not_true, Bool.false_or, Bool.and_eq_true, cond_false, cond_true] at this
              exact hclosed j p hj hp this.2.2.2
            | false =>
              rcases Nat.lt_trichotomy j i with h | h | h
              · exact h1 j p h hje hp hps
              · subst h; rw [hilf] at hj; cases hj
              · have hb : Nat.blt j i = false := by cases hb : Nat.blt j i with | false => rfl | true => rw [Nat.blt_eq] at hb; omega
                simp only [pairE, hps, memB_of m1, hie, hje, Bool.not_true, Bool.false_or, Bool.and_eq_true, hb, cond_false, show Nat.blt i j = true from (by rw [Nat.blt_eq]; exact h), cond_true] at this
                exact hclosed j p hj hp this.2.2
        have hes' : ∀ j, j ∈ es ↔ j ∈ eff ∧ (listed.setIfInBounds i true).getD j false = false := by
          intro j
          rw [hes j, hcond]
          by_cases e : i = j
          · subst e
            have : ¬ i ∈ eff := fun h => by rw [memB_of h] at hie; cases hie
            simp [this]
          · rw [beqF e, cond_false]
        rcases hstep with ⟨hg, hA⟩ | ⟨hg, rfl, hfit⟩
        · rw [wanted_of hrel hg, if_pos rfl]
          refine .inl ?_
          have := hA (fun a' σ' => a' = put (restr (envAt (blank eff 0 (os.take m)) rs a0 i) (looks ⟨os⟩ o)) o.dst t ∧ σ' = σ) ⟨rfl, rfl⟩ av w μ hd.inv hrel (fun av' w' => ∃ μ', Ev w μ σ w' μ' σ ∧ Inv w' μ' σ ∧ RelA w' μ' σ N av' (put (restr (envAt (blank eff 0 (os.take m)) rs a0 i) (looks ⟨os⟩ o)) o.dst t)) Qc
            (by rintro av' w' μ' a' σ' h1 h2 h3 ⟨rfl, rfl⟩; exact ⟨μ', h1, h2, h3⟩)
          refine Oper.wp_mono ?_ (upon_frame this)
          rintro av' w' ⟨⟨μ', h1, h2, h3⟩, h4⟩
          exact hnew es E σ av' w' μ' t hso hes' hel h1 h2 h3.size h3.defers h4 (fun s hs => h3.tmp s t (by rw [hs]; simp [put, get])) (.inr ⟨hie, rfl, ht⟩)
        · rw [wanted_of hrel hg, if_neg (by simp)]
          have hp := hrel.put hfit (v := undef) (t := .tup []) (.tup [] #[] rfl fun j c v h1 h2 => by simp at h1)
          refine hnew es E σ _ w μ (.tup []) hso hes' hel (.refl _ _ _) hd.inv hp.size hp.defers (fun s hs => ?_) (fun s hs => ?_) (.inr ⟨hie, rfl, ht⟩)
          · cases hd' : o.dst with
            | none => simp [Act.put]
            | some d =>
              have : d ≠ s := fun e => hs (by rw [hd', e])
              simp [Act.put, Array.getElem?_setIfInBounds, this]
          · exact hp.tmp s _ (by rw [hs]; simp [put, get])
      | true =>
        have hieff : i ∈ eff := memB_iff.1 hie
        obtain ⟨i0, is, rfl⟩ : ∃ i0 is, es = i0 :: is := by
          cases es with
          | nil => have := (hes i).2 ⟨hieff, hilf⟩; cases this
          | cons i0 is => exact ⟨i0, is, rfl⟩
        have hi0 : i = i0 := by
          have h1 := (hes i).2 ⟨hieff, hilf⟩
          rcases List.mem_cons.1 h1 with h | h
          · exact h
          · exfalso
            have hlt := sorted_head hso i h
            obtain ⟨h2, h3⟩ := (hes i0).1 (by simp)
            obtain ⟨p, hp⟩ : ∃ p, (os.take m)[i0]? = some p := ⟨_, List.getElem?_eq_getElem (by have := heffm i0 h2; omega)⟩
            have := hpair i0 p hp
            simp only [pairE, hie, memB_of h2, Bool.and_true, show Nat.blt i0 i = true from (by rw [Nat.blt_eq]; exact hlt), cond_true, Bool.and_eq_true] at this
            rw [hreF i0 this.1] at h3; cases h3
        subst hi0
        obtain ⟨hF, o2, ho2, hcase⟩ := hel
        rw [ho'] at ho2; injection ho2 with ho2; subst ho2
        have hrel : RelA w μ σ N av (restr (E ++ envAt (blank eff 0 (os.take m)) rs a0 m) (looks ⟨os⟩ o)) := by
          refine ⟨hd.size, hd.defers, fun s u hu => ?_⟩
          obtain ⟨m1, m2⟩ := get_restr hu
          rw [get_append] at m2
          cases hE : get E s with
          | some u' => rw [hE] at m2; injection m2 with m2; subst m2; exact hd.effd s u' hE
          | none =>
            rw [hE] at m2
            rcases hcan m s u (Nat.le_refl _) m2 with ⟨j, p, h1, h2, h3, h4, h5⟩ | ⟨h1, h2⟩
            · have := hpair j p h3
              simp only [pairE, h4, memB_of m1, hie, h2, Bool.not_true, Bool.false_or, Bool.and_eq_true, cond_false, cond_true] at this
              exact hd.done j p s u (hreF j this.2.2.2) h2 h3 h4 h5
            · refine hd.base s u (fun j p hj hp hps => ?_) h2
              cases hje : memB j eff with
              | true => exact hd.ehas j p s hj hje hp hps hE
              | false => exact h1 j p (by have := (List.getElem?_eq_some_iff.1 hp).1; omega) hje hp hps
        have hes' : ∀ j, j ∈ is ↔ j ∈ eff ∧ (listed.setIfInBounds i true).getD j false = false := by
          intro j
          rw [hcond]
          have h1 := hes j
          by_cases e : i = j
          · subst e
            have : ¬ i ∈ is := fun h => by have := sorted_head hso i h; omega
            simp [this]
          · rw [beqF e, cond_false, ← h1, List.mem_cons]
            exact ⟨.inr, fun h => h.resolve_left (fun h => e h.symm)⟩
        rcases hcase with ⟨hg, hA⟩ | ⟨hg, hfit, hel'⟩
        · rw [wanted_of hrel hg, if_pos rfl]
          refine .inl ?_
          have := hA av w μ hd.inv hrel (fun av' w' => ∃ u σ' μ', EL P N ⟨os⟩ F fin (envAt (blank eff 0 (os.take m)) rs a0 m) is (put E o.dst u) σ' ∧ Ev w μ σ w' μ' σ' ∧ Inv w' μ' σ' ∧ RelA w' μ' σ' N av' (put (restr (E ++ envAt (blank eff 0 (os.take m)) rs a0 m) (looks ⟨os⟩ o)) o.dst u)) Qc
            (by rintro av' w' μ' a' σ' h1 h2 h3 ⟨u, rfl, h4⟩; exact ⟨u, σ', μ', h4, h1, h2, h3⟩)
          refine Oper.wp_mono ?_ (upon_frame this)
          rintro av' w' ⟨⟨u, σ', μ', h0, h1, h2, h3⟩, h4⟩
          exact hnew is (put E o.dst u) σ' av' w' μ' u (sorted_tail hso) hes' h0 h1 h2 h3.size h3.defers h4 (fun s hs => h3.tmp s u (by rw [hs]; simp [put, get])) (.inl ⟨hie, rfl⟩)
        · rw [wanted_of hrel hg, if_neg (by simp)]
          have hp := hrel.put hfit (v := undef) (t := .tup []) (.tup [] #[] rfl fun j c v h1 h2 => by simp at h1)
          refine hnew is (put E o.dst (.tup [])) σ _ w μ (.tup []) (sorted_tail hso) hes' hel' (.refl _ _ _) hd.inv hp.size hp.defers (fun s hs => ?_) (fun s hs => ?_) (.inl ⟨hie, rfl⟩)
          · cases hd' : o.dst with
            | none => simp [Act.put]
            | some d =>
              have : d ≠ s := fun e => hs (by rw [hd', e])
              simp [Act.put, Array.getElem?_setIfInBounds, this]
          · exact hp.tmp s _ (by rw [hs]; simp [put, get])

theorem aw_drawE {id m : Nat} {os pre post : List Oper} {a : Env} {Q : Exit → Env → St → Prop} (eff : List Nat) (F : St → Prop) (hm : P.follows .mixedOrders = true) (hc : drawOKE ⟨os⟩ m eff = true) (hml : Nat.ble m os.length = true) (hp : os.take m = pre) (hq : os.drop m = post)
    (h : DQ P N ⟨os⟩ eff F (fun A => EL P N ⟨os⟩ F (fun a' σ' => AL P N ⟨os⟩ Q m post a' σ') A eff [] σ) 0 pre a) : AW P N (.region id ⟨os⟩ true) Q a σ := by
  subst hp; subst hq
  have hml' := Nat.le_of_ble_eq_true hml
  have htl : (os.take m).length = m := by rw [List.length_take]; omega
  intro av w μ hi hr
  obtain ⟨rs, h1, h2, h3⟩ := dq_can (os.take m) 0 a h
  rw [htl] at h3
  have hev : Ev w μ σ { w with drawn := w.drawn + 1 } μ σ := ev_same rfl rfl rfl rfl
  have hi' : Inv { w with drawn := w.drawn + 1 } μ σ := hi.ev_heap rfl hev
  have X1 : ∀ i, i ∈ List.range m ↔ i < m ∧ (Array.replicate os.length false).getD i true = false := by
    intro i
    simp only [List.mem_range]
    constructor
    · intro h; exact ⟨h, by simp [Array.getD]; omega⟩
    · intro h; exact h.1
  have hf : ∀ j, (Array.replicate os.length false).getD j false = true → False := by
    intro j hj
    simp [Array.getD] at hj
  have X3 : EInv (os.take m) eff rs a N σ [] (Array.replicate os.length false) av { w with drawn := w.drawn + 1 } μ :=
    ⟨hi', hr.size, hr.defers, fun s t _ ht => (hr.ev hev).tmp s t ht, fun j o s t hj => (hf j hj).elim, fun s t h => by simp [get] at h, fun s t h => by simp [get] at h, fun j o s hj => (hf j hj).elim, fun j o hj => (hf j hj).elim⟩
  have hso : sortedB eff = true := by
    unfold drawOKE at hc; simp only [Bool.and_eq_true] at hc; exact hc.1.2
  have hct : ∀ (i : Nat) (o : Oper), m ≤ i → os[i]? = some o → (∀ e ∈ o.after.toList, Region.binds .any e = true → e.on < i) ∧ ∀ j, j < i → hasEdge o j = true := by
    intro i o hi ho
    unfold drawOKE at hc; simp only [Bool.and_eq_true] at hc
    have := tailOK_at hc.1.1.2 (i - m) o (by rw [List.getElem?_drop, show m + (i - m) = i by omega]; exact ho)
    rwa [show m + (i - m) = i by omega] at this
  have key := wpAny_eff (w0 := w) (μ0 := μ) (σ0 := σ) (Qc := fun e av' w' => ∃ a' σ' μ', Ev w μ σ w' μ' σ' ∧ Inv w' μ' σ' ∧ RelA w' μ' σ' N av' a' ∧ Q e a' σ') hml' hc h1 (fun j o ho hj => h2 j o ho (by rwa [Nat.zero_add]))
    (fun av' w' μ' σ' a' listed k1 k2 k3 k4 k5 k6 => wpAny_tail hct _ m listed av' w' (by omega) (Nat.le_refl _) k1 k2 (by
      have := k6 rfl av' w' μ' k4 k5 _ (fun e av2 w2 μ2 a2 σ2 l1 l2 l3 l4 => (⟨a2, σ2, μ2, k3.trans l1, l2, l3, l4⟩ : ∃ a' σ' μ2, Ev w μ σ w2 μ2 σ' ∧ Inv w2 μ2 σ' ∧ RelA w2 μ2 σ' N av2 a' ∧ Q e a' σ'))
      rwa [List.length_drop] at this))
    m (List.range m) eff [] σ (Array.replicate os.length false) av { w with drawn := w.drawn + 1 } μ List.nodup_range (by simp) (by simp) X1 (fun j hj => (hf j hj).elim) hso (fun i => ⟨fun h => ⟨h, by simp [Array.getD]⟩, fun h => h.1⟩) h3 hev X3
  refine wp_region_any hm ?_
  rw [show m + (os.length - m) = os.length by omega] at key
  exact key

/-- A list cut in two. -/
inductive Sp {α : Type} : Nat → List α → List α → List α → Prop
  | zero (l : List α) : Sp 0 l [] l
  | succ {n : Nat} {x : α} {l p q : List α} (h : Sp n l p q) : Sp (n + 1) (x :: l) (x :: p) q
theorem Sp.eq {α : Type} {n : Nat} {l p q : List α} (h : Sp n l p q) : l.take n = p ∧ l.drop n = q ∧ n ≤ l.length := by
  induction h with
  | zero l => exact ⟨rfl, rfl, Nat.zero_le _⟩
  | succ h ih => exact ⟨by simp [ih.1], by simpa using ih.2.1, by simpa using ih.2.2⟩
theorem aw_drawE' {id m : Nat} {os pre post : List Oper} {a : Env} {Q : Exit → Env → St → Prop} (eff : List Nat) (F : St → Prop) (hm : P.follows .mixedOrders = true) (hc : drawOKE ⟨os⟩ m eff = true) (hs : Sp m os pre post)
    (h : let O1 : Array Oper := ⟨os⟩; let F1 := F; let Z1 := fun a' σ' => AL P N O1 Q m post a' σ'; let Q2 := fun A => EL P N O1 F1 Z1 A eff [] σ; DQ P N O1 eff F1 Q2 0 pre a) : AW P N (.region id ⟨os⟩ true) Q a σ :=
  aw_drawE eff F hm hc (Nat.ble_eq_true_of_le hs.eq.2.2) hs.eq.1 hs.eq.2.1 h

variable {ops : Array Oper} {eff : List Nat} {F : St → Prop} {QE : Env → Prop} {a : Env}
theorem dq_nil {i : Nat} (h : QE a) : DQ P N ops eff F QE i [] a := h
theorem dq_e {i : Nat} {o : Oper} {os : List Oper} (hb : memB i eff = true) (h : DQ P N ops eff F QE (i + 1) os a) : DQ P N ops eff F QE i (o :: os) a := by
  unfold DQ; rw [hb]; exact h
theorem dq_cons {i : Nat} {o : Oper} {os : List Oper} {d : Tmp} {t : T} (hb : memB i eff = false) (hg : guardOf ops (restr a (looks ops o)) o = some true) (hdd : o.dst = some d)
    (hs : ∀ σ, F σ → ∀ K : Env → St → Prop, K (put (restr a (looks ops o)) (some d) t) σ → AOp P N o (restr a (looks ops o)) σ K) (h : DQ P N ops eff F QE (i + 1) os (put a (some d) t)) : DQ P N ops eff F QE i (o :: os) a := by
  generalize some d = dd at *; subst hdd; unfold DQ; rw [hb]; exact ⟨t, fun σ hσ => .inl ⟨hg, hs σ hσ⟩, h⟩
theorem dq_s {i : Nat} {o : Oper} {os : List Oper} {d : Tmp} (hb : memB i eff = false) (hg : guardOf ops (restr a (looks ops o)) o = some false) (hdd : o.dst = some d) (hd : fitsD N (some d) = true) (h : DQ P N ops eff F QE (i + 1) os (put a (some d) (.tup []))) : DQ P N ops eff F QE i (o :: os) a := by
  generalize some d = dd at *; subst hdd; unfold DQ; rw [hb]; exact ⟨.tup [], fun σ hσ => .inr ⟨hg, rfl, hd⟩, h⟩
theorem dq_d {i : Nat} {o : Oper} {os : List Oper} {d : Tmp} {p : Prop} (hb : memB i eff = false) (hg : guardOf ops (restr a (looks ops o)) o = some true) (hdd : o.dst = some d)
    (hs : ∀ σ, F σ → ∀ K : Env → St → Prop, (p → K (put (restr a (looks ops o)) (some d) (.bool true)) σ) → (¬ p → K (put (restr a (looks ops o)) (some d) (.bool false)) σ) → AOp P N o (restr a (looks ops o)) σ K)
    (kt : p → DQ P N ops eff F QE (i + 1) os (put a (some d) (.bool true))) (kf : ¬ p → DQ P N ops eff F QE (i + 1) os (put a (some d) (.bool false))) : DQ P N ops eff F QE i (o :: os) a := by
  by_cases h : p
  · exact dq_cons hb hg hdd (fun σ hσ K kk => hs σ hσ K (fun _ => kk) (fun h' => absurd h h')) (kt h)
  · exact dq_cons hb hg hdd (fun σ hσ K kk => hs σ hσ K (fun h' => absurd h' h) (fun _ => kk)) (kf h)
variable {fin : Env → St → Prop} {A E : Env}
theorem el_nil (hF : F σ) (h : fin (E ++ A) σ) : EL P N ops F fin A [] E σ := ⟨hF, h⟩
theorem el_cons {i : Nat} {is : List Nat} {o : Oper} {d : Tmp} (hF : F σ) (ho : ops[i]? = some o) (hg : guardOf ops (restr (E ++ A) (looks ops o)) o = some true) (hdd : o.dst = some d)
    (h : ∀ K : Env → St → Prop, (∀ u σ', EL P N ops F fin A is (put E (some d) u) σ' → K (put (restr (E ++ A) (looks ops o)) (some d) u) σ') → AOp P N o (restr (E ++ A) (looks ops o)) σ K) : EL P N ops F fin A (i :: is) E σ := by
  generalize some d = dd at *
  subst hdd
  exact ⟨hF, o, ho, .inl ⟨hg, h _ (fun u σ' k => ⟨u, rfl, k⟩)⟩⟩
theorem el_consN {i : Nat} {is : List Nat} {o : Oper} (hF : F σ) (ho : ops[i]? = some o) (hg : guardOf ops (restr (E ++ A) (looks ops o)) o = some true) (hdd : o.dst = none)
    (h : ∀ K : Env → St → Prop, (∀ u σ', EL P N ops F fin A is (put E none u) σ' → K (put (restr (E ++ A) (looks ops o)) none u) σ') → AOp P N o (restr (E ++ A) (looks ops o)) σ K) : EL P N ops F fin A (i :: is) E σ := by
  generalize (none : Option Tmp) = dd at *
  subst hdd
  exact ⟨hF, o, ho, .inl ⟨hg, h _ (fun u σ' k => ⟨u, rfl, k⟩)⟩⟩
theorem el_s {i : Nat} {is : List Nat} {o : Oper} {d : Tmp} (hF : F σ) (ho : ops[i]? = some o) (hg : guardOf ops (restr (E ++ A) (looks ops o)) o = some false) (hdd : o.dst = some d) (hd : fitsD N (some d) = true) (h : EL P N ops F fin A is (put E (some d) (.tup [])) σ) : EL P N ops F fin A (i :: is) E σ := by
  generalize some d = dd at *
  subst hdd
  exact ⟨hF, o, ho, .inr ⟨hg, hd, h⟩⟩
end
end Go.Ts
