/- Trees, continued: regions that draw their order. Each operation is met in its place of the text, by what it looks at; the order does not matter. -/
import Derived.Orders
import Derived.Test.YtholeicgmkjadaaTsG
namespace Go.Ts
set_option linter.unusedSimpArgs false
set_option linter.unusedVariables false

def looks (ops : Array Oper) (o : Oper) : List Nat :=
  (o.op.operands.toList.filterMap fun | .tmp t => some t | _ => none) ++
  (match o.guard with
   | some (g, _) => ((ops[g]?).bind (·.dst)).toList
   | none => [])
def memB (s : Nat) : List Nat → Bool
  | [] => false
  | x :: l => cond (Nat.beq x s) true (memB s l)
/-- What is known of some temporaries only. -/
def restr (a : Env) : List Nat → Env
  | [] => []
  | s :: l => match get a s with
    | some t => (s, t) :: restr a l
    | none => restr a l
theorem get_restr {a : Env} {s : Nat} {t : T} : ∀ {l : List Nat}, get (restr a l) s = some t → s ∈ l ∧ get a s = some t
  | [], h => by simp [restr, get] at h
  | x :: l, h => by
    unfold restr at h
    cases hx : get a x with
    | none =>
      simp only [hx] at h
      obtain ⟨h1, h2⟩ := get_restr h
      exact ⟨List.mem_cons_of_mem _ h1, h2⟩
    | some u =>
      simp only [hx] at h
      by_cases e : x = s
      · subst e
        have : u = t := by simpa [get] using h
        subst this
        exact ⟨List.mem_cons_self, hx⟩
      · simp only [get, beqF e, cond_false] at h
        obtain ⟨h1, h2⟩ := get_restr h
        exact ⟨List.mem_cons_of_mem _ h1, h2⟩

def hasEdge (o : Oper) (j : Nat) : Bool := o.after.toList.any fun e => Region.binds .any e && Nat.beq e.on j
def pairOK (ops : Array Oper) (i j : Nat) (o p : Oper) : Bool :=
  match p.dst with
  | none => true
  | some s => (Nat.beq i j || !(match o.dst with | some s' => Nat.beq s s' | none => false)) && (!memB s (looks ops o) || (cond (Nat.blt j i) (hasEdge o j) (cond (Nat.blt i j) (hasEdge p i) true)))
def drawOK2 (ops : Array Oper) (i : Nat) (o : Oper) : Nat → List Oper → Bool
  | _, [] => true
  | j, p :: ps => pairOK ops i j o p && drawOK2 ops i o (j + 1) ps
def drawOK1 (ops : Array Oper) : Nat → List Oper → Bool
  | _, [] => true
  | i, o :: os => (o.after.toList.all fun e => !Region.binds .any e || Nat.blt e.on i) && drawOK2 ops i o 0 ops.toList && drawOK1 ops (i + 1) os
def drawOK (ops : Array Oper) : Bool := drawOK1 ops 0 ops.toList

theorem memB_of {s : Nat} : ∀ {l : List Nat}, s ∈ l → memB s l = true
  | x :: l, h => by
    unfold memB
    by_cases e : x = s
    · subst e; simp
    · rw [beqF e]
      rcases List.mem_cons.1 h with h | h
      · exact absurd h.symm e
      · exact memB_of h
theorem drawOK2_at {ops : Array Oper} {i : Nat} {o : Oper} : ∀ {j0 : Nat} {ps : List Oper}, drawOK2 ops i o j0 ps = true → ∀ (j : Nat) (p : Oper), ps[j]? = some p → pairOK ops i (j0 + j) o p = true
  | j0, [], _, j, p, h => by simp at h
  | j0, q :: ps, h, j, p, hp => by
    simp only [drawOK2, Bool.and_eq_true] at h
    cases j with
    | zero => simp at hp; subst hp; exact h.1
    | succ j =>
      have := drawOK2_at h.2 j p (by simpa using hp)
      rwa [show j0 + 1 + j = j0 + (j + 1) by omega] at this
theorem drawOK1_at {ops : Array Oper} : ∀ {i0 : Nat} {os : List Oper}, drawOK1 ops i0 os = true → ∀ (i : Nat) (o : Oper), os[i]? = some o →
    (∀ e ∈ o.after.toList, Region.binds .any e = true → e.on < i0 + i) ∧ drawOK2 ops (i0 + i) o 0 ops.toList = true
  | i0, [], _, i, o, h => by simp at h
  | i0, q :: os, h, i, o, ho => by
    simp only [drawOK1, Bool.and_eq_true] at h
    cases i with
    | zero =>
      simp at ho; subst ho
      refine ⟨fun e he hb => ?_, h.1.2⟩
      have := List.all_eq_true.1 h.1.1 e he
      simpa [hb, Nat.blt_eq] using this
    | succ i =>
      have := drawOK1_at h.2 i o (by simpa using ho)
      rwa [show i0 + 1 + i = i0 + (i + 1) by omega] at this

theorem upon_frame {P : Program} {o : Oper} {a : Act} {next : Act → World → Prop} {Q : Exit → Act → World → Prop} {r : Result Next} (h : o.upon P a next Q r) :
    o.upon P a (fun a' w' => next a' w' ∧ ∀ s, o.dst ≠ some s → a'.tmps[s]? = a.tmps[s]?) Q r := by
  have hp : ∀ (a' : Act) (v : Value), a'.tmps = a.tmps → ∀ s, o.dst ≠ some s → (a'.put o.dst v).tmps[s]? = a.tmps[s]? := by
    intro a' v ha s hs
    cases hd : o.dst with
    | none => simp [Act.put, ha]
    | some d =>
      have : d ≠ s := fun e => hs (by rw [hd, e])
      simp [Act.put, ha, Array.getElem?_setIfInBounds, this]
  cases r with
  | ok n w' =>
    cases n with
    | value v => exact ⟨h, hp a v rfl⟩
    | skip => exact ⟨h, hp a _ rfl⟩
    | defer d => exact ⟨h, hp _ _ rfl⟩
    | enter f args =>
      refine Calls.mono h fun e w'' he => ?_
      cases e with
      | returned v => exact ⟨he, hp a v rfl⟩
      | panicked c => exact he
      | outgrown => exact he
    | row f args => exact Rows.mono h fun v w'' he => ⟨he, hp a v rfl⟩
    | _ => exact h
  | halt x w' => cases x <;> exact h

section
variable {P : Program} {G : Nat → Option TI} {N : Nat} {σ : St}

/-- What an operation comes to, by what is known of what it looks at: a value, the state as it is. -/
def StepOK (P : Program) (N : Nat) (ops : Array Oper) (σ : St) (o : Oper) (b : Env) (t : T) : Prop :=
  (guardOf ops b o = some true ∧ ∀ K : Env → St → Prop, K (put b o.dst t) σ → AOp P N o b σ K) ∨ (guardOf ops b o = some false ∧ t = .tup [] ∧ fitsD N o.dst = true)

def DL (P : Program) (N : Nat) (ops : Array Oper) (Q : Exit → Env → St → Prop) (σ : St) : List Oper → Env → Prop
  | [], a => Q .normal a σ
  | o :: os, a => ∃ t, StepOK P N ops σ o (restr a (looks ops o)) t ∧ DL P N ops Q σ os (put a o.dst t)

def envAt : List Oper → List T → Env → Nat → Env
  | o :: os, t :: rs, a, j + 1 => envAt os rs (put a o.dst t) j
  | _, _, a, _ => a

theorem dl_can {ops : Array Oper} {Q : Exit → Env → St → Prop} : ∀ (os : List Oper) (a : Env), DL P N ops Q σ os a →
    ∃ rs : List T, rs.length = os.length ∧ (∀ (j : Nat) (o : Oper), os[j]? = some o → ∃ t, rs[j]? = some t ∧ StepOK P N ops σ o (restr (envAt os rs a j) (looks ops o)) t) ∧ Q .normal (envAt os rs a os.length) σ
  | [], a, h => ⟨[], rfl, fun j o ho => by simp at ho, by simpa [envAt, DL] using h⟩
  | o :: os, a, h => by
    obtain ⟨t, h1, h2⟩ := h
    obtain ⟨rs, k1, k2, k3⟩ := dl_can os _ h2
    refine ⟨t :: rs, by simp [k1], fun j o' ho' => ?_, by simpa [envAt] using k3⟩
    cases j with
    | zero => simp at ho'; subst ho'; exact ⟨t, rfl, by simpa [envAt] using h1⟩
    | succ j =>
      obtain ⟨t', h3, h4⟩ := k2 j o' (by simpa using ho')
      exact ⟨t', by simpa using h3, by simpa [envAt] using h4⟩

theorem get_envAt : ∀ (os : List Oper) (rs : List T) (a : Env) (i s : Nat) (t : T), rs.length = os.length → i ≤ os.length → get (envAt os rs a i) s = some t →
    (∃ (j : Nat) (o : Oper), j < i ∧ os[j]? = some o ∧ o.dst = some s ∧ rs[j]? = some t) ∨ ((∀ (j : Nat) (o : Oper), j < i → os[j]? = some o → o.dst ≠ some s) ∧ get a s = some t)
  | os, rs, a, 0, s, t, hl, hi, h => by
    right
    have : envAt os rs a 0 = a := by cases os <;> cases rs <;> rfl
    rw [this] at h
    exact ⟨fun j o hj => by omega, h⟩
  | [], rs, a, i + 1, s, t, hl, hi, h => by simp at hi
  | o :: os, [], a, i + 1, s, t, hl, hi, h => by simp at hl
  | o :: os, u :: rs, a, i + 1, s, t, hl, hi, h => by
    simp only [envAt] at h
    rcases get_envAt os rs _ i s t (by simpa using hl) (by simpa using hi) h with ⟨j, o', h1, h2, h3, h4⟩ | ⟨h1, h2⟩
    · exact .inl ⟨j + 1, o', by omega, by simpa using h2, h3, by simpa using h4⟩
    · cases hd : o.dst with
      | none =>
        rw [hd] at h2
        refine .inr ⟨fun j o' hj ho' => ?_, h2⟩
        cases j with
        | zero => simp at ho'; subst ho'; rw [hd]; simp
        | succ j => exact h1 j o' (by omega) (by simpa using ho')
      | some d =>
        rw [hd] at h2
        by_cases e : d = s
        · subst e
          have : u = t := by simpa [put, get] using h2
          subst this
          exact .inl ⟨0, o, by omega, rfl, hd, rfl⟩
        · simp only [put, get, beqF e, cond_false] at h2
          refine .inr ⟨fun j o' hj ho' => ?_, h2⟩
          cases j with
          | zero => simp at ho'; subst ho'; rw [hd]; simpa using e
          | succ j => exact h1 j o' (by omega) (by simpa using ho')

structure DInv (os : List Oper) (rs : List T) (a0 : Env) (N : Nat) (σ : St) (listed : Array Bool) (av : Act) (w : World) (μ : Gh) : Prop where
  inv : Inv w μ σ
  size : av.tmps.size = N
  defers : av.defers = []
  base : ∀ (s : Nat) (t : T), (∀ (j : Nat) (o : Oper), listed.getD j false = true → os[j]? = some o → o.dst ≠ some s) → get a0 s = some t → ∃ v, av.tmps[s]? = some v ∧ Rel w μ σ v t
  done : ∀ (j : Nat) (o : Oper) (s : Nat) (t : T), listed.getD j false = true → os[j]? = some o → o.dst = some s → rs[j]? = some t → ∃ v, av.tmps[s]? = some v ∧ Rel w μ σ v t
  closed : ∀ (j : Nat) (o : Oper), listed.getD j false = true → os[j]? = some o → ∀ e ∈ o.after.toList, Region.binds .any e = true → listed.getD e.on false = true

theorem minimal {l : List Nat} (h : l ≠ []) : ∃ i ∈ l, ∀ j ∈ l, i ≤ j := by
  cases l with
  | nil => exact absurd rfl h
  | cons x l =>
    induction l generalizing x with
    | nil => exact ⟨x, by simp, fun j hj => by simp at hj; omega⟩
    | cons y l ih =>
      obtain ⟨i, hi, hm⟩ := ih (min x y) (by simp)
      refine ⟨i, ?_, fun j hj => ?_⟩
      · rcases List.mem_cons.1 hi with h | h
        · rw [h]
          rcases Nat.le_total x y with h' | h'
          · rw [Nat.min_eq_left h']; simp
          · rw [Nat.min_eq_right h']; simp
        · simp [h]
      · have h0 := hm (min x y) (by simp)
        rcases List.mem_cons.1 hj with h | h
        · subst h; exact Nat.le_trans h0 (Nat.min_le_left _ _)
        · rcases List.mem_cons.1 h with h | h
          · subst h; exact Nat.le_trans h0 (Nat.min_le_right _ _)
          · exact hm j (by simp [h])

theorem setD {listed : Array Bool} {i j : Nat} (hi : i < listed.size) {d : Bool} : (listed.setIfInBounds i true).getD j d = cond (Nat.beq i j) true (listed.getD j d) := by
  by_cases e : i = j
  · subst e; simp [Array.getD, hi]
  · rw [beqF e]
    simp only [cond_false, Array.getD_eq_getD_getElem?, Array.getElem?_setIfInBounds, if_neg e]

theorem wpAny_of {os : List Oper} {rs : List T} {a0 : Env} {Qc : Exit → Act → World → Prop} {w0 : World} {μ0 : Gh} (hc : drawOK ⟨os⟩ = true) (hl : rs.length = os.length)
    (hs : ∀ (j : Nat) (o : Oper), os[j]? = some o → ∃ t, rs[j]? = some t ∧ StepOK P N ⟨os⟩ σ o (restr (envAt os rs a0 j) (looks ⟨os⟩ o)) t)
    (hQ : ∀ av' w' μ', Ev w0 μ0 σ w' μ' σ → Inv w' μ' σ → RelA w' μ' σ N av' (envAt os rs a0 os.length) → Qc .normal av' w') :
    ∀ (fuel : Nat) (l : List Nat) (listed : Array Bool) (av : Act) (w : World) (μ : Gh), l.Nodup → l.length = fuel → listed.size = os.length → (∀ i, i ∈ l ↔ i < os.length ∧ listed.getD i true = false) →
      Ev w0 μ0 σ w μ σ → DInv os rs a0 N σ listed av w μ → wpAny P .any ⟨os⟩ Qc fuel listed av w := by
  intro fuel
  induction fuel with
  | zero =>
    intro l listed av w μ hn hlen hsz hmem hev hd
    obtain rfl : l = [] := List.eq_nil_of_length_eq_zero hlen
    have hall : ∀ i, i < os.length → listed.getD i false = true := by
      intro i hi
      have h1 : ¬ listed.getD i true = false := fun h => by simpa using (hmem i).2 ⟨hi, h⟩
      simp only [Array.getD_eq_getD_getElem?, Array.getElem?_eq_getElem (show i < listed.size by omega), Option.getD_some] at h1 ⊢
      simpa using h1
    refine ⟨?_, hQ av w μ hev hd.inv ⟨hd.size, hd.defers, fun s t ht => ?_⟩⟩
    · simp only [Region.ready, List.filter_eq_nil_iff, List.mem_range]
      intro i hi
      have h1 := hall i (by simpa using hi)
      simp only [Array.getD_eq_getD_getElem?, Array.getElem?_eq_getElem (show i < listed.size by simp at hi; omega), Option.getD_some] at h1 ⊢
      simp [h1]
    · rcases get_envAt os rs a0 _ s t hl (Nat.le_refl _) ht with ⟨j, o, h1, h2, h3, h4⟩ | ⟨h1, h2⟩
      · exact hd.done j o s t (hall j h1) h2 h3 h4
      · exact hd.base s t (fun j o _ ho => h1 j o (List.getElem?_eq_some_iff.1 ho).1 ho) h2
  | succ fuel ih =>
    intro l listed av w μ hn hlen hsz hmem hev hd
    have hdef : ∀ i, i < os.length → listed.getD i true = listed.getD i false := by
      intro i hi
      simp only [Array.getD_eq_getD_getElem?, Array.getElem?_eq_getElem (show i < listed.size by omega), Option.getD_some]
    refine ⟨fun hr => ?_, fun i hi => ?_⟩
    · exfalso
      obtain ⟨i, hil, him⟩ := minimal (l := l) (by intro h; subst h; simp at hlen)
      obtain ⟨h1, h2⟩ := (hmem i).1 hil
      have : i ∈ Region.ready .any ⟨os⟩ listed := by
        simp only [Region.ready, List.mem_filter, List.mem_range]
        refine ⟨by simpa using h1, ?_⟩
        have ho : (⟨os⟩ : Array Oper)[i]? = some os[i] := by simp [h1]
        simp only [h2, ho, Option.map_some, Option.getD_some, Bool.not_false, Bool.true_and]
        rw [← Array.all_toList, List.all_eq_true]
        intro e he
        obtain ⟨k1, _⟩ := drawOK1_at hc i os[i] (List.getElem?_eq_getElem h1)
        cases hb : Region.binds .any e with
        | false => simp
        | true =>
          have := k1 e he hb
          have h3 : e.on < os.length := by omega
          have h4 : ¬ e.on ∈ l := fun h => by have := him _ h; omega
          have h5 : ¬ listed.getD e.on true = false := fun h => h4 ((hmem _).2 ⟨h3, h⟩)
          rw [hdef _ h3] at h5
          simpa using h5
      rw [hr] at this; cases this
    · simp only [Region.ready, List.mem_filter, List.mem_range, Bool.and_eq_true] at hi
      obtain ⟨hi1, hi2, hi3⟩ := hi
      have hin : i < os.length := by simpa using hi1
      have hil : listed.getD i true = false := by simpa using hi2
      have hilf : listed.getD i false = false := by rw [← hdef i hin]; exact hil
      obtain ⟨o, ho⟩ : ∃ o, os[i]? = some o := ⟨_, List.getElem?_eq_getElem hin⟩
      have ho' : (⟨os⟩ : Array Oper)[i]? = some o := by simpa using ho
      simp only [ho', Option.map_some, Option.getD_some] at hi3
      rw [← Array.all_toList, List.all_eq_true] at hi3
      have hready : ∀ e ∈ o.after.toList, Region.binds .any e = true → listed.getD e.on false = true := by
        intro e he hb
        have := hi3 e he
        simpa [hb] using this
      obtain ⟨hk1, hk2⟩ := drawOK1_at hc i o ho
      simp only [Nat.zero_add] at hk1 hk2
      have hpair : ∀ (j : Nat) (p : Oper), os[j]? = some p → pairOK ⟨os⟩ i j o p = true := fun j p hp => by simpa using drawOK2_at hk2 j p hp
      have hedge : ∀ (q : Oper) (j : Nat), hasEdge q j = true → ∃ e ∈ q.after.toList, Region.binds .any e = true ∧ e.on = j := by
        intro q j h
        obtain ⟨e, he, h2⟩ := List.any_eq_true.1 h
        simp only [Bool.and_eq_true] at h2
        exact ⟨e, he, h2.1, Nat.eq_of_beq_eq_true h2.2⟩
      obtain ⟨t, ht, hstep⟩ := hs i o ho
      have hrel : RelA w μ σ N av (restr (envAt os rs a0 i) (looks ⟨os⟩ o)) := by
        refine ⟨hd.size, hd.defers, fun s u hu => ?_⟩
        obtain ⟨m1, m2⟩ := get_restr hu
        rcases get_envAt os rs a0 i s u hl (by omega) m2 with ⟨j, p, h1, h2, h3, h4⟩ | ⟨h1, h2⟩
        · have := hpair j p h2
          simp only [pairOK, h3, memB_of m1, Bool.not_true, Bool.false_or, Bool.and_eq_true, show Nat.blt j i = true from (by rw [Nat.blt_eq]; exact h1), cond_true] at this
          obtain ⟨e, he, hb, hon⟩ := hedge o j this.2
          exact hd.done j p s u (hon ▸ hready e he hb) h2 h3 h4
        · refine hd.base s u (fun j p hj hp hps => ?_) h2
          rcases Nat.lt_trichotomy j i with h | h | h
          · exact h1 j p h hp hps
          · subst h; rw [hilf] at hj; cases hj
          · have := hpair j p hp
            have hb : Nat.blt j i = false := by cases hb : Nat.blt j i with | false => rfl | true => rw [Nat.blt_eq] at hb; omega
            simp only [pairOK, hps, memB_of m1, Bool.not_true, Bool.false_or, Bool.and_eq_true, hb, cond_false, show Nat.blt i j = true from (by rw [Nat.blt_eq]; exact h), cond_true] at this
            obtain ⟨e, he, hb, hon⟩ := hedge p i this.2
            have := hd.closed j p hj hp e he hb
            rw [hon, hilf] at this; cases this
      have hnew : ∀ (av' : Act) (w' : World) (μ' : Gh), Ev w μ σ w' μ' σ → Inv w' μ' σ → av'.tmps.size = N → av'.defers = [] → (∀ s, o.dst ≠ some s → av'.tmps[s]? = av.tmps[s]?) →
          (∀ s, o.dst = some s → ∃ v, av'.tmps[s]? = some v ∧ Rel w' μ' σ v t) → wpAny P .any ⟨os⟩ Qc fuel (listed.setIfInBounds i true) av' w' := by
        intro av' w' μ' hev' hi' hsz' hdf' hfr hdst
        have hcond : ∀ j, (listed.setIfInBounds i true).getD j false = cond (Nat.beq i j) true (listed.getD j false) := fun j => setD (by omega)
        refine ih (l.erase i) _ av' w' μ' (hn.erase i) ?_ (by simpa using hsz) (fun j => ?_) (hev.trans hev') ⟨hi', hsz', hdf', ?_, ?_, ?_⟩
        · rw [List.length_erase_of_mem ((hmem i).2 ⟨hin, hil⟩)]; omega
        · rw [hn.mem_erase_iff, hmem j, setD (by omega)]
          by_cases e : i = j
          · subst e; simp
          · rw [beqF e]; simp only [cond_false]
            exact ⟨fun h => h.2, fun h => ⟨fun h' => e h'.symm, h⟩⟩
        · intro s u hno hu
          have hds : o.dst ≠ some s := hno i o (by rw [hcond]; simp) ho
          rw [hfr s hds]
          obtain ⟨v, hv, r⟩ := hd.base s u (fun j p hj hp => hno j p (by rw [hcond, hj]; cases Nat.beq i j <;> rfl) hp) hu
          exact ⟨v, hv, r.ev hev'⟩
        · intro j p s u hj hp hps hu
          by_cases e : i = j
          · subst e
            rw [ho] at hp; injection hp with hp; subst hp
            rw [ht] at hu; injection hu with hu; subst hu
            exact hdst s hps
          · rw [hcond, beqF e, cond_false] at hj
            have hds : o.dst ≠ some s := by
              intro h
              have := hpair j p hp
              simp [pairOK, hps, h, beqF e] at this
            rw [hfr s hds]
            obtain ⟨v, hv, r⟩ := hd.done j p s u hj hp hps hu
            exact ⟨v, hv, r.ev hev'⟩
        · intro j p hj hp e he hb
          rw [hcond]
          cases hij : Nat.beq i e.on with
          | true => rfl
          | false =>
            rw [hcond] at hj
            cases hij2 : Nat.beq i j with
            | true =>
              have := Nat.eq_of_beq_eq_true hij2; subst this
              rw [ho] at hp; injection hp with hp; subst hp
              exact hready e he hb
            | false => rw [hij2] at hj; exact hd.closed j p hj hp e he hb
      unfold wpOp
      simp only [ho']
      rcases hstep with ⟨hg, hA⟩ | ⟨hg, rfl, hfit⟩
      · rw [wanted_of hrel hg, if_pos rfl]
        refine .inl ?_
        have := hA (fun a' σ' => a' = put (restr (envAt os rs a0 i) (looks ⟨os⟩ o)) o.dst t ∧ σ' = σ) ⟨rfl, rfl⟩ av w μ hd.inv hrel (fun av' w' => ∃ μ', Ev w μ σ w' μ' σ ∧ Inv w' μ' σ ∧ RelA w' μ' σ N av' (put (restr (envAt os rs a0 i) (looks ⟨os⟩ o)) o.dst t)) Qc
          (by rintro av' w' μ' a' σ' h1 h2 h3 ⟨rfl, rfl⟩; exact ⟨μ', h1, h2, h3⟩)
        refine Oper.wp_mono ?_ (upon_frame this)
        rintro av' w' ⟨⟨μ', h1, h2, h3⟩, h4⟩
        exact hnew av' w' μ' h1 h2 h3.size h3.defers h4 (fun s hs => h3.tmp s t (by rw [hs]; simp [put, get]))
      · rw [wanted_of hrel hg, if_neg (by simp)]
        have hp := hrel.put hfit (v := undef) (t := .tup []) (.tup [] #[] rfl fun j c v h1 h2 => by simp at h1)
        refine hnew _ w μ (.refl _ _ _) hd.inv hp.size hp.defers (fun s hs => ?_) (fun s hs => ?_)
        · cases hd' : o.dst with
          | none => simp [Act.put]
          | some d =>
            have : d ≠ s := fun e => hs (by rw [hd', e])
            simp [Act.put, Array.getElem?_setIfInBounds, this]
        · exact hp.tmp s _ (by rw [hs]; simp [put, get])

theorem aw_draw {id : Nat} {os : List Oper} {a : Env} {Q : Exit → Env → St → Prop} (hm : P.follows .mixedOrders = true) (hc : drawOK ⟨os⟩ = true) (h : DL P N ⟨os⟩ Q σ os a) : AW P N (.region id ⟨os⟩ true) Q a σ := by
  intro av w μ hi hr
  obtain ⟨rs, h1, h2, h3⟩ := dl_can os a h
  have hev : Ev w μ σ { w with drawn := w.drawn + 1 } μ σ := ev_same rfl rfl rfl rfl
  have hi' : Inv { w with drawn := w.drawn + 1 } μ σ := hi.ev_heap rfl hev
  refine wp_region_any hm (wpAny_of (w0 := w) (μ0 := μ) hc h1 h2 (fun av' w' μ' k1 k2 k3 => ⟨_, σ, μ', k1, k2, k3, h3⟩) _ (List.range os.length) _ av _ μ List.nodup_range (by simp) (by simp) ?_ hev ?_)
  · intro i
    simp only [List.mem_range]
    constructor
    · intro h; exact ⟨h, by simp [Array.getD, h]⟩
    · intro h; exact h.1
  · have hf : ∀ j, (Array.replicate (⟨os⟩ : Array Oper).size false).getD j false = true → False := by
      intro j hj
      simp [Array.getD] at hj
    refine ⟨hi', hr.size, hr.defers, fun s t _ ht => (hr.ev hev).tmp s t ht, fun j o s t hj => (hf j hj).elim, fun j o hj => (hf j hj).elim⟩

variable {ops : Array Oper} {Q : Exit → Env → St → Prop} {a : Env}
theorem dl_nil (h : Q .normal a σ) : DL P N ops Q σ [] a := h
theorem dl_cons {o : Oper} {os : List Oper} {d : Tmp} {t : T} (hg : guardOf ops (restr a (looks ops o)) o = some true) (hdd : o.dst = some d)
    (hs : ∀ K : Env → St → Prop, K (put (restr a (looks ops o)) (some d) t) σ → AOp P N o (restr a (looks ops o)) σ K) (h : DL P N ops Q σ os (put a (some d) t)) : DL P N ops Q σ (o :: os) a := by
  generalize some d = dd at *; subst hdd; exact ⟨t, .inl ⟨hg, hs⟩, h⟩
theorem dl_s {o : Oper} {os : List Oper} {d : Tmp} (hg : guardOf ops (restr a (looks ops o)) o = some false) (hdd : o.dst = some d) (hd : fitsD N (some d) = true) (h : DL P N ops Q σ os (put a (some d) (.tup []))) : DL P N ops Q σ (o :: os) a := by
  generalize some d = dd at *; subst hdd; exact ⟨.tup [], .inr ⟨hg, rfl, hd⟩, h⟩
theorem dl_d {o : Oper} {os : List Oper} {d : Tmp} {p : Prop} (hg : guardOf ops (restr a (looks ops o)) o = some true) (hdd : o.dst = some d)
    (hs : ∀ K : Env → St → Prop, (p → K (put (restr a (looks ops o)) (some d) (.bool true)) σ) → (¬ p → K (put (restr a (looks ops o)) (some d) (.bool false)) σ) → AOp P N o (restr a (looks ops o)) σ K)
    (kt : p → DL P N ops Q σ os (put a (some d) (.bool true))) (kf : ¬ p → DL P N ops Q σ os (put a (some d) (.bool false))) : DL P N ops Q σ (o :: os) a := by
  by_cases h : p
  · exact dl_cons hg hdd (fun K kk => hs K (fun _ => kk) (fun h' => absurd h h')) (kt h)
  · exact dl_cons hg hdd (fun K kk => hs K (fun h' => absurd h' h) (fun _ => kk)) (kf h)
theorem dl_ne {o : Oper} {os : List Oper} {d : Tmp} {p : Prop} (hg : guardOf ops (restr a (looks ops o)) o = some true) (hdd : o.dst = some d)
    (hs : ∀ K : Env → St → Prop, (¬ p → K (put (restr a (looks ops o)) (some d) (.bool true)) σ) → (p → K (put (restr a (looks ops o)) (some d) (.bool false)) σ) → AOp P N o (restr a (looks ops o)) σ K)
    (kt : ¬ p → DL P N ops Q σ os (put a (some d) (.bool true))) (kf : p → DL P N ops Q σ os (put a (some d) (.bool false))) : DL P N ops Q σ (o :: os) a := by
  by_cases h : p
  · exact dl_cons hg hdd (fun K kk => hs K (fun h' => absurd h h') (fun _ => kk)) (kf h)
  · exact dl_cons hg hdd (fun K kk => hs K (fun _ => kk) (fun h' => absurd h' h)) (kt h)
end
end Go.Ts
