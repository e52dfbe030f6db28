/- Part of the proof of the law ArenaAll: the texts TsV, RN. No conditions. -/
import Derived.Test.YthfgocinlbogeaaArenaAllF
set_option linter.unusedSimpArgs false
set_option linter.unusedVariables false
namespace Go.Ts
set_option linter.unusedSimpArgs false
set_option linter.unusedVariables false
def cutR (m : Nat) : Nat → List Oper → Bool
  | _, [] => true
  | i, o :: os => (o.after.toList.all fun e => !Region.binds .any e || Nat.blt e.on i) && (o.after.toList.any fun e => Region.binds .any e && Nat.ble m e.on) && cutR m (i + 1) os
def cutB (ops : Array Oper) (m : Nat) : List Oper → Bool
  | [] => true
  | o :: os => (o.after.toList.all fun e => !Region.binds .any e || Nat.blt e.on m) && ((List.range m).all fun j => far ops 3 o j) && cutR m (m + 1) os
def cut2 (ops : Array Oper) (m : Nat) (ps : List Oper) : Nat → List Oper → Bool
  | _, [] => true
  | i, o :: os => drawOK2 ops i o m ps && cut2 ops m ps (i + 1) os
def drawOKC (ops : Array Oper) (m : Nat) (eff : List Nat) : Bool :=
  okE1 ops eff (ops.toList.take m) 0 (ops.toList.take m) && cutB ops m (ops.toList.drop m) && sortedB eff && (eff.all fun i => Nat.blt i m) && cut2 ops m (ops.toList.drop m) m (ops.toList.drop m)
theorem cutR_at {m : Nat} : ∀ {i0 : Nat} {os : List Oper}, cutR m i0 os = true → ∀ (i : Nat) (o : Oper), os[i]? = some o → (∀ e ∈ o.after.toList, Region.binds .any e = true → e.on < i0 + i) ∧ ∃ e ∈ o.after.toList, Region.binds .any e = true ∧ m ≤ e.on
  | i0, [], h, i, o, ho => by simp at ho
  | i0, q :: os, h, i, o, ho => by
    simp only [cutR, Bool.and_eq_true] at h
    cases i with
    | zero =>
      simp at ho; subst ho
      refine ⟨fun e he hb => ?_, ?_⟩
      · have := List.all_eq_true.1 h.1.1 e he
        simpa [hb, Nat.blt_eq] using this
      · obtain ⟨e, he, h2⟩ := List.any_eq_true.1 h.1.2
        rw [Bool.and_eq_true] at h2
        exact ⟨e, he, h2.1, Nat.le_of_ble_eq_true h2.2⟩
    | succ i =>
      have := cutR_at h.2 i o (by simpa using ho)
      rwa [show i0 + 1 + i = i0 + (i + 1) by omega] at this
theorem cutB_at {ops : Array Oper} {m : Nat} {os : List Oper} (h : cutB ops m os = true) (i : Nat) (o : Oper) (ho : os[i]? = some o) : (∀ e ∈ o.after.toList, Region.binds .any e = true → e.on < m + i) ∧ (i = 0 → ∀ j, j < m → far ops 3 o j = true) ∧ (0 < i → ∃ e ∈ o.after.toList, Region.binds .any e = true ∧ m ≤ e.on) := by
  cases os with
  | nil => simp at ho
  | cons q os =>
    simp only [cutB, Bool.and_eq_true] at h
    cases i with
    | zero =>
      simp at ho; subst ho
      refine ⟨fun e he hb => ?_, fun _ j hj => List.all_eq_true.1 h.1.2 j (List.mem_range.2 hj), fun h => by omega⟩
      have := List.all_eq_true.1 h.1.1 e he
      simpa [hb, Nat.blt_eq] using this
    | succ i =>
      have := cutR_at h.2 i o (by simpa using ho)
      rw [show m + 1 + i = m + (i + 1) by omega] at this
      exact ⟨this.1, fun h => by omega, fun _ => this.2⟩
theorem cut2_at {ops : Array Oper} {m : Nat} {ps : List Oper} : ∀ {i0 : Nat} {os : List Oper}, cut2 ops m ps i0 os = true → ∀ (i : Nat) (o : Oper), os[i]? = some o → drawOK2 ops (i0 + i) o m ps = true
  | i0, [], h, i, o, ho => by simp at ho
  | i0, q :: os, h, i, o, ho => by
    simp only [cut2, Bool.and_eq_true] at h
    cases i with
    | zero => simp at ho; subst ho; exact h.1
    | succ i =>
      have := cut2_at h.2 i o (by simpa using ho)
      rwa [show i0 + 1 + i = i0 + (i + 1) by omega] at this
section
variable {P : Program} {G : Nat → Option TI} {N : Nat} {σ : St}
theorem wpAny_effC {os : List Oper} {m : Nat} {eff : List Nat} {F : St → Prop} {fin : Env → St → Prop} {rs : List T} {a0 : Env} {Qc : Exit → Act → World → Prop} {w0 : World} {μ0 : Gh} {σ0 : St} (hm : m ≤ os.length) (hc : drawOKC ⟨os⟩ m eff = true) (hl : rs.length = (os.take m).length)
    (hs : ∀ (j : Nat) (o : Oper), (os.take m)[j]? = some o → memB j eff = false → ∃ t, rs[j]? = some t ∧ ∀ σ, F σ → StepOK P N ⟨os⟩ σ o (Ay (A3 (blank eff 0 (os.take m)) rs a0 j) (Ax ⟨os⟩ o)) t)
    (hQ : ∀ av' w' μ' σ' a' listed, listed.size = os.length → (∀ i, listed.getD i false = true ↔ i < m) → Ev w0 μ0 σ0 w' μ' σ' → Inv w' μ' σ' → RelA w' μ' σ' N av' a' → fin a' σ' → wpAny P .any ⟨os⟩ Qc (os.length - m) listed av' w') :
    ∀ (fuel : Nat) (l es : List Nat) (E : Env) (σ : St) (listed : Array Bool) (av : Act) (w : World) (μ : Gh), l.Nodup → l.length = fuel → listed.size = os.length → (∀ i, i ∈ l ↔ i < m ∧ listed.getD i true = false) → (∀ i, listed.getD i false = true → i < m) →
      sortedB es = true → (∀ i, i ∈ es ↔ i ∈ eff ∧ listed.getD i false = false) → EL P N ⟨os⟩ F fin (A3 (blank eff 0 (os.take m)) rs a0 m) es E σ →
      Ev w0 μ0 σ0 w μ σ → EInv (os.take m) eff rs a0 N σ E listed av w μ → wpAny P .any ⟨os⟩ Qc (fuel + (os.length - m)) listed av w := by
  have htl : (os.take m).length = m := by rw [List.length_take]; omega
  have hbl : (blank eff 0 (os.take m)).length = m := by rw [blank_length, htl]
  unfold drawOKC at hc
  simp only [Bool.and_eq_true] at hc
  obtain ⟨⟨⟨⟨hcp, hct0⟩, hcs⟩, hcm⟩, hcq⟩ := hc
  have hct : ∀ (i : Nat) (o : Oper), m ≤ i → os[i]? = some o → (∀ e ∈ o.after.toList, Region.binds .any e = true → e.on < i) ∧ (i = m → ∀ j, j < m → far ⟨os⟩ 3 o j = true) ∧ (m < i → ∃ e ∈ o.after.toList, Region.binds .any e = true ∧ m ≤ e.on) := by
    intro i o hi ho
    have := cutB_at hct0 (i - m) o (by rw [List.getElem?_drop, show m + (i - m) = i by omega]; exact ho)
    rw [show m + (i - m) = i by omega] at this
    exact ⟨this.1, fun h => this.2.1 (by omega), fun h => this.2.2 (by omega)⟩
  have heffm : ∀ i, i ∈ eff → i < m := fun i hi => by have := List.all_eq_true.1 hcm i hi; rwa [Nat.blt_eq] at this
  have hedge : ∀ (q : Oper) (j : Nat), hasEdge q j = true → ∃ e ∈ q.after.toList, Region.binds .any e = true ∧ e.on = j := by
    intro q j h
    obtain ⟨e, he, h2⟩ := List.any_eq_true.1 h
    simp only [Bool.and_eq_true] at h2
    exact ⟨e, he, h2.1, Nat.eq_of_beq_eq_true h2.2⟩
  -- what the canonical environment says of a slot
  have hcan : ∀ (i s : Nat) (t : T), i ≤ m → get (A3 (blank eff 0 (os.take m)) rs a0 i) s = some t →
      (∃ (j : Nat) (p : Oper), j < i ∧ memB j eff = false ∧ (os.take m)[j]? = some p ∧ p.dst = some s ∧ rs[j]? = some t) ∨ ((∀ (j : Nat) (p : Oper), j < i → memB j eff = false → (os.take m)[j]? = some p → p.dst ≠ some s) ∧ get a0 s = some t) := by
    intro i s t hi hg
    rcases get_envAt _ rs a0 i s t (by rw [hl, htl, hbl]) (by omega) hg with ⟨j, o, h1, h2, h3, h4⟩ | ⟨h1, h2⟩
    · left
      rw [blank_at, Nat.zero_add] at h2
      cases hp : (os.take m)[j]? with
      | none => rw [hp] at h2; cases h2
      | some p =>
        rw [hp, Option.map_some] at h2
        injection h2 with h2
        cases hb : memB j eff with
        | true => rw [hb, cond_true] at h2; subst h2; cases h3
        | false => rw [hb, cond_false] at h2; subst h2; exact ⟨j, p, h1, hb, hp, h3, h4⟩
    · refine .inr ⟨fun j p hj hb hp => ?_, h2⟩
      have := h1 j p hj (by rw [blank_at, Nat.zero_add, hp, Option.map_some, hb, cond_false])
      exact this
  intro fuel
  induction fuel with
  | zero =>
    intro l es E σ listed av w μ hn hlen hsz hmem hlm hso hes hel hev hd
    obtain rfl : l = [] := List.eq_nil_of_length_eq_zero hlen
    have hall : ∀ i, i < m → listed.getD i false = true := by
      intro i hi
      have h1 : ¬ listed.getD i true = false := fun h => by simpa using (hmem i).2 ⟨hi, h⟩
      simp only [Array.getD_eq_getD_getElem?, Array.getElem?_eq_getElem (show i < listed.size by omega), Option.getD_some] at h1 ⊢
      simpa using h1
    obtain rfl : es = [] := by
      cases es with
      | nil => rfl
      | cons i is =>
        obtain ⟨h1, h2⟩ := (hes i).1 (by simp)
        rw [hall i (heffm i h1)] at h2; cases h2
    rw [Nat.zero_add]
    refine hQ av w μ σ _ listed hsz (fun i => ⟨hlm i, hall i⟩) hev hd.inv ⟨hd.size, hd.defers, fun s t ht => ?_⟩ hel.2
    rw [get_append] at ht
    cases hE : get E s with
    | some u => rw [hE] at ht; injection ht with ht; subst ht; exact hd.effd s u hE
    | none =>
      rw [hE] at ht
      rcases hcan m s t (Nat.le_refl _) ht with ⟨j, p, h1, h2, h3, h4, h5⟩ | ⟨h1, h2⟩
      · exact hd.done j p s t (hall j h1) h2 h3 h4 h5
      · refine hd.base s t (fun j p hj hp hps => ?_) h2
        cases hb : memB j eff with
        | true => exact hd.ehas j p s hj hb hp hps hE
        | false => exact h1 j p (by have := (List.getElem?_eq_some_iff.1 hp).1; omega) hb hp hps
  | succ fuel ih =>
    intro l es E σ listed av w μ hn hlen hsz hmem hlm hso hes hel hev hd
    have hdef : ∀ i, i < os.length → listed.getD i true = listed.getD i false := by
      intro i hi
      simp only [Array.getD_eq_getD_getElem?, Array.getElem?_eq_getElem (show i < listed.size by omega), Option.getD_some]
    rw [show fuel + 1 + (os.length - m) = (fuel + (os.length - m)) + 1 by omega]
    refine ⟨fun hr => ?_, fun i hi => ?_⟩
    · exfalso
      obtain ⟨i, hil, him⟩ := minimal (l := l) (by intro h; subst h; simp at hlen)
      obtain ⟨h1, h2⟩ := (hmem i).1 hil
      have : i ∈ Region.ready .any ⟨os⟩ listed := by
        simp only [Region.ready, List.mem_filter, List.mem_range]
        refine ⟨by simp; omega, ?_⟩
        have hil2 : i < os.length := by omega
        have ho : (⟨os⟩ : Array Oper)[i]? = some os[i] := by simp [hil2]
        simp only [h2, ho, Option.map_some, Option.getD_some, Bool.not_false, Bool.true_and]
        rw [← Array.all_toList, List.all_eq_true]
        intro e he
        obtain ⟨k1, _⟩ := okE1_at hcp i os[i] (by rw [List.getElem?_take_of_lt h1, List.getElem?_eq_getElem (by omega)])
        cases hb : Region.binds .any e with
        | false => simp
        | true =>
          have := k1 e he hb
          have h3 : e.on < m := by omega
          have h4 : ¬ e.on ∈ l := fun h => by have := him _ h; omega
          have h5 : ¬ listed.getD e.on true = false := fun h => h4 ((hmem _).2 ⟨h3, h⟩)
          rw [hdef _ (by omega)] at h5
          simpa using h5
      rw [hr] at this; cases this
    · simp only [Region.ready, List.mem_filter, List.mem_range, Bool.and_eq_true] at hi
      obtain ⟨hi1, hi2, hi3⟩ := hi
      have hin0 : i < os.length := by simpa using hi1
      have hil : listed.getD i true = false := by simpa using hi2
      have hilf : listed.getD i false = false := by rw [← hdef i hin0]; exact hil
      obtain ⟨o, ho0⟩ : ∃ o, os[i]? = some o := ⟨_, List.getElem?_eq_getElem hin0⟩
      have ho' : (⟨os⟩ : Array Oper)[i]? = some o := by simpa using ho0
      simp only [ho', Option.map_some, Option.getD_some] at hi3
      rw [← Array.all_toList, List.all_eq_true] at hi3
      have hready : ∀ e ∈ o.after.toList, Region.binds .any e = true → listed.getD e.on false = true := by
        intro e he hb
        have := hi3 e he
        simpa [hb] using this
      have hre : ∀ j, hasEdge o j = true → listed.getD j false = true := by
        intro j hj
        obtain ⟨e, he, hb, hon⟩ := hedge o j hj
        exact hon ▸ hready e he hb
      have hfar : ∀ (n : Nat) (q : Oper) (j : Nat), (∀ e ∈ q.after.toList, Region.binds .any e = true → e.on < m ∧ listed.getD e.on false = true) → far ⟨os⟩ n q j = true → listed.getD j false = true := by
        intro n
        induction n with
        | zero =>
          intro q j hq h
          obtain ⟨e, he, hb, hon⟩ := hedge q j h
          exact hon ▸ (hq e he hb).2
        | succ n ih =>
          intro q j hq h
          rw [far, Bool.or_eq_true] at h
          rcases h with h | h
          · obtain ⟨e, he, hb, hon⟩ := hedge q j h
            exact hon ▸ (hq e he hb).2
          · obtain ⟨e, he, h2⟩ := List.any_eq_true.1 h
            rw [Bool.and_eq_true] at h2
            obtain ⟨h3, h4⟩ := hq e he h2.1
            have h5 := h2.2
            split at h5
            · rename_i p hp
              have hp' : (os.take m)[e.on]? = some p := by rw [List.getElem?_take_of_lt h3]; simpa using hp
              refine ih p j (fun e' he' hb' => ⟨?_, hd.closed e.on p h4 hp' e' he' hb'⟩) h5
              obtain ⟨k1, _⟩ := okE1_at hcp e.on p hp'
              have := k1 e' he' hb'
              omega
            · cases h5
      have hin : i < m := by
        rcases Nat.lt_or_ge i m with h | h
        · exact h
        · exfalso
          obtain ⟨j, hj⟩ : ∃ j, j ∈ l := by cases l with | nil => simp at hlen | cons x l => exact ⟨x, by simp⟩
          obtain ⟨h1, h2⟩ := (hmem j).1 hj
          rcases Nat.lt_or_ge m i with h5 | h5
          · obtain ⟨e, he, hb, hle⟩ := (hct i o h ho0).2.2 h5
            have := hlm e.on (hready e he hb); omega
          · have := hfar 3 o j (fun e he hb => ⟨by have := (hct i o h ho0).1 e he hb; omega, hready e he hb⟩) ((hct i o h ho0).2.1 (by omega) j (by omega))
            rw [← hdef j (by omega), h2] at this; cases this
      have ho : (os.take m)[i]? = some o := by rw [List.getElem?_take_of_lt hin]; exact ho0
      obtain ⟨hk1, hk2⟩ := okE1_at hcp i o ho
      simp only [Nat.zero_add] at hk1 hk2
      have hpair : ∀ (j : Nat) (p : Oper), (os.take m)[j]? = some p → pairE ⟨os⟩ eff i j o p = true := fun j p hp => by simpa using okE2_at hk2 j p hp
      have hreF : ∀ j, far ⟨os⟩ 2 o j = true → listed.getD j false = true := fun j hj => hfar 2 o j (fun e he hb => ⟨by have := hk1 e he hb; omega, hready e he hb⟩) hj
      have hclosed : ∀ (j : Nat) (p : Oper), listed.getD j false = true → (os.take m)[j]? = some p → far ⟨os⟩ 2 p i = true → False := by
        intro j p hj hp h
        have := hfar 2 p i (fun e he hb => ⟨by obtain ⟨k1, _⟩ := okE1_at hcp j p hp; have := k1 e he hb; have := (List.getElem?_eq_some_iff.1 hp).1; rw [List.length_take] at this; omega, hd.closed j p hj hp e he hb⟩) h
        rw [hilf] at this; cases this
      have hssa : ∀ (j : Nat) (p : Oper) (s : Nat), (os.take m)[j]? = some p → p.dst = some s → i ≠ j → o.dst ≠ some s := by
        intro j p s hp hps hij h
        have := hpair j p hp
        simp [pairE, hps, h, beqF hij] at this
      have hsize : ∀ b, (listed.setIfInBounds i b).size = os.length := by intro b; simpa using hsz
      have hcond : ∀ j, (listed.setIfInBounds i true).getD j false = cond (Nat.beq i j) true (listed.getD j false) := fun j => setD (by omega)
      -- the step behind an operation
      have hnew : ∀ (es' : List Nat) (E' : Env) (σ' : St) (av' : Act) (w' : World) (μ' : Gh) (u : T), sortedB es' = true → (∀ j, j ∈ es' ↔ j ∈ eff ∧ (listed.setIfInBounds i true).getD j false = false) →
          EL P N ⟨os⟩ F fin (A3 (blank eff 0 (os.take m)) rs a0 m) es' E' σ' → Ev w μ σ w' μ' σ' → Inv w' μ' σ' → av'.tmps.size = N → av'.defers = [] → (∀ s, o.dst ≠ some s → av'.tmps[s]? = av.tmps[s]?) →
          (∀ s, o.dst = some s → ∃ v, av'.tmps[s]? = some v ∧ Rel w' μ' σ' v u) →
          (memB i eff = true ∧ E' = put E o.dst u ∨ memB i eff = false ∧ E' = E ∧ rs[i]? = some u) → wpAny P .any ⟨os⟩ Qc (fuel + (os.length - m)) (listed.setIfInBounds i true) av' w' := by
        intro es' E' σ' av' w' μ' u hso' hes' hel' hev' hi' hsz' hdf' hfr hdst hcase
        refine ih (l.erase i) es' E' σ' _ av' w' μ' (hn.erase i) ?_ (hsize _) (fun j => ?_) (fun j hj => ?_) hso' hes' hel' (hev.trans hev') ⟨hi', hsz', hdf', ?_, ?_, ?_, ?_, ?_, ?_⟩
        · rw [List.length_erase_of_mem ((hmem i).2 ⟨hin, hil⟩)]; omega
        · rw [hn.mem_erase_iff, hmem j, setD (by omega)]
          by_cases e : i = j
          · subst e; simp
          · rw [beqF e]; simp only [cond_false]
            exact ⟨fun h => h.2, fun h => ⟨fun h' => e h'.symm, h⟩⟩
        · by_cases e : i = j
          · omega
          · rw [hcond, beqF e] at hj; exact hlm j hj
        · intro s t hno ht
          have hds : o.dst ≠ some s := hno i o (by rw [hcond]; simp) ho
          rw [hfr s hds]
          obtain ⟨v, hv, r⟩ := hd.base s t (fun j p hj hp => hno j p (by rw [hcond, hj]; cases Nat.beq i j <;> rfl) hp) ht
          exact ⟨v, hv, r.ev hev'⟩
        · intro j p s t hj hje hp hps ht
          by_cases e : i = j
          · subst e
            rw [ho] at hp; injection hp with hp; subst hp
            rcases hcase with ⟨h1, _⟩ | ⟨_, _, h1⟩
            · rw [h1] at hje; cases hje
            · rw [ht] at h1; injection h1 with h1; subst h1
              exact hdst s hps
          · rw [hcond, beqF e, cond_false] at hj
            rw [hfr s (hssa j p s hp hps e)]
            obtain ⟨v, hv, r⟩ := hd.done j p s t hj hje hp hps ht
            exact ⟨v, hv, r.ev hev'⟩
        · intro s t ht
          have hold : get E s = some t → o.dst ≠ some s → ∃ v, av'.tmps[s]? = some v ∧ Rel w' μ' σ' v t := by
            intro ht hds
            rw [hfr s hds]
            obtain ⟨v, hv, r⟩ := hd.effd s t ht
            exact ⟨v, hv, r.ev hev'⟩
          have hne : get E s = some t → o.dst ≠ some s := by
            intro ht
            obtain ⟨j, p, h1, h2, h3, h4⟩ := hd.ekey s t ht
            exact hssa j p s h3 h4 (by intro e; subst e; rw [hilf] at h1; cases h1)
          rcases hcase with ⟨_, rfl⟩ | ⟨_, rfl, _⟩
          · cases hdd : o.dst with
            | none => rw [hdd] at ht; exact hold ht (by rw [hdd]; simp)
            | some d =>
              rw [hdd] at ht
              by_cases e : d = s
              · subst e
                have : u = t := by simpa [put, get] using ht
                subst this
                exact hdst d hdd
              · have ht' : get E s = some t := by simpa [put, get, beqF e] using ht
                exact hold ht' (hne ht')
          · exact hold ht (hne ht)
        · intro s t ht
          have hold : get E s = some t → ∃ (j : Nat) (p : Oper), (listed.setIfInBounds i true).getD j false = true ∧ memB j eff = true ∧ (os.take m)[j]? = some p ∧ p.dst = some s := by
            intro ht
            obtain ⟨j, p, h1, h2, h3, h4⟩ := hd.ekey s t ht
            exact ⟨j, p, by rw [hcond, h1]; cases Nat.beq i j <;> rfl, h2, h3, h4⟩
          rcases hcase with ⟨hie, rfl⟩ | ⟨_, rfl, _⟩
          · cases hdd : o.dst with
            | none => rw [hdd] at ht; exact hold ht
            | some d =>
              rw [hdd] at ht
              by_cases e : d = s
              · subst e
                exact ⟨i, o, by rw [hcond]; simp, hie, ho, hdd⟩
              · exact hold (by simpa [put, get, beqF e] using ht)
          · exact hold ht
        · intro j p s hj hje hp hps
          by_cases e : i = j
          · subst e
            rw [ho] at hp; injection hp with hp; subst hp
            rcases hcase with ⟨_, rfl⟩ | ⟨h1, _⟩
            · rw [hps]; simp [put, get]
            · rw [h1] at hje; cases hje
          · rw [hcond, beqF e, cond_false] at hj
            have h0 := hd.ehas j p s hj hje hp hps
            rcases hcase with ⟨_, rfl⟩ | ⟨_, rfl, _⟩
            · cases hdd : o.dst with
              | none => exact h0
              | some d =>
                have : d ≠ s := fun e' => hssa j p s hp hps e (by rw [hdd, e'])
                simpa [put, get, beqF this] using h0
            · exact h0
        · intro j p hj hp e he hb
          rw [hcond]
          cases hij : Nat.beq i e.on with
          | true => rfl
          | false =>
            rw [hcond] at hj
            cases hij2 : Nat.beq i j with
            | true =>
              have := Nat.eq_of_beq_eq_true hij2; subst this
              rw [ho] at hp; injection hp with hp; subst hp
              exact hready e he hb
            | false => rw [hij2] at hj; exact hd.closed j p hj hp e he hb
      unfold wpOp
      simp only [ho']
      cases hie : memB i eff with
      | false =>
        obtain ⟨t, ht, hstep0⟩ := hs i o ho hie
        have hstep := hstep0 σ hel.fam
        have hrel : RelA w μ σ N av (Ay (A3 (blank eff 0 (os.take m)) rs a0 i) (Ax ⟨os⟩ o)) := by
          refine ⟨hd.size, hd.defers, fun s u hu => ?_⟩
          obtain ⟨m1, m2⟩ := get_restr hu
          rcases hcan i s u (by omega) m2 with ⟨j, p, h1, h2, h3, h4, h5⟩ | ⟨h1, h2⟩
          · have := hpair j p h3
            simp only [pairE, h4, memB_of m1, hie, h2, Bool.not_true, Bool.false_or, Bool.and_eq_true, cond_false, show Nat.blt j i = true from (by rw [Nat.blt_eq]; exact h1), cond_true] at this
            exact hd.done j p s u (hreF j this.2.2) h2 h3 h4 h5
          · refine hd.base s u (fun j p hj hp hps => ?_) h2
            have := hpair j p hp
            cases hje : memB j eff with
            | true =>
              simp only [pairE, hps, memB_of m1, hie, hje, Bool.not_true, Bool.false_or, Bool.and_eq_true, cond_false, cond_true] at this
              exact hclosed j p hj hp this.2.2.2
            | false =>
              rcases Nat.lt_trichotomy j i with h | h | h
              · exact h1 j p h hje hp hps
              · subst h; rw [hilf] at hj; cases hj
              · have hb : Nat.blt j i = false := by cases hb : Nat.blt j i with | false => rfl | true => rw [Nat.blt_eq] at hb; omega
                simp only [pairE, hps, memB_of m1, hie, hje, Bool.not_true, Bool.false_or, Bool.and_eq_true, hb, cond_false, show Nat.blt i j = true from (by rw [Nat.blt_eq]; exact h), cond_true] at this
                exact hclosed j p hj hp this.2.2
        have hes' : ∀ j, j ∈ es ↔ j ∈ eff ∧ (listed.setIfInBounds i true).getD j false = false := by
          intro j
          rw [hes j, hcond]
          by_cases e : i = j
          · subst e
            have : ¬ i ∈ eff := fun h => by rw [memB_of h] at hie; cases hie
            simp [this]
          · rw [beqF e, cond_false]
        rcases hstep with ⟨hg, hA⟩ | ⟨hg, rfl, hfit⟩
        · rw [wanted_of hrel hg, if_pos rfl]
          refine .inl ?_
          have := hA (fun a' σ' => a' = put (Ay (A3 (blank eff 0 (os.take m)) rs a0 i) (Ax ⟨os⟩ o)) o.dst t ∧ σ' = σ) ⟨rfl, rfl⟩ av w μ hd.inv hrel (fun av' w' => ∃ μ', Ev w μ σ w' μ' σ ∧ Inv w' μ' σ ∧ RelA w' μ' σ N av' (put (Ay (A3 (blank eff 0 (os.take m)) rs a0 i) (Ax ⟨os⟩ o)) o.dst t)) Qc
            (by rintro av' w' μ' a' σ' h1 h2 h3 ⟨rfl, rfl⟩; exact ⟨μ', h1, h2, h3⟩)
          refine Oper.wp_mono ?_ (upon_frame this)
          rintro av' w' ⟨⟨μ', h1, h2, h3⟩, h4⟩
          exact hnew es E σ av' w' μ' t hso hes' hel h1 h2 h3.size h3.defers h4 (fun s hs => h3.tmp s t (by rw [hs]; simp [put, get])) (.inr ⟨hie, rfl, ht⟩)
        · rw [wanted_of hrel hg, if_neg (by simp)]
          have hp := hrel.put hfit (v := undef) (t := .tup []) (.tup [] #[] rfl fun j c v h1 h2 => by simp at h1)
          refine hnew es E σ _ w μ (.tup []) hso hes' hel (.refl _ _ _) hd.inv hp.size hp.defers (fun s hs => ?_) (fun s hs => ?_) (.inr ⟨hie, rfl, ht⟩)
          · cases hd' : o.dst with
            | none => simp [Act.put]
            | some d =>
              have : d ≠ s := fun e => hs (by rw [hd', e])
              simp [Act.put, Array.getElem?_setIfInBounds, this]
          · exact hp.tmp s _ (by rw [hs]; simp [put, get])
      | true =>
        have hieff : i ∈ eff := memB_iff.1 hie
        obtain ⟨i0, is, rfl⟩ : ∃ i0 is, es = i0 :: is := by
          cases es with
          | nil => have := (hes i).2 ⟨hieff, hilf⟩; cases this
          | cons i0 is => exact ⟨i0, is, rfl⟩
        have hi0 : i = i0 := by
          have h1 := (hes i).2 ⟨hieff, hilf⟩
          rcases List.mem_cons.1 h1 with h | h
          · exact h
          · exfalso
            have hlt := sorted_head hso i h
            obtain ⟨h2, h3⟩ := (hes i0).1 (by simp)
            obtain ⟨p, hp⟩ : ∃ p, (os.take m)[i0]? = some p := ⟨_, List.getElem?_eq_getElem (by have := heffm i0 h2; omega)⟩
            have := hpair i0 p hp
            simp only [pairE, hie, memB_of h2, Bool.and_true, show Nat.blt i0 i = true from (by rw [Nat.blt_eq]; exact hlt), cond_true, Bool.and_eq_true] at this
            rw [hreF i0 this.1] at h3; cases h3
        subst hi0
        obtain ⟨hF, o2, ho2, hcase⟩ := hel
        rw [ho'] at ho2; injection ho2 with ho2; subst ho2
        have hrel : RelA w μ σ N av (Ay (E ++ A3 (blank eff 0 (os.take m)) rs a0 m) (Ax ⟨os⟩ o)) := by
          refine ⟨hd.size, hd.defers, fun s u hu => ?_⟩
          obtain ⟨m1, m2⟩ := get_restr hu
          rw [get_append] at m2
          cases hE : get E s with
          | some u' => rw [hE] at m2; injection m2 with m2; subst m2; exact hd.effd s u' hE
          | none =>
            rw [hE] at m2
            rcases hcan m s u (Nat.le_refl _) m2 with ⟨j, p, h1, h2, h3, h4, h5⟩ | ⟨h1, h2⟩
            · have := hpair j p h3
              simp only [pairE, h4, memB_of m1, hie, h2, Bool.not_true, Bool.false_or, Bool.and_eq_true, cond_false, cond_true] at this
              exact hd.done j p s u (hreF j this.2.2.2) h2 h3 h4 h5
            · refine hd.base s u (fun j p hj hp hps => ?_) h2
              cases hje : memB j eff with
              | true => exact hd.ehas j p s hj hje hp hps hE
              | false => exact h1 j p (by have := (List.getElem?_eq_some_iff.1 hp).1; omega) hje hp hps
        have hes' : ∀ j, j ∈ is ↔ j ∈ eff ∧ (listed.setIfInBounds i true).getD j false = false := by
          intro j
          rw [hcond]
          have h1 := hes j
          by_cases e : i = j
          · subst e
            have : ¬ i ∈ is := fun h => by have := sorted_head hso i h; omega
            simp [this]
          · rw [beqF e, cond_false, ← h1, List.mem_cons]
            exact ⟨.inr, fun h => h.resolve_left (fun h => e h.symm)⟩
        rcases hcase with ⟨hg, hA⟩ | ⟨hg, hfit, hel'⟩
        · rw [wanted_of hrel hg, if_pos rfl]
          refine .inl ?_
          have := hA av w μ hd.inv hrel (fun av' w' => ∃ u σ' μ', EL P N ⟨os⟩ F fin (A3 (blank eff 0 (os.take m)) rs a0 m) is (put E o.dst u) σ' ∧ Ev w μ σ w' μ' σ' ∧ Inv w' μ' σ' ∧ RelA w' μ' σ' N av' (put (Ay (E ++ A3 (blank eff 0 (os.take m)) rs a0 m) (Ax ⟨os⟩ o)) o.dst u)) Qc
            (by rintro av' w' μ' a' σ' h1 h2 h3 ⟨u, rfl, h4⟩; exact ⟨u, σ', μ', h4, h1, h2, h3⟩)
          refine Oper.wp_mono ?_ (upon_frame this)
          rintro av' w' ⟨⟨u, σ', μ', h0, h1, h2, h3⟩, h4⟩
          exact hnew is (put E o.dst u) σ' av' w' μ' u (sorted_tail hso) hes' h0 h1 h2 h3.size h3.defers h4 (fun s hs => h3.tmp s u (by rw [hs]; simp [put, get])) (.inl ⟨hie, rfl⟩)
        · rw [wanted_of hrel hg, if_neg (by simp)]
          have hp := hrel.put hfit (v := undef) (t := .tup []) (.tup [] #[] rfl fun j c v h1 h2 => by simp at h1)
          refine hnew is (put E o.dst (.tup [])) σ _ w μ (.tup []) (sorted_tail hso) hes' hel' (.refl _ _ _) hd.inv hp.size hp.defers (fun s hs => ?_) (fun s hs => ?_) (.inl ⟨hie, rfl⟩)
          · cases hd' : o.dst with
            | none => simp [Act.put]
            | some d =>
              have : d ≠ s := fun e => hs (by rw [hd', e])
              simp [Act.put, Array.getElem?_setIfInBounds, this]
          · exact hp.tmp s _ (by rw [hs]; simp [put, get])

structure DInvC (m : Nat) (os : List Oper) (rs : List T) (a0 : Env) (N : Nat) (σ : St) (listed : Array Bool) (av : Act) (w : World) (μ : Gh) : Prop where
  inv : Inv w μ σ
  size : av.tmps.size = N
  defers : av.defers = []
  base : ∀ (s : Nat) (t : T), (∀ (j : Nat) (o : Oper), listed.getD (m + j) false = true → os[j]? = some o → o.dst ≠ some s) → get a0 s = some t → ∃ v, av.tmps[s]? = some v ∧ Rel w μ σ v t
  done : ∀ (j : Nat) (o : Oper) (s : Nat) (t : T), listed.getD (m + j) false = true → os[j]? = some o → o.dst = some s → rs[j]? = some t → ∃ v, av.tmps[s]? = some v ∧ Rel w μ σ v t
  closed : ∀ (j : Nat) (o : Oper), listed.getD (m + j) false = true → os[j]? = some o → ∀ e ∈ o.after.toList, Region.binds .any e = true → listed.getD e.on false = true

theorem wpAny_ofC {os qs : List Oper} {m : Nat} (hqs : os.drop m = qs) (hm : m ≤ os.length) {rs : List T} {a0 : Env} {Qc : Exit → Act → World → Prop} {w0 : World} {μ0 : Gh} {σ0 : St} (hc0 : cutB ⟨os⟩ m qs = true) (hc : cut2 ⟨os⟩ m qs m qs = true) (hl : rs.length = qs.length)
    (hs : ∀ (j : Nat) (o : Oper), qs[j]? = some o → ∃ t, rs[j]? = some t ∧ StepOK P N ⟨os⟩ σ o (Ay (A3 qs rs a0 j) (Ax ⟨os⟩ o)) t)
    (hQ : ∀ av' w' μ', Ev w0 μ0 σ0 w' μ' σ → Inv w' μ' σ → RelA w' μ' σ N av' (A3 qs rs a0 qs.length) → Qc .normal av' w') :
    ∀ (fuel : Nat) (l : List Nat) (listed : Array Bool) (av : Act) (w : World) (μ : Gh), l.Nodup → l.length = fuel → listed.size = os.length → (∀ i, i ∈ l ↔ i < os.length ∧ listed.getD i true = false) → (∀ j, j < m → listed.getD j false = true) →
      Ev w0 μ0 σ0 w μ σ → DInvC m qs rs a0 N σ listed av w μ → wpAny P .any ⟨os⟩ Qc fuel listed av w := by
  have hqa : ∀ j, qs[j]? = os[m + j]? := fun j => by rw [← hqs, List.getElem?_drop]
  have hql : qs.length = os.length - m := by rw [← hqs, List.length_drop]
  intro fuel
  induction fuel with
  | zero =>
    intro l listed av w μ hn hlen hsz hmem hpre hev hd
    obtain rfl : l = [] := List.eq_nil_of_length_eq_zero hlen
    have hall : ∀ i, i < os.length → listed.getD i false = true := by
      intro i hi
      have h1 : ¬ listed.getD i true = false := fun h => by simpa using (hmem i).2 ⟨hi, h⟩
      simp only [Array.getD_eq_getD_getElem?, Array.getElem?_eq_getElem (show i < listed.size by omega), Option.getD_some] at h1 ⊢
      simpa using h1
    refine ⟨?_, hQ av w μ hev hd.inv ⟨hd.size, hd.defers, fun s t ht => ?_⟩⟩
    · simp only [Region.ready, List.filter_eq_nil_iff, List.mem_range]
      intro i hi
      have h1 := hall i (by simpa using hi)
      simp only [Array.getD_eq_getD_getElem?, Array.getElem?_eq_getElem (show i < listed.size by simp at hi; omega), Option.getD_some] at h1 ⊢
      simp [h1]
    · rcases get_envAt qs rs a0 _ s t hl (Nat.le_refl _) ht with ⟨j, o, h1, h2, h3, h4⟩ | ⟨h1, h2⟩
      · exact hd.done j o s t (hall (m + j) (by omega)) h2 h3 h4
      · exact hd.base s t (fun j o _ ho => h1 j o (List.getElem?_eq_some_iff.1 ho).1 ho) h2
  | succ fuel ih =>
    intro l listed av w μ hn hlen hsz hmem hpre hev hd
    have hdef : ∀ i, i < os.length → listed.getD i true = listed.getD i false := by
      intro i hi
      simp only [Array.getD_eq_getD_getElem?, Array.getElem?_eq_getElem (show i < listed.size by omega), Option.getD_some]
    refine ⟨fun hr => ?_, fun i hi => ?_⟩
    · exfalso
      obtain ⟨i, hil, him⟩ := minimal (l := l) (by intro h; subst h; simp at hlen)
      obtain ⟨h1, h2⟩ := (hmem i).1 hil
      have : i ∈ Region.ready .any ⟨os⟩ listed := by
        simp only [Region.ready, List.mem_filter, List.mem_range]
        refine ⟨by simpa using h1, ?_⟩
        have ho : (⟨os⟩ : Array Oper)[i]? = some os[i] := by simp [h1]
        simp only [h2, ho, Option.map_some, Option.getD_some, Bool.not_false, Bool.true_and]
        rw [← Array.all_toList, List.all_eq_true]
        intro e he
        have hmi : m ≤ i := by
          rcases Nat.lt_or_ge i m with h | h
          · have := hpre i h; rw [← hdef i h1, h2] at this; cases this
          · exact h
        have k1 := (cutB_at hc0 (i - m) os[i] (by rw [hqa, show m + (i - m) = i by omega]; exact List.getElem?_eq_getElem h1)).1
        rw [show m + (i - m) = i by omega] at k1
        cases hb : Region.binds .any e with
        | false => simp
        | true =>
          have := k1 e he hb
          have h3 : e.on < os.length := by omega
          have h4 : ¬ e.on ∈ l := fun h => by have := him _ h; omega
          have h5 : ¬ listed.getD e.on true = false := fun h => h4 ((hmem _).2 ⟨h3, h⟩)
          rw [hdef _ h3] at h5
          simpa using h5
      rw [hr] at this; cases this
    · simp only [Region.ready, List.mem_filter, List.mem_range, Bool.and_eq_true] at hi
      obtain ⟨hi1, hi2, hi3⟩ := hi
      have hin : i < os.length := by simpa using hi1
      have hil : listed.getD i true = false := by simpa using hi2
      have hilf : listed.getD i false = false := by rw [← hdef i hin]; exact hil
      obtain ⟨o, ho⟩ : ∃ o, os[i]? = some o := ⟨_, List.getElem?_eq_getElem hin⟩
      have ho' : (⟨os⟩ : Array Oper)[i]? = some o := by simpa using ho
      simp only [ho', Option.map_some, Option.getD_some] at hi3
      rw [← Array.all_toList, List.all_eq_true] at hi3
      have hready : ∀ e ∈ o.after.toList, Region.binds .any e = true → listed.getD e.on false = true := by
        intro e he hb
        have := hi3 e he
        simpa [hb] using this
      have hmi : m ≤ i := by
        rcases Nat.lt_or_ge i m with h | h
        · have := hpre i h; rw [hilf] at this; cases this
        · exact h
      obtain ⟨q, hq⟩ : ∃ q, i = m + q := ⟨i - m, by omega⟩
      have hoq : qs[q]? = some o := by rw [hqa, ← hq]; exact ho
      have hk2 := cut2_at hc q o hoq
      rw [← hq] at hk2
      have hpair : ∀ (j : Nat) (p : Oper), qs[j]? = some p → pairOK ⟨os⟩ i (m + j) o p = true := fun j p hp => drawOK2_at hk2 j p hp
      have hedge : ∀ (q : Oper) (j : Nat), hasEdge q j = true → ∃ e ∈ q.after.toList, Region.binds .any e = true ∧ e.on = j := by
        intro q j h
        obtain ⟨e, he, h2⟩ := List.any_eq_true.1 h
        simp only [Bool.and_eq_true] at h2
        exact ⟨e, he, h2.1, Nat.eq_of_beq_eq_true h2.2⟩
      obtain ⟨t, ht, hstep⟩ := hs q o hoq
      have hrel : RelA w μ σ N av (Ay (A3 qs rs a0 q) (Ax ⟨os⟩ o)) := by
        refine ⟨hd.size, hd.defers, fun s u hu => ?_⟩
        obtain ⟨m1, m2⟩ := get_restr hu
        rcases get_envAt qs rs a0 q s u hl (by have := (List.getElem?_eq_some_iff.1 hoq).1; omega) m2 with ⟨j, p, h1, h2, h3, h4⟩ | ⟨h1, h2⟩
        · have := hpair j p h2
          simp only [pairOK, h3, memB_of m1, Bool.not_true, Bool.false_or, Bool.and_eq_true, show Nat.blt (m + j) i = true from (by rw [Nat.blt_eq]; omega), cond_true] at this
          obtain ⟨e, he, hb, hon⟩ := hedge o (m + j) this.2
          exact hd.done j p s u (hon ▸ hready e he hb) h2 h3 h4
        · refine hd.base s u (fun j p hj hp hps => ?_) h2
          rcases Nat.lt_trichotomy j q with h | h | h
          · exact h1 j p h hp hps
          · subst h; rw [← hq, hilf] at hj; cases hj
          · have := hpair j p hp
            have hb : Nat.blt (m + j) i = false := by cases hb : Nat.blt (m + j) i with | false => rfl | true => rw [Nat.blt_eq] at hb; omega
            simp only [pairOK, hps, memB_of m1, Bool.not_true, Bool.false_or, Bool.and_eq_true, hb, cond_false, show Nat.blt i (m + j) = true from (by rw [Nat.blt_eq]; omega), cond_true] at this
            obtain ⟨e, he, hb, hon⟩ := hedge p i this.2
            have := hd.closed j p hj hp e he hb
            rw [hon, hilf] at this; cases this
      have hnew : ∀ (av' : Act) (w' : World) (μ' : Gh), Ev w μ σ w' μ' σ → Inv w' μ' σ → av'.tmps.size = N → av'.defers = [] → (∀ s, o.dst ≠ some s → av'.tmps[s]? = av.tmps[s]?) →
          (∀ s, o.dst = some s → ∃ v, av'.tmps[s]? = some v ∧ Rel w' μ' σ v t) → wpAny P .any ⟨os⟩ Qc fuel (listed.setIfInBounds i true) av' w' := by
        intro av' w' μ' hev' hi' hsz' hdf' hfr hdst
        have hcond : ∀ j, (listed.setIfInBounds i true).getD j false = cond (Nat.beq i j) true (listed.getD j false) := fun j => setD (by omega)
        refine ih (l.erase i) _ av' w' μ' (hn.erase i) ?_ (by simpa using hsz) (fun j => ?_) (fun j hj => by rw [hcond, hpre j hj]; cases Nat.beq i j <;> rfl) (hev.trans hev') ⟨hi', hsz', hdf', ?_, ?_, ?_⟩
        · rw [List.length_erase_of_mem ((hmem i).2 ⟨hin, hil⟩)]; omega
        · rw [hn.mem_erase_iff, hmem j, setD (by omega)]
          by_cases e : i = j
          · subst e; simp
          · rw [beqF e]; simp only [cond_false]
            exact ⟨fun h => h.2, fun h => ⟨fun h' => e h'.symm, h⟩⟩
        · intro s u hno hu
          have hds : o.dst ≠ some s := hno q o (by rw [hcond, hq]; simp) hoq
          rw [hfr s hds]
          obtain ⟨v, hv, r⟩ := hd.base s u (fun j p hj hp => hno j p (by rw [hcond, hj]; simp) hp) hu
          exact ⟨v, hv, r.ev hev'⟩
        · intro j p s u hj hp hps hu
          by_cases e : i = m + j
          · obtain rfl : q = j := by omega
            rw [hoq] at hp; injection hp with hp; subst hp
            rw [ht] at hu; injection hu with hu; subst hu
            exact hdst s hps
          · rw [hcond, beqF e, cond_false] at hj
            have hds : o.dst ≠ some s := by
              intro h
              have := hpair j p hp
              simp [pairOK, hps, h, beqF e] at this
            rw [hfr s hds]
            obtain ⟨v, hv, r⟩ := hd.done j p s u hj hp hps hu
            exact ⟨v, hv, r.ev hev'⟩
        · intro j p hj hp e he hb
          rw [hcond]
          cases hij : Nat.beq i e.on with
          | true => rfl
          | false =>
            rw [hcond] at hj
            cases hij2 : Nat.beq i (m + j) with
            | true =>
              have := Nat.eq_of_beq_eq_true hij2
              obtain rfl : q = j := by omega
              rw [hoq] at hp; injection hp with hp; subst hp
              exact hready e he hb
            | false => rw [hij2] at hj; exact hd.closed j p hj hp e he hb
      unfold wpOp
      simp only [ho']
      rcases hstep with ⟨hg, hA⟩ | ⟨hg, rfl, hfit⟩
      · rw [wanted_of hrel hg, if_pos rfl]
        refine .inl ?_
        have := hA (fun a' σ' => a' = put (Ay (A3 qs rs a0 q) (Ax ⟨os⟩ o)) o.dst t ∧ σ' = σ) ⟨rfl, rfl⟩ av w μ hd.inv hrel (fun av' w' => ∃ μ', Ev w μ σ w' μ' σ ∧ Inv w' μ' σ ∧ RelA w' μ' σ N av' (put (Ay (A3 qs rs a0 q) (Ax ⟨os⟩ o)) o.dst t)) Qc
          (by rintro av' w' μ' a' σ' h1 h2 h3 ⟨rfl, rfl⟩; exact ⟨μ', h1, h2, h3⟩)
        refine Oper.wp_mono ?_ (upon_frame this)
        rintro av' w' ⟨⟨μ', h1, h2, h3⟩, h4⟩
        exact hnew av' w' μ' h1 h2 h3.size h3.defers h4 (fun s hs => h3.tmp s t (by rw [hs]; simp [put, get]))
      · rw [wanted_of hrel hg, if_neg (by simp)]
        have hp := hrel.put hfit (v := undef) (t := .tup []) (.tup [] #[] rfl fun j c v h1 h2 => by simp at h1)
        refine hnew _ w μ (.refl _ _ _) hd.inv hp.size hp.defers (fun s hs => ?_) (fun s hs => ?_)
        · cases hd' : o.dst with
          | none => simp [Act.put]
          | some d =>
            have : d ≠ s := fun e => hs (by rw [hd', e])
            simp [Act.put, Array.getElem?_setIfInBounds, this]
        · exact hp.tmp s _ (by rw [hs]; simp [put, get])

theorem aw_drawC {id m : Nat} {os pre post : List Oper} {a : Env} {Q : Exit → Env → St → Prop} (eff : List Nat) (F : St → Prop) (hm : P.follows .mixedOrders = true) (hc : drawOKC ⟨os⟩ m eff = true) (hml : Nat.ble m os.length = true) (hp : os.take m = pre) (hq : os.drop m = post)
    (h : DQ P N ⟨os⟩ eff F (fun A => EL P N ⟨os⟩ F (fun a' σ' => DL P N ⟨os⟩ Q σ' post a') A eff [] σ) 0 pre a) : AW P N (.region id ⟨os⟩ true) Q a σ := by
  subst hp; subst hq
  have hml' := Nat.le_of_ble_eq_true hml
  have htl : (os.take m).length = m := by rw [List.length_take]; omega
  intro av w μ hi hr
  obtain ⟨rs, h1, h2, h3⟩ := dq_can (os.take m) 0 a h
  rw [htl] at h3
  have hev : Ev w μ σ { w with drawn := w.drawn + 1 } μ σ := ev_same rfl rfl rfl rfl
  have hi' : Inv { w with drawn := w.drawn + 1 } μ σ := hi.ev_heap rfl hev
  have X1 : ∀ i, i ∈ List.range m ↔ i < m ∧ (Array.replicate os.length false).getD i true = false := by
    intro i
    simp only [List.mem_range]
    constructor
    · intro h; exact ⟨h, by simp [Array.getD]; omega⟩
    · intro h; exact h.1
  have hf : ∀ j, (Array.replicate os.length false).getD j false = true → False := by
    intro j hj
    simp [Array.getD] at hj
  have X3 : EInv (os.take m) eff rs a N σ [] (Array.replicate os.length false) av { w with drawn := w.drawn + 1 } μ :=
    ⟨hi', hr.size, hr.defers, fun s t _ ht => (hr.ev hev).tmp s t ht, fun j o s t hj => (hf j hj).elim, fun s t h => by simp [get] at h, fun s t h => by simp [get] at h, fun j o s hj => (hf j hj).elim, fun j o hj => (hf j hj).elim⟩
  have hso : sortedB eff = true := by
    unfold drawOKC at hc; simp only [Bool.and_eq_true] at hc; exact hc.1.1.2
  have hcB : cutB ⟨os⟩ m (os.drop m) = true := by unfold drawOKC at hc; simp only [Bool.and_eq_true] at hc; exact hc.1.1.1.2
  have hc2 : cut2 ⟨os⟩ m (os.drop m) m (os.drop m) = true := by unfold drawOKC at hc; simp only [Bool.and_eq_true] at hc; exact hc.2
  have key := wpAny_effC (w0 := w) (μ0 := μ) (σ0 := σ) (Qc := fun e av' w' => ∃ a' σ' μ', Ev w μ σ w' μ' σ' ∧ Inv w' μ' σ' ∧ RelA w' μ' σ' N av' a' ∧ Q e a' σ') hml' hc h1 (fun j o ho hj => h2 j o ho (by rwa [Nat.zero_add]))
    (fun av' w' μ' σ' a' listed k1 k2 k3 k4 k5 k6 => by
      obtain ⟨ts, t1, t2, t3⟩ := dl_can (os.drop m) a' k6
      have hdf : ∀ i, i < os.length → listed.getD i true = listed.getD i false := by
        intro i hi
        simp only [Array.getD_eq_getD_getElem?, Array.getElem?_eq_getElem (show i < listed.size by omega), Option.getD_some]
      refine wpAny_ofC (w0 := w) (μ0 := μ) rfl hml' hcB hc2 t1 t2 (fun av2 w2 μ2 l1 l2 l3 => ⟨_, σ', μ2, l1, l2, l3, t3⟩) (os.length - m) (List.range' m (os.length - m)) listed av' w' μ' List.nodup_range' (by simp) k1 (fun i => ?_) (fun j hj => (k2 j).2 hj) k3 ⟨k4, k5.size, k5.defers, fun s t _ ht => k5.tmp s t ht, fun j o s t hj => ?_, fun j o hj => ?_⟩
      · rw [List.mem_range'_1]
        constructor
        · intro h
          refine ⟨by omega, ?_⟩
          rw [hdf i (by omega)]
          cases hb : listed.getD i false with
          | false => rfl
          | true => have := (k2 i).1 hb; omega
        · rintro ⟨h1, h2⟩
          rw [hdf i h1] at h2
          rcases Nat.lt_or_ge i m with h | h
          · rw [(k2 i).2 h] at h2; cases h2
          · omega
      · have := (k2 (m + j)).1 hj; omega
      · have := (k2 (m + j)).1 hj; omega)
    m (List.range m) eff [] σ (Array.replicate os.length false) av { w with drawn := w.drawn + 1 } μ List.nodup_range (by simp) (by simp) X1 (fun j hj => (hf j hj).elim) hso (fun i => ⟨fun h => ⟨h, by simp [Array.getD]⟩, fun h => h.1⟩) h3 hev X3
  refine wp_region_any hm ?_
  rw [show m + (os.length - m) = os.length by omega] at key
  exact key


theorem aw_drawC' {id m : Nat} {os pre post : List Oper} {a : Env} {Q : Exit → Env → St → Prop} (eff : List Nat) (F : St → Prop) (hm : P.follows .mixedOrders = true) (hc : drawOKC ⟨os⟩ m eff = true) (hs : Sp m os pre post)
    (h : let O1 : Array Oper := ⟨os⟩; let F1 := F; let Z1 := fun a' σ' => DL P N O1 Q σ' post a'; let Q2 := fun A => EL P N O1 F1 Z1 A eff [] σ; DQ P N O1 eff F1 Q2 0 pre a) : AW P N (.region id ⟨os⟩ true) Q a σ :=
  aw_drawC eff F hm hc (Nat.ble_eq_true_of_le hs.eq.2.2) hs.eq.1 hs.eq.2.1 h
end
end Go.Ts
set_option maxHeartbeats 4000000
namespace Go.Proofs.Ythfgocinlbogeaa
open Go.Ts
set_option linter.unusedSimpArgs false
set_option linter.unusedVariables false
attribute [local irreducible] Go.Ts.AW Go.Ts.AOps Go.Ts.AL Go.Ts.AOp Go.Ts.ACalls Go.Ts.DL Go.Ts.DQ Go.Ts.DQ0 Go.Ts.EL
structure RunX (n : Nat) where
  A : Nat → Option (List UInt8)
  l : List SB
  at' : List (Nat × Int)
  ps : List PB
  p : Nat
  ri : Nat
  m : Nat
  r : Nat
  ok : ArOK A l at'
  rf : Rf A ps
  ne : ∀ id b, A id = some b → b ≠ []
  hl : l.length ≤ n
structure RunI (ls : List OpA) where
  i : Nat
  hi : i ≤ ls.length
  x : RunX i
theorem ne_put {A : Nat → Option (List UInt8)} (h : ∀ id b, A id = some b → b ≠ []) {id : Nat} {b : List UInt8} (hb : b ≠ []) : ∀ x c, updO A id (some b) x = some c → c ≠ [] := fun x c hx => by
  unfold updO at hx
  split at hx
  · injection hx with hx; rw [← hx]; exact hb
  · exact h x c hx
theorem ne_del {A : Nat → Option (List UInt8)} (h : ∀ id b, A id = some b → b ≠ []) {id : Nat} : ∀ x c, updO A id none x = some c → c ≠ [] := fun x c hx => by
  unfold updO at hx
  split at hx
  · cases hx
  · exact h x c hx
theorem drop_any (v : UInt8) (l : List SB) (at' : List (Nat × Int)) (h : WFA l at') (id : Nat) (hl : l.length ≤ 1000000) (p ri m : Nat) :
    OnL Try.prog 37 [.ptr p 0, .int .u64 (id : Int)] (arL v l at' p ri m) (fun u L => ∃ l2 a2 e, u = .int .i64 e ∧ L = arL v l2 a2 p ri m) := by
  cases hk : khas at' id with
  | true =>
    obtain ⟨j, g1, g2, g3, g4⟩ := h.b id hk
    exact fun off => (arena_Drop_is v l at' hk g1 g2 hl p ri m off).mono fun u σ' ⟨L', ⟨h1, h2⟩, h3⟩ => ⟨L', ⟨_, _, _, h1, h2⟩, h3⟩
  | false => exact fun off => (arena_Drop_no v l at' hk p ri m off).mono fun u σ' ⟨L', ⟨h1, h2⟩, h3⟩ => ⟨L', ⟨_, _, _, h1, h2⟩, h3⟩
set_option maxHeartbeats 9000000 in
theorem arenaAll_pure {v : UInt8} {ls : List OpA} (hls : ls.length ≤ bigLen) (hlb : ∀ o ∈ ls, o.b.length ≤ bigLen) : Ts.Pure Try.prog 9 [bT v, .sl 3 .no (ls.map opT)] (.bool true) := by
  have h0 := arena_begun
  intro off
  by_cases h50 : 50 < ls.length
  · refine Af (N := 137) (rs := [.tmp 4]) hG Try.func9 rfl rfl rfl rfl rfl ?_
    repeat' (first | (show AL _ _ _ _ _ _ _ _; first | refine so2 ?_ | refine sp Y Y Y Y Y Y (by apply h0 <;> exact sd) ?_ | (refine sb ?_; intro i)) | (show DL _ _ _ _ _ _ _; first | refine do2 ?_ | refine dp Y Y Y Y Y Y Y (by apply h0 <;> exact sd) ?_) | (show AW _ _ _ _ _ _; first | (show AW _ _ (.region _ _ _) _ _ _; refine sc0 ?_; intro O1) | (refine sc1 ?_; try intro Q1)) | (show (_ → _) ∧ _; refine ⟨fun h => ?_, fun h => ?_⟩) | fail)
    exact Bj (Ae rfl Ag) (.refl _) rfl
  refine Af (N := 137) (rs := [.tmp 4]) hG Try.func9 rfl rfl rfl rfl rfl ?_
  repeat' (first | (show AL _ _ _ _ _ _ _ _; first | refine so2 ?_ | refine sp Y Y Y Y Y Y (by apply h0 <;> exact sd) ?_ | (refine sb ?_; intro i)) | (show DL _ _ _ _ _ _ _; first | refine do2 ?_ | refine dp Y Y Y Y Y Y Y (by apply h0 <;> exact sd) ?_) | (show AW _ _ _ _ _ _; first | (show AW _ _ (.region _ _ _) _ _ _; refine sc0 ?_; intro O1) | (refine sc1 ?_; try intro Q1)) | (show (_ → _) ∧ _; refine ⟨fun h => ?_, fun h => ?_⟩) | fail)
  refine al_on (arena_New v) rfl rfl rfl rfl rfl rfl .nil ?_
  rintro u L' ⟨p, m, rfl, rfl⟩
  repeat' (first | (show AL _ _ _ _ _ _ _ _; first | refine so2 ?_ | (refine sb ?_; intro q)) | (show DL _ _ _ _ _ _ _; first | refine do2 ?_) | (show AW _ _ _ _ _ _; first | (show AW _ _ (.region _ _ _) _ _ _; refine sc0 ?_; intro O1) | (refine sc1 ?_; try intro Q1)) | (show (_ → _) ∧ _; refine ⟨fun h => ?_, fun h => ?_⟩) | fail)
  refine aw_ghost (wk_step (i := q) (cs := [bT v, .nilsl, .nilsl]) (ds := [bT v, .sl 1 .no [], .sl 1 .no []]) hs (wkc (.refl _) (wkc (.nil 1) (wkc (.nil 1) trivial)))) ?_
  refine A5 (X := RunI ls) (fun x => [(0, bT v), (1, .sl 3 .no (ls.map opT)), (5, .ptr x.x.p 0), (6, .ptr q 0), (7, .int .i64 (x.i : Int))]) (fun x => ⟨rfL v x.x.ps q x.x.r ++ arL v x.x.l x.x.at' x.x.p x.x.ri x.x.m, [], off, none⟩) (fun x => ls.length - x.i) ⟨0, Nat.zero_le _, ⟨fun _ => none, [], [], [], p, 0, m, 0, ar_nil, rf_nil, (fun _ _ h => by cases h), Nat.le_refl _⟩⟩ (.cons rfl (.cons rfl (.cons rfl (.cons rfl (.consW rfl (.int rfl) (.nil _)))))) (.refl _) ?_
  clear p m
  rintro ⟨i, hi, ⟨A, l, at', ps, p, ri, m, r, ok, rf, ne, hl⟩⟩
  dsimp only
  by_cases hil : i < ls.length
  · have hbl := hlb (ls.getD i default) (by simp [List.getD, hil])
    repeat' (first | (show AL _ _ _ _ _ _ _ _; (fail_if_success show AL _ _ _ _ _ (⟨_, .alloc _, _, _, _, _⟩ :: _) _ _); first | refine so2 ?_ | (refine sb ?_; intro i)) | (show DL _ _ _ _ _ _ _; first | refine do2 ?_) | (show AW _ _ _ _ _ _; first | (show AW _ _ (.region _ _ _) _ _ _; refine sc0 ?_; intro O1) | (refine sc1 ?_; try intro Q1)) | (show (_ → _) ∧ _; refine ⟨fun h => ?_, fun h => ?_⟩) | fail)
    refine al_slot 34 rfl (u := .agg [.int .i64 (ls.getD i default).kind, .int .u64 ((ls.getD i default).id : Int), sT (ls.getD i default).b]) (.eq rfl) ?_
    generalize hoi : ls.getD i default = o at *
    by_cases h100 : 100 < o.b.length
    · repeat' (first | (show AL _ _ _ _ _ _ _ _; first | refine so2 ?_ | (refine sb ?_; intro oi)) | (show DL _ _ _ _ _ _ _; first | refine do2 ?_) | (show AW _ _ _ _ _ _; first | (show AW _ _ (.region _ _ _) _ _ _; refine sc0 ?_; intro O1) | (refine sc1 ?_; try intro Q1)) | (show (_ → _) ∧ _; refine ⟨fun h => ?_, fun h => ?_⟩) | fail)
      dsimp (config := { zetaDelta := true }) only [A7, Am, jumpA]
      exact Bj (Ae rfl Ag) (.refl _) rfl
    repeat' (first | (show AL _ _ _ _ _ _ _ _; first | refine so2 ?_ | (refine sb ?_; intro oi)) | (show DL _ _ _ _ _ _ _; first | refine do2 ?_) | (show AW _ _ _ _ _ _; first | (show AW _ _ (.region _ _ _) _ _ _; refine sc0 ?_; intro O1) | (refine sc1 ?_; try intro Q1)) | (show (_ → _) ∧ _; refine ⟨fun h => ?_, fun h => ?_⟩) | fail)
    refine al_on (law_Twin (b := o.b) (by omega)) rfl rfl rfl rfl rfl rfl .nil ?_
    rintro u L' ⟨tw, rfl, rfl⟩
    repeat' (first | (show AL _ _ _ _ _ _ _ _; first | refine so2 ?_ | (refine sb ?_; intro i)) | (show DL _ _ _ _ _ _ _; first | refine do2 ?_) | (show AW _ _ _ _ _ _; (fail_if_success show AW _ _ (.seq (.region 13 _ _) _) _ _ _); first | (show AW _ _ (.region _ _ _) _ _ _; refine sc0 ?_; intro O1) | (refine sc1 ?_; try intro Q1)) | (show (_ → _) ∧ _; refine ⟨fun h => ?_, fun h => ?_⟩) | fail)
    refine aw_midM (X := RunX (i + 1)) (fun x => [(0, bT v), (1, .sl 3 .no (ls.map opT)), (5, .ptr x.p 0), (6, .ptr q 0), (7, .int .i64 (i : Int)), (8, .ptr oi 0)]) (fun x => ⟨(oi, .cells [.int .i64 o.kind, .int .u64 (o.id : Int), sT o.b]) :: (rfL v x.ps q x.r ++ arL v x.l x.at' x.p x.ri x.m), [], off, none⟩) ?_ ?_
    rotate_left
    · rintro ⟨A, l, at', ps, p, ri, m, r, ok, rf, ne, hl⟩
      dsimp only
      have hS := And.intro (law_same (v := v) ok rf ne (by omega) o.hid p ri m q r) (List.perm_append_comm (l₁ := [(oi, Ob.cells [.int .i64 o.kind, .int .u64 (o.id : Int), sT o.b])]) (l₂ := rfL v ps q r ++ arL v l at' p ri m))
      repeat' (first | (show AL _ _ _ _ _ _ _ _; first | refine so2 ?_ | (refine Ac Y (r_onS Y Y Y Y hS.1 hS.2 ?_)) | (refine sb ?_; intro i)) | (show DL _ _ _ _ _ _ _; first | refine do2 ?_ | refine dl_onP hS.1 Y Y Y Y Y Y hS.2 ?_) | (show AW _ _ _ _ _ _; first | (show AW _ _ (.region _ _ _) _ _ _; refine sc0 ?_; intro O1) | (refine sc1 ?_; try intro Q1)) | (show (_ → _) ∧ _; refine ⟨fun h => ?_, fun h => ?_⟩) | fail)
      exact ⟨⟨i + 1, by omega, ⟨A, l, at', ps, p, ri, m, r, ok, rf, ne, hl⟩⟩, by dsimp only; omega, .cons rfl (.cons rfl (.cons rfl (.cons rfl (.consW rfl (.int (by simp)) (.nil _))))), Bc (R' := []) (List.sublist_cons_self _ _) (List.nil_sublist _)⟩
    have hwl : (twL o.b).length = o.b.length + 3 := by simp [twL]
    have hw : win (twL o.b) 0 o.b.length = o.b := by unfold win; rw [List.drop_zero]; exact twL_take o.b
    have hpl := two_len ok rf
    repeat' (first | (show AL _ _ _ _ _ _ _ _; first | refine so2 ?_ | (refine sb ?_; intro i)) | (show DL _ _ _ _ _ _ _; first | refine do2 ?_) | (show AW _ _ _ _ _ _; (fail_if_success show AW _ _ (.region 15 _ _) _ _ _); (fail_if_success show AW _ _ (.region 19 _ _) _ _ _); (fail_if_success show AW _ _ (.region 22 _ _) _ _ _); first | (show AW _ _ (.region _ _ _) _ _ _; refine sc0 ?_; intro O1) | (refine sc1 ?_; try intro Q1)) | (show (_ → _) ∧ _; refine ⟨fun h => ?_, fun h => ?_⟩) | fail)
    · cases hp : putsB v o.b with
      | false =>
        have hP := And.intro (arena_Put_no_v v l at' (id := o.id) (o := 0) (mm := o.b.length) (lr := twL o.b) (b := o.b) (by omega) (by omega) hw hp p ri m tw) (List.Perm.cons (tw, Ob.cells ((twL o.b).map bT)) (comm3 (oi, Ob.cells [.int .i64 o.kind, .int .u64 (o.id : Int), sT o.b]) (rfL v ps q r) (arL v l at' p ri m)))
        have hD := And.intro (d_Put_no v ps (id := o.id) (b := o.b) (by omega) hp q r) (List.perm_append_comm_assoc [(tw, Ob.cells ((twL o.b).map bT)), (oi, Ob.cells [.int .i64 o.kind, .int .u64 (o.id : Int), sT o.b])] (rfL v ps q r) (arL v l at' p ri m))
        have hK := And.intro (law_Kept (b := o.b) (by omega) tw) (List.Perm.refl ([(tw, Ob.cells ((twL o.b).map bT))] ++ ((oi, Ob.cells [.int .i64 o.kind, .int .u64 (o.id : Int), sT o.b]) :: (rfL v ps q r ++ arL v l at' p ri m))))
        repeat' (first | (show AL _ _ _ _ _ _ _ _; first | refine so2 ?_ | (refine Ac Y (r_onS Y Y Y Y hP.1 hP.2 ?_)) | (refine Ac Y (r_onS Y Y Y Y hD.1 hD.2 ?_)) | (refine Ac Y (r_onS Y Y Y Y hK.1 hK.2 ?_)) | (refine sb ?_; intro i)) | (show DL _ _ _ _ _ _ _; first | refine do2 ?_ | refine dl_onP hP.1 Y Y Y Y Y Y hP.2 ?_ | refine dl_onP hD.1 Y Y Y Y Y Y hD.2 ?_ | refine dl_onP hK.1 Y Y Y Y Y Y hK.2 ?_) | (show AW _ _ _ _ _ _; first | (show AW _ _ (.region _ _ _) _ _ _; refine sc0 ?_; intro O1) | (refine sc1 ?_; try intro Q1)) | (show (_ → _) ∧ _; refine ⟨fun h => ?_, fun h => ?_⟩) | fail)
        refine al_on (law_SpoilD (l := twL o.b) (n := o.b.length) (c := o.b.length + 3) hwl (by omega) tw) rfl rfl rfl rfl rfl rfl hs ?_
        rintro u L' ⟨lw', w5, rfl, rfl⟩
        repeat' (first | (show AL _ _ _ _ _ _ _ _; first | refine so2 ?_ | (refine sb ?_; intro i)) | (show DL _ _ _ _ _ _ _; first | refine do2 ?_) | (show AW _ _ _ _ _ _; first | (show AW _ _ (.region _ _ _) _ _ _; refine sc0 ?_; intro O1) | (refine sc1 ?_; try intro Q1)) | (show (_ → _) ∧ _; refine ⟨fun h => ?_, fun h => ?_⟩) | fail)
        refine al_nil ?_
        dsimp (config := { zetaDelta := true }) only [A7, Am, jumpA, noGotoA]
        exact ⟨⟨A, l, at', ps, p, ri, m, r, ok, rf, ne, by omega⟩, .cons rfl (.cons rfl (.cons rfl (.cons rfl (.cons rfl (.cons rfl (.nil _)))))), Bc (R' := []) (List.sublist_cons_self _ _) (List.nil_sublist _)⟩
      | true =>
        have hP := arena_Put_ok_v v l at' ok.wf (id := o.id) (o := 0) (mm := o.b.length) (lr := twL o.b) (b := o.b) (by omega) (by omega) hw o.hid hp (by omega) p ri m tw
        have hD := d_Put v ps (by omega) o.hid (by omega) hp q r
        refine aw_drawC' (m := 11) [4, 10] (Cont [(oi, .cells [.int .i64 o.kind, .int .u64 (o.id : Int), sT o.b])]) mix Y (by repeat (first | exact Sp.zero _ | apply Sp.succ)) ?_; intro O1 F1 Z1 Q2; repeat' (first | (show DQ _ _ _ _ _ _ _ _ _; first | refine ep2 ?_) | (show EL _ _ _ _ _ _ _ _ _; first | refine eqc ?_ | (refine ec ?_; intro i)) | (show (_ → _) ∧ _; refine ⟨fun h => ?_, fun h => ?_⟩) | fail)
        refine A1 (Cont.of rfl hs) rfl rfl rfl (fun K ke => ?_)
        refine r_onP hP rfl rfl rfl rfl rfl (List.Perm.cons (tw, Ob.cells ((twL o.b).map bT)) (comm3 (oi, Ob.cells [.int .i64 o.kind, .int .u64 (o.id : Int), sT o.b]) (rfL v ps q r) (arL v l at' p ri m))) ?_
        rintro u L' ⟨ri', rfl, rfl⟩
        refine ke _ _ ?_
        refine A1 (Cont.of rfl hs) rfl rfl rfl (fun K ke => ?_)
        refine r_onP hD rfl rfl rfl rfl rfl List.perm_middle.symm ?_
        rintro u L' ⟨r', rfl, rfl⟩
        refine ke _ _ ?_
        refine el_nil (Cont.of rfl hs) ?_
        show DL _ _ _ _ _ _ _
        have hK := law_Kept (b := o.b) (by omega) tw
        repeat' (first | (show AL _ _ _ _ _ _ _ _; first | refine so2 ?_ | refine al_onS hK Y Y Y Y Y hs ?_ | (refine sb ?_; intro i)) | (show DL _ _ _ _ _ _ _; first | refine do2 ?_ | refine dl_on hK Y Y Y Y Y Y hs ?_) | (show AW _ _ _ _ _ _; first | (show AW _ _ (.region _ _ _) _ _ _; refine sc0 ?_; intro O1) | (refine sc1 ?_; try intro Q1)) | (show (_ → _) ∧ _; refine ⟨fun h => ?_, fun h => ?_⟩) | fail)
        refine al_on (law_SpoilD (l := twL o.b) (n := o.b.length) (c := o.b.length + 3) hwl (by omega) tw) rfl rfl rfl rfl rfl rfl hs ?_
        rintro u L' ⟨lw', w5, rfl, rfl⟩
        repeat' (first | (show AL _ _ _ _ _ _ _ _; first | refine so2 ?_ | (refine sb ?_; intro i)) | (show DL _ _ _ _ _ _ _; first | refine do2 ?_) | (show AW _ _ _ _ _ _; first | (show AW _ _ (.region _ _ _) _ _ _; refine sc0 ?_; intro O1) | (refine sc1 ?_; try intro Q1)) | (show (_ → _) ∧ _; refine ⟨fun h => ?_, fun h => ?_⟩) | fail)
        refine al_nil ?_
        dsimp (config := { zetaDelta := true }) only [A7, Am, jumpA, noGotoA]
        have hln := put_len (l := l) (at' := at') o.id o.hid o.b
        have hps0 : o.b ≠ [] := by
          rintro e; rw [e] at hp; simp [putsB] at hp
        exact ⟨⟨updO A o.id (some o.b), putL l at' o.id o.hid o.b, putA l at' o.id, insP ps o.id o.b, p, ri', m, r', ar_put ok o.id o.hid o.b (by omega), rf_put rf o.id o.b, ne_put ne hps0, by omega⟩, .cons rfl (.cons rfl (.cons rfl (.cons rfl (.cons rfl (.cons rfl (.nil _)))))), (Bc (L' := _ :: (_ ++ _)) (R' := []) (List.sublist_cons_self _ _) (List.nil_sublist _)).trans (perm_step (List.Perm.cons _ List.perm_append_comm))⟩
    · cases hh : hasP ps o.id with
      | false =>
        have hA : A o.id = none := by
          have := hasP_look o.id rf.up
          rw [hh, rf.a] at this
          cases hq : A o.id with
          | none => rfl
          | some b => rw [hq] at this; cases this
        have hP := And.intro (arena_Drop_no v l at' (ar_no ok hA) p ri m) (List.perm_append_comm (l₁ := (tw, Ob.cells ((twL o.b).map bT)) :: (oi, Ob.cells [.int .i64 o.kind, .int .u64 (o.id : Int), sT o.b]) :: (rfL v ps q r)) (l₂ := arL v l at' p ri m))
        have hD := And.intro (d_Drop_no v ps (by omega) o.hid hh q r) (List.perm_append_comm_assoc [(tw, Ob.cells ((twL o.b).map bT)), (oi, Ob.cells [.int .i64 o.kind, .int .u64 (o.id : Int), sT o.b])] (rfL v ps q r) (arL v l at' p ri m))
        repeat' (first | (show AL _ _ _ _ _ _ _ _; first | refine so2 ?_ | (refine Ac Y (r_onS Y Y Y Y hP.1 hP.2 ?_)) | (refine Ac Y (r_onS Y Y Y Y hD.1 hD.2 ?_)) | (refine sb ?_; intro i)) | (show DL _ _ _ _ _ _ _; first | refine do2 ?_ | refine dl_onP hP.1 Y Y Y Y Y Y hP.2 ?_ | refine dl_onP hD.1 Y Y Y Y Y Y hD.2 ?_) | (show AW _ _ _ _ _ _; first | (show AW _ _ (.region _ _ _) _ _ _; refine sc0 ?_; intro O1) | (refine sc1 ?_; try intro Q1)) | (show (_ → _) ∧ _; refine ⟨fun h => ?_, fun h => ?_⟩) | fail)
        refine aw_skip ?_
        dsimp (config := { zetaDelta := true }) only [A7, Am, jumpA, noGotoA]
        exact ⟨⟨A, l, at', ps, p, ri, m, r, ok, rf, ne, by omega⟩, .cons rfl (.cons rfl (.cons rfl (.cons rfl (.cons rfl (.cons rfl (.nil _)))))), Bc (R' := []) (List.sublist_cons_self _ _) (List.nil_sublist _)⟩
      | true =>
        obtain ⟨b, hA⟩ : ∃ b, A o.id = some b := by
          have := hasP_look o.id rf.up
          rw [hh, rf.a] at this
          exact Option.isSome_iff_exists.1 this.symm
        obtain ⟨hk, _, j, hj, hjl, _⟩ := ar_has ok hA
        have hP := arena_Drop_is v l at' hk hj hjl (by omega) p ri m
        have hD := d_Drop_is v ps (by omega) o.hid hh q r
        refine aw_drawC' (m := 8) [3, 7] (Cont [(oi, .cells [.int .i64 o.kind, .int .u64 (o.id : Int), sT o.b])]) mix Y (by repeat (first | exact Sp.zero _ | apply Sp.succ)) ?_; intro O1 F1 Z1 Q2; repeat' (first | (show DQ _ _ _ _ _ _ _ _ _; first | refine ep2 ?_) | (show EL _ _ _ _ _ _ _ _ _; first | refine eqc ?_ | (refine ec ?_; intro i)) | (show (_ → _) ∧ _; refine ⟨fun h => ?_, fun h => ?_⟩) | fail)
        refine A1 (Cont.of rfl hs) rfl rfl rfl (fun K ke => ?_)
        refine r_onP hP rfl rfl rfl rfl rfl (List.perm_append_comm (l₁ := (tw, Ob.cells ((twL o.b).map bT)) :: (oi, Ob.cells [.int .i64 o.kind, .int .u64 (o.id : Int), sT o.b]) :: (rfL v ps q r)) (l₂ := arL v l at' p ri m)) ?_
        rintro u L' ⟨rfl, rfl⟩
        refine ke _ _ ?_
        refine A1 (Cont.of rfl hs) rfl rfl rfl (fun K ke => ?_)
        refine r_onP hD rfl rfl rfl rfl rfl (List.perm_append_comm_assoc [(tw, Ob.cells ((twL o.b).map bT)), (oi, Ob.cells [.int .i64 o.kind, .int .u64 (o.id : Int), sT o.b])] (rfL v ps q r) _) ?_
        rintro u L' ⟨r', rfl, rfl⟩
        refine ke _ _ ?_
        refine el_nil (Cont.of rfl hs) ?_
        show DL _ _ _ _ _ _ _
        repeat' (first | (show AL _ _ _ _ _ _ _ _; first | refine so2 ?_ | (refine sb ?_; intro i)) | (show DL _ _ _ _ _ _ _; first | refine do2 ?_) | (show AW _ _ _ _ _ _; first | (show AW _ _ (.region _ _ _) _ _ _; refine sc0 ?_; intro O1) | (refine sc1 ?_; try intro Q1)) | (show (_ → _) ∧ _; refine ⟨fun h => ?_, fun h => ?_⟩) | fail)
        refine aw_skip ?_
        dsimp (config := { zetaDelta := true }) only [A7, Am, jumpA, noGotoA]
        exact ⟨⟨updO A o.id none, _, _, delP ps o.id, p, ri, m, r', ar_del ok hk hj hjl, rf_del rf hh, ne_del ne, by rw [List.length_set]; omega⟩, .cons rfl (.cons rfl (.cons rfl (.cons rfl (.cons rfl (.cons rfl (.nil _)))))), (Bc (L' := _ :: (_ ++ _)) (R' := []) (List.sublist_cons_self _ _) (List.nil_sublist _)).trans (perm_step (List.Perm.cons _ List.perm_append_comm))⟩
    · have hC := arena_Copy v l at' (by omega) (fun s hs => Nat.le_trans (ok.sb s hs) (by decide)) ok.kn p ri m
      have hP := (arena_Put_ok v l at' ok.wf (id := 1) (b := [v, 7, 7]) (by omega) (by simp) (by simp [putsB]) (by omega) p ri m).weak (wk3 (.refl _) (.refl _) (.own 1 .full _))
      have hw2 := put_wfa ok.wf 1 (by omega) [v, 7, 7]
      have hln := put_len (l := l) (at' := at') 1 (by omega) [v, 7, 7]
      repeat' (first | (show AL _ _ _ _ _ _ _ _; first | refine so2 ?_ | (refine sb ?_; intro i)) | (show DL _ _ _ _ _ _ _; first | refine do2 ?_) | (show AW _ _ _ _ _ _; first | (show AW _ _ (.region _ _ _) _ _ _; refine sc0 ?_; intro O1) | (refine sc1 ?_; try intro Q1)) | (show (_ → _) ∧ _; refine ⟨fun h => ?_, fun h => ?_⟩) | fail)
      refine Ac rfl (r_onP hC rfl rfl rfl rfl rfl (List.perm_append_comm (l₁ := (tw, Ob.cells ((twL o.b).map bT)) :: (oi, Ob.cells [.int .i64 o.kind, .int .u64 (o.id : Int), sT o.b]) :: (rfL v ps q r)) (l₂ := arL v l at' p ri m)) ?_)
      rintro u L' ⟨p2, i2, m2, at2, rfl, hkn, hke, rfl⟩
      repeat' (first | (show AL _ _ _ _ _ _ _ _; first | refine so2 ?_ | (refine sb ?_; intro i)) | (show DL _ _ _ _ _ _ _; first | refine do2 ?_) | (show AW _ _ _ _ _ _; first | (show AW _ _ (.region _ _ _) _ _ _; refine sc0 ?_; intro O1) | (refine sc1 ?_; try intro Q1)) | (show (_ → _) ∧ _; refine ⟨fun h => ?_, fun h => ?_⟩) | fail)
      refine Ac rfl (r_onP hP rfl rfl rfl rfl rfl (Lf := ((tw, Ob.cells ((twL o.b).map bT)) :: (oi, Ob.cells [.int .i64 o.kind, .int .u64 (o.id : Int), sT o.b]) :: (rfL v ps q r)) ++ arL v l at2 p2 i2 m2) (by rw [← List.append_assoc]; exact List.perm_append_comm) ?_)
      rintro u L' ⟨i3, rfl, rfl⟩
      repeat' (first | (show AL _ _ _ _ _ _ _ _; first | refine so2 ?_ | (refine sb ?_; intro i)) | (show DL _ _ _ _ _ _ _; first | refine do2 ?_) | (show AW _ _ _ _ _ _; first | (show AW _ _ (.region _ _ _) _ _ _; refine sc0 ?_; intro O1) | (refine sc1 ?_; try intro Q1)) | (show (_ → _) ∧ _; refine ⟨fun h => ?_, fun h => ?_⟩) | fail)
      refine Ac rfl (r_onP (drop_any v _ _ hw2 2 (by omega) p i3 m) rfl rfl rfl rfl rfl List.perm_append_comm ?_)
      rintro u L' ⟨l3, a3, e3, rfl, rfl⟩
      repeat' (first | (show AL _ _ _ _ _ _ _ _; first | refine so2 ?_ | (refine sb ?_; intro i)) | (show DL _ _ _ _ _ _ _; first | refine do2 ?_) | (show AW _ _ _ _ _ _; first | (show AW _ _ (.region _ _ _) _ _ _; refine sc0 ?_; intro O1) | (refine sc1 ?_; try intro Q1)) | (show (_ → _) ∧ _; refine ⟨fun h => ?_, fun h => ?_⟩) | fail)
      refine al_nil ?_
      dsimp (config := { zetaDelta := true }) only [A7, Am, jumpA, noGotoA]
      exact ⟨⟨A, l, at2, ps, p2, i2, m2, r, ar_copy ok hkn hke, rf, ne, by omega⟩, .cons rfl (.cons rfl (.cons rfl (.cons rfl (.cons rfl (.cons rfl (.nil _)))))), Bc (R' := []) ((List.sublist_cons_self _ _).trans (List.sublist_append_left _ _)) (List.nil_sublist _)⟩
    · refine aw_skip ?_
      dsimp (config := { zetaDelta := true }) only [A7, Am, jumpA, noGotoA]
      exact ⟨⟨A, l, at', ps, p, ri, m, r, ok, rf, ne, by omega⟩, .cons rfl (.cons rfl (.cons rfl (.cons rfl (.cons rfl (.cons rfl (.nil _)))))), Bc (R' := []) (List.sublist_cons_self _ _) (List.nil_sublist _)⟩
  · have n1 := arena_Get_nil 1
    have n2 := (arena_Put_nil 1 [0]).weak (wk3 (.refl _) (.refl _) (.own 1 .full _))
    have n3 := arena_Drop_nil 1
    have n4 := arena_IDs_nil
    have n5 := arena_Size_nil
    have n6 := arena_Bytes_nil
    have n7 := arena_Copy_nil
    repeat' (first | (show AL _ _ _ _ _ _ _ _; first | refine so2 ?_ | refine sp Y Y Y Y Y Y (by apply n1 <;> exact sd) ?_ | refine sp Y Y Y Y Y Y (by apply n2 <;> exact sd) ?_ | refine sp Y Y Y Y Y Y (by apply n3 <;> exact sd) ?_ | refine sp Y Y Y Y Y Y (by apply n4 <;> exact sd) ?_ | refine sp Y Y Y Y Y Y (by apply n5 <;> exact sd) ?_ | refine sp Y Y Y Y Y Y (by apply n6 <;> exact sd) ?_ | refine sp Y Y Y Y Y Y (by apply n7 <;> exact sd) ?_ | (refine sb ?_; intro i)) | (show DL _ _ _ _ _ _ _; first | refine do2 ?_ | refine dp Y Y Y Y Y Y Y (by apply n1 <;> exact sd) ?_ | refine dp Y Y Y Y Y Y Y (by apply n2 <;> exact sd) ?_ | refine dp Y Y Y Y Y Y Y (by apply n3 <;> exact sd) ?_ | refine dp Y Y Y Y Y Y Y (by apply n4 <;> exact sd) ?_ | refine dp Y Y Y Y Y Y Y (by apply n5 <;> exact sd) ?_ | refine dp Y Y Y Y Y Y Y (by apply n6 <;> exact sd) ?_ | refine dp Y Y Y Y Y Y Y (by apply n7 <;> exact sd) ?_) | (show AW _ _ _ _ _ _; first | (show AW _ _ (.region _ _ _) _ _ _; refine sc0 ?_; intro O1) | (refine sc1 ?_; try intro Q1)) | (show (_ → _) ∧ _; refine ⟨fun h => ?_, fun h => ?_⟩) | fail)
    exact Bj (Ae rfl Ag) (.refl _) rfl
theorem arenaAll_law (_W : World) (n : Int) (wn : (Lit.int .u8 n).wf = true) (x : T) (tx : ArgTy G 6 64 x) : ACalls Try.prog 9 [.int .u8 n, x] σ0 (fun r _ => r = .bool true) := by
  obtain ⟨ls, rfl, hl, hb⟩ := ops_arg tx
  have u := wf_u8 wn
  have e : T.int .u8 n = bT (UInt8.ofNat n.toNat) := by
    unfold bT
    congr 1
    have : (UInt8.ofNat n.toNat).toNat = n.toNat := by simp [UInt8.toNat_ofNat]; omega
    omega
  rw [e]
  exact (arenaAll_pure hl hb (fun _ _ => False)).mono fun _ _ h => h.1
end Go.Proofs.Ythfgocinlbogeaa
