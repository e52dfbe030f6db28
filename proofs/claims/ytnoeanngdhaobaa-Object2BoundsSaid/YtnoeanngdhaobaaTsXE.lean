/- A machine over trees: regions that draw their order. -/
import Derived.Test.YtnoeanngdhaobaaTsXD
set_option linter.unusedVariables false
set_option linter.unusedSimpArgs false
namespace Go.Ts

def opX (G : Nat → Option TI) (lv : Nat → Bool) (callF : FuncId → List T → HS → Option (T × HS)) (e : Tr T) (h : HS) (op : Op) : Option (T × HS) :=
  cond (isEff lv op) (effX G lv callF e h op) (match quietX G e h op with
    | some t => some (t, h)
    | none => none)

def restrL (e : Tr T) : List Nat → Env
  | [] => []
  | s :: l => match e.get s with
    | some t => (s, t) :: restrL e l
    | none => restrL e l
def fromEnv : Env → Tr T
  | [] => .leaf
  | (s, t) :: a => (fromEnv a).set s t
theorem covE_fromEnv : ∀ a : Env, CovE a (fromEnv a)
  | [], i, t, h => by simp [fromEnv, Tr.get] at h
  | (s, u) :: a, i, t, h => by
    rcases Tr.get_set h with ⟨h1, h2⟩ | ⟨h1, h2⟩
    · subst h1; subst h2; simp [get]
    · simp only [get]; rw [beqF (fun e => h1 e.symm), cond_false]; exact covE_fromEnv a i t h2
theorem get_restrL {e : Tr T} {s : Nat} {t : T} : ∀ {l : List Nat}, get (restrL e l) s = some t → s ∈ l ∧ e.get s = some t
  | [], h => by simp [restrL, get] at h
  | x :: l, h => by
    simp only [restrL] at h
    split at h
    · rename_i u hu
      by_cases hx : x = s
      · subst hx; simp [get] at h; subst h; exact ⟨by simp, hu⟩
      · simp only [get] at h; rw [beqF hx, cond_false] at h
        obtain ⟨h1, h2⟩ := get_restrL h
        exact ⟨List.mem_cons_of_mem _ h1, h2⟩
    · obtain ⟨h1, h2⟩ := get_restrL h
      exact ⟨List.mem_cons_of_mem _ h1, h2⟩
theorem restrL_get {e : Tr T} {s : Nat} {t : T} (h : e.get s = some t) : ∀ {l : List Nat}, s ∈ l → get (restrL e l) s = some t
  | x :: l, hs => by
    simp only [restrL]
    by_cases hx : x = s
    · subst hx; rw [h]; simp [get]
    · have hs' : s ∈ l := by
        rcases List.mem_cons.1 hs with e | e
        · exact absurd e.symm hx
        · exact e
      split
      · simp only [get]; rw [beqF hx, cond_false]; exact restrL_get h hs'
      · exact restrL_get h hs'

/-- Which operations stand ahead of one, by all its edges. -/
def maskOf (ms : List Nat) (o : Oper) : Nat := o.after.toList.foldl (fun s e => cond (Region.binds .any e) (s ||| (2 ^ e.on ||| ms.getD e.on 0)) s) 0
def masks : List Oper → List Nat → List Nat
  | [], ms => ms
  | o :: os, ms => masks os (ms ++ [maskOf ms o])
def fm (ms : List Nat) (i j : Nat) : Bool := Nat.testBit (ms.getD i 0) j
theorem mask_fold {ms : List Nat} {j : Nat} : ∀ (l : List Edge) (s : Nat), Nat.testBit (l.foldl (fun s e => cond (Region.binds .any e) (s ||| (2 ^ e.on ||| ms.getD e.on 0)) s) s) j = true →
    Nat.testBit s j = true ∨ ∃ e ∈ l, Region.binds .any e = true ∧ (j = e.on ∨ Nat.testBit (ms.getD e.on 0) j = true)
  | [], s, h => .inl h
  | e :: l, s, h => by
    rw [List.foldl_cons] at h
    rcases mask_fold l _ h with h | ⟨e', h1, h2⟩
    · cases hb : Region.binds .any e with
      | false => rw [hb, cond_false] at h; exact .inl h
      | true =>
        rw [hb, cond_true, Nat.testBit_or, Nat.testBit_or, Bool.or_eq_true, Bool.or_eq_true] at h
        rcases h with h | h | h
        · exact .inl h
        · rw [Nat.testBit_two_pow, decide_eq_true_eq] at h
          exact .inr ⟨e, by simp, hb, .inl h.symm⟩
        · exact .inr ⟨e, by simp, hb, .inr h⟩
    · exact .inr ⟨e', List.mem_cons_of_mem _ h1, h2⟩
theorem masks_pre : ∀ (os : List Oper) (ms : List Nat), ∃ r, masks os ms = ms ++ r
  | [], ms => ⟨[], by simp [masks]⟩
  | o :: os, ms => by
    obtain ⟨r, hr⟩ := masks_pre os (ms ++ [maskOf ms o])
    exact ⟨maskOf ms o :: r, by rw [masks, hr]; simp⟩
theorem masks_at : ∀ (os : List Oper) (ms : List Nat) (i : Nat) (o : Oper), os[i]? = some o → ∃ pre r, pre.length = ms.length + i ∧ masks os ms = pre ++ maskOf pre o :: r
  | [], ms, i, o, h => by simp at h
  | o' :: os, ms, 0, o, h => by
    simp at h; subst h
    obtain ⟨r, hr⟩ := masks_pre os (ms ++ [maskOf ms o'])
    exact ⟨ms, r, by simp, by rw [masks, hr]; simp⟩
  | o' :: os, ms, i + 1, o, h => by
    obtain ⟨pre, r, h1, h2⟩ := masks_at os (ms ++ [maskOf ms o']) i o (by simpa using h)
    exact ⟨pre, r, by rw [h1]; simp; omega, by rw [masks]; exact h2⟩
theorem fm_step {os : List Oper} {i j : Nat} {o : Oper} (ho : os[i]? = some o) (h : fm (masks os []) i j = true) : ∃ e ∈ o.after.toList, Region.binds .any e = true ∧ (j = e.on ∨ (e.on < i ∧ fm (masks os []) e.on j = true)) := by
  obtain ⟨pre, r, h1, h2⟩ := masks_at os [] i o ho
  simp only [List.length_nil, Nat.zero_add] at h1
  have hg : (masks os []).getD i 0 = maskOf pre o := by
    rw [h2, List.getD_eq_getElem?_getD, List.getElem?_append_right (by omega), h1]; simp
  unfold fm at h
  rw [hg] at h
  rcases mask_fold _ _ h with h | ⟨e, h3, h4, h5⟩
  · simp at h
  · refine ⟨e, h3, h4, ?_⟩
    rcases h5 with h5 | h5
    · exact .inl h5
    · right
      rcases Nat.lt_or_ge e.on i with hlt | hge
      · refine ⟨hlt, ?_⟩
        unfold fm
        rw [h2, List.getD_eq_getElem?_getD, List.getElem?_append_left (by omega), ← List.getD_eq_getElem?_getD]
        exact h5
      · rw [List.getD_eq_getElem?_getD, List.getElem?_eq_none (by omega)] at h5; simp at h5

def pairX (ops : Array Oper) (ms : List Nat) (lv : Nat → Bool) (i j : Nat) (o p : Oper) : Bool :=
  (cond (isEff lv o.op && isEff lv p.op && Nat.blt j i) (fm ms i j) true) &&
  match p.dst with
  | none => true
  | some s => (Nat.beq i j || !(match o.dst with | some s' => Nat.beq s s' | none => false)) &&
    (!memB s (looks ops o) || cond (Nat.blt j i) (fm ms i j) (cond (Nat.blt i j) (fm ms j i) true))
def stat2 (ops : Array Oper) (ms : List Nat) (lv : Nat → Bool) (i : Nat) (o : Oper) : Nat → List Oper → Bool
  | _, [] => true
  | j, p :: ps => pairX ops ms lv i j o p && stat2 ops ms lv i o (j + 1) ps
def stat1 (ops : Array Oper) (ms : List Nat) (lv : Nat → Bool) (all : List Oper) : Nat → List Oper → Bool
  | _, [] => true
  | i, o :: os => (o.after.toList.all fun e => !Region.binds .any e || Nat.blt e.on i) && stat2 ops ms lv i o 0 all && stat1 ops ms lv all (i + 1) os
def statOK (lv : Nat → Bool) (os : List Oper) : Bool := stat1 ⟨os⟩ (masks os []) lv os 0 os
theorem stat2_at {ops : Array Oper} {ms : List Nat} {lv : Nat → Bool} {i : Nat} {o : Oper} : ∀ {j0 : Nat} {ps : List Oper}, stat2 ops ms lv i o j0 ps = true → ∀ (j : Nat) (p : Oper), ps[j]? = some p → pairX ops ms lv i (j0 + j) o p = true
  | j0, [], h, j, p, hp => by simp at hp
  | j0, q :: ps, h, j, p, hp => by
    simp only [stat2, Bool.and_eq_true] at h
    cases j with
    | zero => simp at hp; subst hp; exact h.1
    | succ j =>
      have := stat2_at h.2 j p (by simpa using hp)
      rwa [show j0 + 1 + j = j0 + (j + 1) by omega] at this
theorem stat1_at {ops : Array Oper} {ms : List Nat} {lv : Nat → Bool} {all : List Oper} : ∀ {i0 : Nat} {os : List Oper}, stat1 ops ms lv all i0 os = true → ∀ (i : Nat) (o : Oper), os[i]? = some o →
    (∀ e ∈ o.after.toList, Region.binds .any e = true → e.on < i0 + i) ∧ ∀ (j : Nat) (p : Oper), all[j]? = some p → pairX ops ms lv (i0 + i) j o p = true
  | i0, [], h, i, o, ho => by simp at ho
  | i0, q :: os, h, i, o, ho => by
    simp only [stat1, Bool.and_eq_true] at h
    cases i with
    | zero =>
      simp at ho; subst ho
      refine ⟨fun e he hb => ?_, fun j p hp => by simpa using stat2_at h.1.2 j p hp⟩
      have := List.all_eq_true.1 h.1.1 e he
      rw [hb] at this
      simpa [Nat.blt_eq] using this
    | succ i =>
      have := stat1_at h.2 i o (by simpa using ho)
      rwa [show i0 + 1 + i = i0 + (i + 1) by omega] at this

/-- What an operation comes to, in a region. -/
def OpOK (P : Program) (N : Nat) (ops : Array Oper) (o : Oper) (b : Env) (σ : St) (t : T) (h' : HS) (h : HS) : Prop :=
  (guardOf ops b o = some true ∧ ∀ K : Env → St → Prop, (∀ σ', HCov σ' h' → K (put b o.dst t) σ') → AOp P N o b σ K) ∨ (guardOf ops b o = some false ∧ t = .tup [] ∧ h' = h ∧ fitsD N o.dst = true)

section
variable {P : Program} {G : Nat → Option TI} {N : Nat} {os : List Oper} {lv : Nat → Bool}

def effAt (lv : Nat → Bool) (os : List Oper) (k : Nat) : Bool := match os[k]? with
  | some o => isEff lv o.op
  | none => false
/-- At which states of the things an operation that only looks may be met. -/
def Compat (lv : Nat → Bool) (os : List Oper) (i p : Nat) : Prop := p ≤ os.length ∧ ∀ k, effAt lv os k = true → (fm (masks os []) i k = true → k < p) ∧ (fm (masks os []) k i = true → p ≤ k)

structure CInv (P : Program) (N : Nat) (os : List Oper) (lv : Nat → Bool) (e0 : Tr T) (rs : Nat → T) (ch : Nat → HS) (listed : Array Bool) (p : Nat) (av : Act) (w : World) (μ : Gh) (σ : St) : Prop where
  inv : Inv w μ σ
  size : av.tmps.size = N
  defers : av.defers = []
  cov : HCov σ (ch p)
  ple : p ≤ os.length
  effp : ∀ k, effAt lv os k = true → (listed.getD k false = true ↔ k < p)
  base : ∀ (s : Nat) (t : T), (∀ (j : Nat) (o : Oper), listed.getD j false = true → os[j]? = some o → o.dst ≠ some s) → e0.get s = some t → ∃ v, av.tmps[s]? = some v ∧ Rel w μ σ v t
  done : ∀ (j : Nat) (o : Oper) (s : Nat), listed.getD j false = true → os[j]? = some o → o.dst = some s → ∃ v, av.tmps[s]? = some v ∧ Rel w μ σ v (rs j)
  closed : ∀ (j : Nat) (o : Oper), listed.getD j false = true → os[j]? = some o → ∀ e ∈ o.after.toList, Region.binds .any e = true → listed.getD e.on false = true

theorem cget {rs : Nat → T} {ce : Nat → Tr T} (hce : ∀ i o, os[i]? = some o → ce (i + 1) = putX (ce i) o.dst (rs i)) : ∀ (i s : Nat) (u : T), i ≤ os.length → (ce i).get s = some u →
    (∃ j o, j < i ∧ os[j]? = some o ∧ o.dst = some s ∧ rs j = u) ∨ ((∀ j o, j < i → os[j]? = some o → o.dst ≠ some s) ∧ (ce 0).get s = some u)
  | 0, s, u, _, h => .inr ⟨fun j o hj => by omega, h⟩
  | i + 1, s, u, hi, h => by
    have ho : os[i]? = some os[i] := List.getElem?_eq_getElem (by omega)
    rw [hce i _ ho] at h
    have old : os[i].dst ≠ some s → (ce i).get s = some u → (∃ j o, j < i + 1 ∧ os[j]? = some o ∧ o.dst = some s ∧ rs j = u) ∨ ((∀ j o, j < i + 1 → os[j]? = some o → o.dst ≠ some s) ∧ (ce 0).get s = some u) := by
      intro hne h
      rcases cget hce i s u (by omega) h with ⟨j, o, h1, h2⟩ | ⟨h1, h2⟩
      · exact .inl ⟨j, o, by omega, h2⟩
      · refine .inr ⟨fun j o hj hjo => ?_, h2⟩
        by_cases e : j = i
        · subst e; rw [ho] at hjo; injection hjo with hjo; subst hjo; exact hne
        · exact h1 j o (by omega) hjo
    cases hd : os[i].dst with
    | none => rw [hd] at h; exact old (by rw [hd]; simp) h
    | some d =>
      rw [hd] at h
      rcases Tr.get_set h with ⟨h1, h2⟩ | ⟨h1, h2⟩
      · subst h1; exact .inl ⟨i, _, by omega, ho, hd, h2⟩
      · exact old (by rw [hd]; intro e; injection e with e; exact h1 e.symm) h2
theorem chstab {ch : Nat → HS} (hch : ∀ i o, os[i]? = some o → isEff lv o.op = false → ch (i + 1) = ch i) {p : Nat} : ∀ (i : Nat), p ≤ i → i ≤ os.length → (∀ k, p ≤ k → k < i → effAt lv os k = false) → ch i = ch p
  | i, hpi, hi, h => by
    by_cases e : p = i
    · subst e; rfl
    · obtain ⟨i, rfl⟩ : ∃ m, i = m + 1 := ⟨i - 1, by omega⟩
      have ho : os[i]? = some os[i] := List.getElem?_eq_getElem (by omega)
      have h1 := h i (by omega) (by omega)
      unfold effAt at h1
      rw [ho] at h1
      rw [hch i _ ho h1]
      exact chstab hch i (by omega) (by omega) (fun k h2 h3 => h k h2 (by omega))

theorem wpAny_can {e0 : Tr T} {rs : Nat → T} {ce : Nat → Tr T} {ch : Nat → HS} {Qc : Exit → Act → World → Prop} {w0 : World} {μ0 : Gh} {σ0 : St} (hst : statOK lv os = true) (he0 : ce 0 = e0)
    (hce : ∀ i o, os[i]? = some o → ce (i + 1) = putX (ce i) o.dst (rs i)) (hch : ∀ i o, os[i]? = some o → isEff lv o.op = false → ch (i + 1) = ch i)
    (heff : ∀ i o, os[i]? = some o → isEff lv o.op = true → ∀ σ, HCov σ (ch i) → OpOK P N ⟨os⟩ o (restrL (ce i) (looks ⟨os⟩ o)) σ (rs i) (ch (i + 1)) (ch i))
    (hqui : ∀ i o p, os[i]? = some o → isEff lv o.op = false → Compat lv os i p → ∀ σ, HCov σ (ch p) → OpOK P N ⟨os⟩ o (restrL (ce i) (looks ⟨os⟩ o)) σ (rs i) (ch p) (ch p))
    (hQ : ∀ av' w' μ' σ', Ev w0 μ0 σ0 w' μ' σ' → Inv w' μ' σ' → av'.tmps.size = N → av'.defers = [] → (∀ s t, (ce os.length).get s = some t → ∃ v, av'.tmps[s]? = some v ∧ Rel w' μ' σ' v t) → HCov σ' (ch os.length) → Qc .normal av' w') :
    ∀ (fuel : Nat) (l : List Nat) (listed : Array Bool) (p : Nat) (av : Act) (w : World) (μ : Gh) (σ : St), l.Nodup → l.length = fuel → listed.size = os.length → (∀ i, i ∈ l ↔ i < os.length ∧ listed.getD i true = false) →
      Ev w0 μ0 σ0 w μ σ → CInv P N os lv e0 rs ch listed p av w μ σ → wpAny P .any ⟨os⟩ Qc fuel listed av w := by
  subst he0
  have hstat : ∀ (i : Nat) (o : Oper), os[i]? = some o → (∀ e ∈ o.after.toList, Region.binds .any e = true → e.on < i) ∧ ∀ (j : Nat) (q : Oper), os[j]? = some q → pairX ⟨os⟩ (masks os []) lv i j o q = true := by
    intro i o ho
    have := stat1_at hst i o ho
    simpa using this
  have effAt_of : ∀ (i : Nat) (o : Oper), os[i]? = some o → effAt lv os i = isEff lv o.op := by
    intro i o ho; unfold effAt; rw [ho]
  -- a set that is closed holds all that stands ahead
  have hcl : ∀ (listed : Array Bool), (∀ (j : Nat) (o : Oper), listed.getD j false = true → os[j]? = some o → ∀ e ∈ o.after.toList, Region.binds .any e = true → listed.getD e.on false = true) →
      ∀ (i : Nat) (o : Oper), os[i]? = some o → (∀ e ∈ o.after.toList, Region.binds .any e = true → listed.getD e.on false = true) → ∀ j, fm (masks os []) i j = true → listed.getD j false = true := by
    intro listed hc i
    induction i using Nat.strongRecOn with
    | _ i ih =>
      intro o ho hr j hj
      obtain ⟨e, he, hb, h⟩ := fm_step ho hj
      rcases h with rfl | ⟨hlt, h⟩
      · exact hr e he hb
      · obtain ⟨oe, hoe⟩ : ∃ oe, os[e.on]? = some oe := ⟨_, List.getElem?_eq_getElem (by have := lt_of_get ho; omega)⟩
        exact ih e.on hlt _ hoe (fun e' he' hb' => hc e.on _ (hr e he hb) hoe e' he' hb') j h
  intro fuel
  induction fuel with
  | zero =>
    intro l listed p av w μ σ hn hlen hsz hmem hev hd
    obtain rfl : l = [] := List.eq_nil_of_length_eq_zero hlen
    have hall : ∀ i, i < os.length → listed.getD i false = true := by
      intro i hi
      have h1 : ¬ listed.getD i true = false := fun h => by simpa using (hmem i).2 ⟨hi, h⟩
      simp only [Array.getD_eq_getD_getElem?, Array.getElem?_eq_getElem (show i < listed.size by omega), Option.getD_some] at h1 ⊢
      simpa using h1
    refine ⟨?_, ?_⟩
    · apply List.eq_nil_iff_forall_not_mem.2
      intro i hi
      simp only [Region.ready, List.mem_filter, List.mem_range, Bool.and_eq_true] at hi
      obtain ⟨h1, h2, _⟩ := hi
      have h1' : i < os.length := by simpa using h1
      have := hall i h1'
      simp only [Array.getD_eq_getD_getElem?, Array.getElem?_eq_getElem (show i < listed.size by omega), Option.getD_some] at this h2
      rw [this] at h2; simp at h2
    · refine hQ av w μ σ hev hd.inv hd.size hd.defers (fun s t ht => ?_) ?_
      · rcases cget hce _ s t (Nat.le_refl _) ht with ⟨j, o, h1, h2, h3, h4⟩ | ⟨h1, h2⟩
        · subst h4; exact hd.done j o s (hall j h1) h2 h3
        · exact hd.base s t (fun j o _ ho => h1 j o (lt_of_get ho) ho) h2
      · have : ch os.length = ch p := by
          refine chstab hch _ hd.ple (Nat.le_refl _) (fun k h1 h2 => ?_)
          cases hb : effAt lv os k with
          | false => rfl
          | true => have := (hd.effp k hb).1 (hall k h2); omega
        rw [this]; exact hd.cov
  | succ fuel ih =>
    intro l listed p av w μ σ hn hlen hsz hmem hev hd
    have hdef : ∀ i, i < os.length → listed.getD i true = listed.getD i false := by
      intro i hi
      simp only [Array.getD_eq_getD_getElem?, Array.getElem?_eq_getElem (show i < listed.size by omega), Option.getD_some]
    refine ⟨fun hr => ?_, fun i hi => ?_⟩
    · exfalso
      obtain ⟨i, hil, him⟩ := minimal (l := l) (by intro h; subst h; simp at hlen)
      obtain ⟨h1, h2⟩ := (hmem i).1 hil
      have : i ∈ Region.ready .any ⟨os⟩ listed := by
        simp only [Region.ready, List.mem_filter, List.mem_range]
        refine ⟨by simpa using h1, ?_⟩
        have ho : (⟨os⟩ : Array Oper)[i]? = some os[i] := by simp [h1]
        simp only [h2, ho, Option.map_some, Option.getD_some, Bool.not_false, Bool.true_and]
        rw [← Array.all_toList, List.all_eq_true]
        intro e he
        obtain ⟨k1, _⟩ := hstat i os[i] (List.getElem?_eq_getElem h1)
        cases hb : Region.binds .any e with
        | false => simp
        | true =>
          have := k1 e he hb
          have h4 : ¬ e.on ∈ l := fun h => by have := him _ h; omega
          have h5 : ¬ listed.getD e.on true = false := fun h => h4 ((hmem _).2 ⟨by omega, h⟩)
          rw [hdef _ (by omega)] at h5
          simpa using h5
      rw [hr] at this; cases this
    · simp only [Region.ready, List.mem_filter, List.mem_range, Bool.and_eq_true] at hi
      obtain ⟨hi1, hi2, hi3⟩ := hi
      have hin : i < os.length := by simpa using hi1
      have hil : listed.getD i true = false := by simpa using hi2
      have hilf : listed.getD i false = false := by rw [← hdef i hin]; exact hil
      obtain ⟨o, ho⟩ : ∃ o, os[i]? = some o := ⟨_, List.getElem?_eq_getElem hin⟩
      have ho' : (⟨os⟩ : Array Oper)[i]? = some o := by simpa using ho
      simp only [ho', Option.map_some, Option.getD_some] at hi3
      rw [← Array.all_toList, List.all_eq_true] at hi3
      have hready : ∀ e ∈ o.after.toList, Region.binds .any e = true → listed.getD e.on false = true := by
        intro e he hb
        have := hi3 e he
        simpa [hb] using this
      obtain ⟨hk1, hpair⟩ := hstat i o ho
      have hpre : ∀ j, fm (masks os []) i j = true → listed.getD j false = true := hcl listed hd.closed i o ho hready
      have hpost : ∀ (j : Nat) (q : Oper), os[j]? = some q → listed.getD j false = true → fm (masks os []) j i = true → False := by
        intro j q hq hj h
        have := hcl listed hd.closed j q hq (fun e he hb => hd.closed j q hj hq e he hb) i h
        rw [hilf] at this; cases this
      have hssa : ∀ (j : Nat) (q : Oper) (s : Nat), os[j]? = some q → q.dst = some s → i ≠ j → o.dst ≠ some s := by
        intro j q s hq hqs hij h
        have := hpair j q hq
        simp [pairX, hqs, h, beqF hij] at this
      have hcond : ∀ j, (listed.setIfInBounds i true).getD j false = cond (Nat.beq i j) true (listed.getD j false) := fun j => setD (by omega)
      -- what is known of the operation's own operands
      have hrel : RelA w μ σ N av (restrL (ce i) (looks ⟨os⟩ o)) := by
        refine ⟨hd.size, hd.defers, fun s u hu => ?_⟩
        obtain ⟨m1, m2⟩ := get_restrL hu
        rcases cget hce i s u (by omega) m2 with ⟨j, q, h1, h2, h3, h4⟩ | ⟨h1, h2⟩
        · have := hpair j q h2
          simp only [pairX, h3, memB_of m1, Bool.not_true, Bool.false_or, Bool.and_eq_true, show Nat.blt j i = true from (by rw [Nat.blt_eq]; exact h1), cond_true] at this
          subst h4
          exact hd.done j q s (hpre j this.2.2) h2 h3
        · refine hd.base s u (fun j q hj hq hqs => ?_) h2
          rcases Nat.lt_trichotomy j i with h | h | h
          · exact h1 j q h hq hqs
          · subst h; rw [hilf] at hj; cases hj
          · have := hpair j q hq
            have hb : Nat.blt j i = false := by cases hb : Nat.blt j i with | false => rfl | true => rw [Nat.blt_eq] at hb; omega
            simp only [pairX, hqs, memB_of m1, Bool.not_true, Bool.false_or, Bool.and_eq_true, hb, cond_false, show Nat.blt i j = true from (by rw [Nat.blt_eq]; exact h), cond_true] at this
            exact hpost j q hq hj this.2.2
      -- the step behind it
      have hnew : ∀ (p' : Nat) (av' : Act) (w' : World) (μ' : Gh) (σ' : St), p' ≤ os.length → (∀ k, effAt lv os k = true → ((listed.setIfInBounds i true).getD k false = true ↔ k < p')) → HCov σ' (ch p') → Ev w μ σ w' μ' σ' → Inv w' μ' σ' →
          av'.tmps.size = N → av'.defers = [] → (∀ s, o.dst ≠ some s → av'.tmps[s]? = av.tmps[s]?) → (∀ s, o.dst = some s → ∃ v, av'.tmps[s]? = some v ∧ Rel w' μ' σ' v (rs i)) → wpAny P .any ⟨os⟩ Qc fuel (listed.setIfInBounds i true) av' w' := by
        intro p' av' w' μ' σ' hp' heffp' hcov' hev' hi' hsz' hdf' hfr hdst
        refine ih (l.erase i) _ p' av' w' μ' σ' (hn.erase i) ?_ (by simpa using hsz) (fun j => ?_) (hev.trans hev') ⟨hi', hsz', hdf', hcov', hp', heffp', ?_, ?_, ?_⟩
        · rw [List.length_erase_of_mem ((hmem i).2 ⟨hin, hil⟩)]; omega
        · rw [hn.mem_erase_iff, hmem j, setD (by omega)]
          by_cases e : i = j
          · subst e; simp
          · rw [beqF e]; simp only [cond_false]
            exact ⟨fun h => h.2, fun h => ⟨fun h' => e h'.symm, h⟩⟩
        · intro s t hno ht
          have hds : o.dst ≠ some s := hno i o (by rw [hcond]; simp) ho
          rw [hfr s hds]
          obtain ⟨v, hv, r⟩ := hd.base s t (fun j q hj hq => hno j q (by rw [hcond, hj]; cases Nat.beq i j <;> rfl) hq) ht
          exact ⟨v, hv, r.ev hev'⟩
        · intro j q s hj hq hqs
          by_cases e : i = j
          · subst e
            rw [ho] at hq; injection hq with hq; subst hq
            exact hdst s hqs
          · rw [hcond, beqF e, cond_false] at hj
            rw [hfr s (hssa j q s hq hqs e)]
            obtain ⟨v, hv, r⟩ := hd.done j q s hj hq hqs
            exact ⟨v, hv, r.ev hev'⟩
        · intro j q hj hq e he hb
          rw [hcond]
          cases hij : Nat.beq i e.on with
          | true => rfl
          | false =>
            rw [hcond] at hj
            cases hij2 : Nat.beq i j with
            | true =>
              have := Nat.eq_of_beq_eq_true hij2; subst this
              rw [ho] at hq; injection hq with hq; subst hq
              exact hready e he hb
            | false => rw [hij2] at hj; exact hd.closed j q hj hq e he hb
      unfold wpOp
      simp only [ho']
      -- one operation, whichever it is
      have main : ∀ (p' : Nat) (h0 : HS), p' ≤ os.length → (∀ k, effAt lv os k = true → ((listed.setIfInBounds i true).getD k false = true ↔ k < p')) → (h0 = ch p' → HCov σ (ch p')) → OpOK P N ⟨os⟩ o (restrL (ce i) (looks ⟨os⟩ o)) σ (rs i) (ch p') h0 →
          (if Region.wanted o (yielded ⟨os⟩ av.tmps) = true then o.wp P av w (wpAny P .any ⟨os⟩ Qc fuel (listed.setIfInBounds i true)) Qc ∨ (o.asks P av w ∧ LetsOut Qc) else wpAny P .any ⟨os⟩ Qc fuel (listed.setIfInBounds i true) (av.put o.dst undef) w) := by
        intro p' h0 hp' heffp' hc0 hop
        rcases hop with ⟨hg, hA⟩ | ⟨hg, ht, hh, hfit⟩
        · rw [wanted_of hrel hg, if_pos rfl]
          refine .inl ?_
          have := hA (fun a' σ' => a' = put (restrL (ce i) (looks ⟨os⟩ o)) o.dst (rs i) ∧ HCov σ' (ch p')) (fun σ' h => ⟨rfl, h⟩) av w μ hd.inv hrel
            (fun av' w' => ∃ μ' σ', Ev w μ σ w' μ' σ' ∧ Inv w' μ' σ' ∧ HCov σ' (ch p') ∧ RelA w' μ' σ' N av' (put (restrL (ce i) (looks ⟨os⟩ o)) o.dst (rs i))) Qc
            (by rintro av' w' μ' a' σ' h1 h2 h3 ⟨rfl, h4⟩; exact ⟨μ', σ', h1, h2, h4, h3⟩)
          refine Oper.wp_mono ?_ (upon_frame this)
          rintro av' w' ⟨⟨μ', σ', h1, h2, h3, h4⟩, h5⟩
          exact hnew p' av' w' μ' σ' hp' heffp' h3 h1 h2 h4.size h4.defers h5 (fun s hs => h4.tmp s _ (by rw [hs]; simp [put, get]))
        · rw [wanted_of hrel hg, if_neg (by simp)]
          have hp := hrel.put hfit (v := undef) (t := .tup []) (.tup [] #[] rfl fun j c v h1 h2 => by simp at h1)
          refine hnew p' _ w μ σ hp' heffp' (hc0 hh.symm) (.refl _ _ _) hd.inv hp.size hp.defers (fun s hs => ?_) (fun s hs => ?_)
          · cases hd' : o.dst with
            | none => simp [Act.put]
            | some d =>
              have : d ≠ s := fun e => hs (by rw [hd', e])
              simp [Act.put, Array.getElem?_setIfInBounds, this]
          · rw [ht]; exact hp.tmp s _ (by rw [hs]; simp [put, get])
      cases hie : isEff lv o.op with
      | true =>
        have hea : effAt lv os i = true := by rw [effAt_of i o ho, hie]
        have hpi : p ≤ i := by
          rcases Nat.lt_or_ge i p with h | h
          · have := (hd.effp i hea).2 h; rw [hilf] at this; cases this
          · exact h
        have hbelow : ∀ k, effAt lv os k = true → k < i → listed.getD k false = true := by
          intro k hk hki
          obtain ⟨q, hq⟩ : ∃ q, os[k]? = some q := ⟨_, List.getElem?_eq_getElem (by omega)⟩
          have := hpair k q hq
          rw [effAt_of k q hq] at hk
          simp only [pairX, hie, hk, Bool.and_true, show Nat.blt k i = true from (by rw [Nat.blt_eq]; exact hki), cond_true, Bool.and_eq_true] at this
          exact hpre k this.1
        have hsame : ch i = ch p := chstab hch i hpi (by omega) (fun k h1 h2 => by
          cases hb : effAt lv os k with
          | false => rfl
          | true => have := (hd.effp k hb).1 (hbelow k hb h2); omega)
        have hcov : HCov σ (ch i) := by rw [hsame]; exact hd.cov
        refine main (i + 1) (ch i) (by omega) (fun k hk => ?_) (fun e => by rw [← e]; exact hcov) (heff i o ho hie σ hcov)
        rw [hcond]
        by_cases e : i = k
        · subst e; simp
        · rw [beqF e, cond_false, hd.effp k hk]
          constructor
          · intro h; omega
          · intro h; exact (hd.effp k hk).1 (hbelow k hk (by omega))
      | false =>
        have hcomp : Compat lv os i p := ⟨hd.ple, fun k hk => ⟨fun h => (hd.effp k hk).1 (hpre k h), fun h => by
          rcases Nat.lt_or_ge k p with h1 | h1
          · exfalso
            have hkl := (hd.effp k hk).2 h1
            obtain ⟨q, hq⟩ : ∃ q, os[k]? = some q := ⟨_, List.getElem?_eq_getElem (by have := hd.ple; omega)⟩
            exact hpost k q hq hkl h
          · exact h1⟩⟩
        refine main p (ch p) hd.ple (fun k hk => ?_) (fun _ => hd.cov) (hqui i o p ho hie hcomp σ hd.cov)
        rw [hcond]
        by_cases e : i = k
        · subst e; rw [effAt_of i o ho, hie] at hk; cases hk
        · rw [beqF e, cond_false]; exact hd.effp k hk
end
end Go.Ts
