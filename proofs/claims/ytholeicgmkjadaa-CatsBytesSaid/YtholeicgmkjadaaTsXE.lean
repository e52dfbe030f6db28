/- A machine over trees: regions that draw their order. -/
import Derived.Test.YtholeicgmkjadaaTsXD
set_option linter.unusedVariables false
set_option linter.unusedSimpArgs false
namespace Go.Ts

def opX (G : Nat → Option TI) (lv : Nat → Bool) (callF : FuncId → List T → HS → Option (T × HS)) (e : Tr T) (h : HS) (op : Op) : Option (T × HS) :=
  cond (isEff lv op) (effX G lv callF e h op) (match quietX G e h op with
    | some t => some (t, h)
    | none => none)

def restrL (e : Tr T) : List Nat → Env
  | [] => []
  | s :: l => match e.get s with
    | some t => (s, t) :: restrL e l
    | none => restrL e l
def fromEnv : Env → Tr T
  | [] => .leaf
  | (s, t) :: a => (fromEnv a).set s t
theorem covE_fromEnv : ∀ a : Env, CovE a (fromEnv a)
  | [], i, t, h => by simp [fromEnv, Tr.get] at h
  | (s, u) :: a, i, t, h => by
    rcases Tr.get_set h with ⟨h1, h2⟩ | ⟨h1, h2⟩
    · subst h1; subst h2; simp [get]
    · simp only [get]; rw [beqF (fun e => h1 e.symm), cond_false]; exact covE_fromEnv a i t h2
theorem get_restrL {e : Tr T} {s : Nat} {t : T} : ∀ {l : List Nat}, get (restrL e l) s = some t → s ∈ l ∧ e.get s = some t
  | [], h => by simp [restrL, get] at h
  | x :: l, h => by
    simp only [restrL] at h
    split at h
    · rename_i u hu
      by_cases hx : x = s
      · subst hx; simp [get] at h; subst h; exact ⟨by simp, hu⟩
      · simp only [get] at h; rw [beqF hx, cond_false] at h
        obtain ⟨h1, h2⟩ := get_restrL h
        exact ⟨List.mem_cons_of_mem _ h1, h2⟩
    · obtain ⟨h1, h2⟩ := get_restrL h
      exact ⟨List.mem_cons_of_mem _ h1, h2⟩
theorem restrL_get {e : Tr T} {s : Nat} {t : T} (h : e.get s = some t) : ∀ {l : List Nat}, s ∈ l → get (restrL e l) s = some t
  | x :: l, hs => by
    simp only [restrL]
    by_cases hx : x = s
    · subst hx; rw [h]; simp [get]
    · have hs' : s ∈ l := by
        rcases List.mem_cons.1 hs with e | e
        · exact absurd e.symm hx
        · exact e
      split
      · simp only [get]; rw [beqF hx, cond_false]; exact restrL_get h hs'
      · exact restrL_get h hs'

/-- Which operations stand ahead of one, by all its edges. -/
def maskOf (ms : List Nat) (o : Oper) : Nat := o.after.toList.foldl (fun s e => cond (Region.binds .any e) (s ||| (2 ^ e.on ||| ms.getD e.on 0)) s) 0
def masks : List Oper → List Nat → List Nat
  | [], ms => ms
  | o :: os, ms => masks os (ms ++ [maskOf ms o])
def fm (ms : List Nat) (i j : Nat) : Bool := Nat.testBit (ms.getD i 0) j
theorem mask_fold {ms : List Nat} {j : Nat} : ∀ (l : List Edge) (s : Nat), Nat.testBit (l.foldl (fun s e => cond (Region.binds .any e) (s ||| (2 ^ e.on ||| ms.getD e.on 0)) s) s) j = true →
    Nat.testBit s j = true ∨ ∃ e ∈ l, Region.binds .any e = true ∧ (j = e.on ∨ Nat.testBit (ms.getD e.on 0) j = true)
  | [], s, h => .inl h
  | e :: l, s, h => by
    rw [List.foldl_cons] at h
    rcases mask_fold l _ h with h | ⟨e', h1, h2⟩
    · cases hb : Region.binds .any e with
      | false => rw [hb, cond_false] at h; exact .inl h
      | true =>
        rw [hb, cond_true, Nat.testBit_or, Nat.testBit_or, Bool.or_eq_true, Bool.or_eq_true] at h
        rcases h with h | h | h
        · exact .inl h
        · rw [Nat.testBit_two_pow, decide_eq_true_eq] at h
          exact .inr ⟨e, by simp, hb, .inl h.symm⟩
        · exact .inr ⟨e, by simp, hb, .inr h⟩
    · exact .inr ⟨e', List.mem_cons_of_mem _ h1, h2⟩
theorem masks_pre : ∀ (os : List Oper) (ms : List Nat), ∃ r, masks os ms = ms ++ r
  | [], ms => ⟨[], by simp [masks]⟩
  | o :: os, ms => by
    obtain ⟨r, hr⟩ := masks_pre os (ms ++ [maskOf ms o])
    exact ⟨maskOf ms o :: r, by rw [masks, hr]; simp⟩
theorem masks_at : ∀ (os : List Oper) (ms : List Nat) (i : Nat) (o : Oper), os[i]? = some o → ∃ pre r, pre.length = ms.length + i ∧ masks os ms = pre ++ maskOf pre o :: r
  | [], ms, i, o, h => by simp at h
  | o' :: os, ms, 0, o, h => by
    simp at h; subst h
    obtain ⟨r, hr⟩ := masks_pre os (ms ++ [maskOf ms o'])
    exact ⟨ms, r, by simp, by rw [masks, hr]; simp⟩
  | o' :: os, ms, i + 1, o, h => by
    obtain ⟨pre, r, h1, h2⟩ := masks_at os (ms ++ [maskOf ms o']) i o (by simpa using h)
    exact ⟨pre, r, by rw [h1]; simp; omega, by rw [masks]; exact h2⟩
theorem fm_step {os : List Oper} {i j : Nat} {o : Oper} (ho : os[i]? = some o) (h : fm (masks os []) i j = true) : ∃ e ∈ o.after.toList, Region.binds .any e = true ∧ (j = e.on ∨ (e.on < i ∧ fm (masks os []) e.on j = true)) := by
  obtain ⟨pre, r, h1, h2⟩ := masks_at os [] i o ho
  simp only [List.length_nil, Nat.zero_add] at h1
  have hg : (masks os []).getD i 0 = maskOf pre o := by
    rw [h2, List.getD_eq_getElem?_getD, List.getElem?_append_right (by omega), h1]; simp
  unfold fm at h
  rw [hg] at h
  rcases mask_fold _ _ h with h | ⟨e, h3, h4, h5⟩
  · simp at h
  · refine ⟨e, h3, h4, ?_⟩
    rcases h5 with h5 | h5
    · exact .inl h5
    · right
      rcases Nat.lt_or_ge e.on i with hlt | hge
      · refine ⟨hlt, ?_⟩
        unfold fm
        rw [h2, List.getD_eq_getElem?_getD, List.getElem?_append_left (by omega), ← List.getD_eq_getElem?_getD]
        exact h5
      · rw [List.getD_eq_getElem?_getD, List.getElem?_eq_none (by omega)] at h5; simp at h5

def pairX (ops : Array Oper) (ms : List Nat) (ef : Nat → Bool) (i j : Nat) (o p : Oper) : Bool :=
  (cond (ef i && ef j && Nat.blt j i) (fm ms i j) true) &&
  match p.dst with
  | none => true
  | some s => (Nat.beq i j || !(match o.dst with | some s' => Nat.beq s s' | none => false)) &&
    (!memB s (looks ops o) || cond (Nat.blt j i) (fm ms i j) (cond (Nat.blt i j) (fm ms j i) true))
def stat2 (ops : Array Oper) (ms : List Nat) (ef : Nat → Bool) (i : Nat) (o : Oper) : Nat → List Oper → Bool
  | _, [] => true
  | j, p :: ps => pairX ops ms ef i j o p && stat2 ops ms ef i o (j + 1) ps
def stat1 (ops : Array Oper) (ms : List Nat) (ef : Nat → Bool) (all : List Oper) : Nat → List Oper → Bool
  | _, [] => true
  | i, o :: os => (o.after.toList.all fun e => !Region.binds .any e || Nat.blt e.on i) && stat2 ops ms ef i o 0 all && stat1 ops ms ef all (i + 1) os
def statOK (ef : Nat → Bool) (os : List Oper) : Bool := stat1 ⟨os⟩ (masks os []) ef os 0 os
theorem stat2_at {ops : Array Oper} {ms : List Nat} {ef : Nat → Bool} {i : Nat} {o : Oper} : ∀ {j0 : Nat} {ps : List Oper}, stat2 ops ms ef i o j0 ps = true → ∀ (j : Nat) (p : Oper), ps[j]? = some p → pairX ops ms ef i (j0 + j) o p = true
  | j0, [], h, j, p, hp => by simp at hp
  | j0, q :: ps, h, j, p, hp => by
    simp only [stat2, Bool.and_eq_true] at h
    cases j with
    | zero => simp at hp; subst hp; exact h.1
    | succ j =>
      have := stat2_at h.2 j p (by simpa using hp)
      rwa [show j0 + 1 + j = j0 + (j + 1) by omega] at this
theorem stat1_at {ops : Array Oper} {ms : List Nat} {ef : Nat → Bool} {all : List Oper} : ∀ {i0 : Nat} {os : List Oper}, stat1 ops ms ef all i0 os = true → ∀ (i : Nat) (o : Oper), os[i]? = some o →
    (∀ e ∈ o.after.toList, Region.binds .any e = true → e.on < i0 + i) ∧ ∀ (j : Nat) (p : Oper), all[j]? = some p → pairX ops ms ef (i0 + i) j o p = true
  | i0, [], h, i, o, ho => by simp at ho
  | i0, q :: os, h, i, o, ho => by
    simp only [stat1, Bool.and_eq_true] at h
    cases i with
    | zero =>
      simp at ho; subst ho
      refine ⟨fun e he hb => ?_, fun j p hp => by simpa using stat2_at h.1.2 j p hp⟩
      have := List.all_eq_true.1 h.1.1 e he
      rw [hb] at this
      simpa [Nat.blt_eq] using this
    | succ i =>
      have := stat1_at h.2 i o (by simpa using ho)
      rwa [show i0 + 1 + i = i0 + (i + 1) by omega] at this

/-- What an operation comes to, in a region. -/
def OpOK (P : Program) (N : Nat) (ops : Array Oper) (o : Oper) (b : Env) (σ : St) (t : T) (h' : HS) (h : HS) : Prop :=
  (guardOf ops b o = some true ∧ ∀ K : Env → St → Prop, (∀ σ', HCov σ' h' → K (put b o.dst t) σ') → AOp P N o b σ K) ∨ (guardOf ops b o = some false ∧ t = .tup [] ∧ h' = h ∧ fitsD N o.dst = true)

section
variable {P : Program} {G : Nat → Option TI} {N : Nat} {os : List Oper}

/-- New things that are taken note of only where they are first looked at. -/
structure FlOK (os : List Oper) (ef : Nat → Bool) (fl : Nat → Option Nat) : Prop where
  op : ∀ j u, fl j = some u → ∃ o d ty, os[j]? = some o ∧ o.dst = some d ∧ o.op = .alloc ty ∧ o.guard = none
  user : ∀ j u o d i p, fl j = some u → os[j]? = some o → o.dst = some d → os[i]? = some p → d ∈ looks ⟨os⟩ p → i = u ∨ fm (masks os []) i u = true
  reg : ∀ j u, fl j = some u → fm (masks os []) u j = true ∧ j < u ∧ ef u = true ∧ fl u = none
  noeff : ∀ j u, fl j = some u → ef j = false
/-- They are taken note of, one behind the other. -/
def RegOK (G : Nat → Option TI) (os : List Oper) (rs : Nat → T) : List Nat → Tr T → HS → Tr T → HS → Prop
  | [], e, h, e', h' => e' = e ∧ h' = h
  | j :: js, e, h, e', h' => ∃ o d ty ti, os[j]? = some o ∧ o.dst = some d ∧ o.op = .alloc ty ∧ G ty = some ti ∧ rs j = .ptr h.nx 0 ∧ RegOK G os rs js (e.set d (.ptr h.nx 0)) (h.new (thOf ti.tree.cells)) e' h'

/-- At which states of the things an operation that only looks may be met. -/
def Compat (ef : Nat → Bool) (os : List Oper) (i p : Nat) : Prop := p ≤ os.length ∧ ∀ k, k < os.length → ef k = true → (fm (masks os []) i k = true → k < p) ∧ (fm (masks os []) k i = true → p ≤ k)

structure EvO (w : World) (μ : Gh) (σ : St) (w' : World) (μ' : Gh) (σ' : St) : Prop where
  below : Go.RowKit.Below 0 w w'
  loc : ∀ i x, μ.loc i = some x → μ'.loc i = some x
  tok : ∀ i x, μ.tok i = some x → μ'.tok i = some x
  shape : ∀ b n, Bound w b n → Bound w' b n
  live : ∀ b, b < w.heap.size → ¬ Live μ σ b → ¬ Live μ' σ' b ∧ w'.heap[b]? = w.heap[b]?
  imm : ∀ b o, Imm w μ σ b o → Imm w' μ' σ' b o ∧ w'.cell? ⟨b, o, none⟩ = w.cell? ⟨b, o, none⟩
theorem Ev.evO {w w' : World} {μ μ' : Gh} {σ σ' : St} (e : Ev w μ σ w' μ' σ') : EvO w μ σ w' μ' σ' := ⟨e.below, e.loc, e.tok, e.shape, e.live, e.imm⟩
theorem EvO.trans {w w1 w2 : World} {μ μ1 μ2 : Gh} {σ σ1 σ2 : St} (h : EvO w μ σ w1 μ1 σ1) (k : Ev w1 μ1 σ1 w2 μ2 σ2) : EvO w μ σ w2 μ2 σ2 :=
  ⟨h.below.trans k.below, fun i x hx => k.loc i x (h.loc i x hx), fun i x hx => k.tok i x (h.tok i x hx), fun b n hb => k.shape b n (h.shape b n hb),
    fun b hb hl => let ⟨h1, h2⟩ := h.live b hb hl; let ⟨h3, h4⟩ := k.live b (Nat.lt_of_lt_of_le hb h.below.size) h1; ⟨h3, h4.trans h2⟩,
    fun b o hi => ⟨(k.imm b o (h.imm b o hi).1).1, ((k.imm b o (h.imm b o hi).1).2).trans (h.imm b o hi).2⟩⟩

structure CInv (P : Program) (G : Nat → Option TI) (N : Nat) (os : List Oper) (ef : Nat → Bool) (fl : Nat → Option Nat) (w0 : World) (off0 : Nat → Nat → Prop) (e0 : Tr T) (rs : Nat → T) (ch : Nat → HS) (listed : Array Bool) (p : Nat) (pb : Nat → Option Nat) (av : Act) (w : World) (μ : Gh) (σ : St) : Prop where
  inv : Inv w μ σ
  size : av.tmps.size = N
  defers : av.defers = []
  cov : HCov σ (ch p)
  ple : p ≤ os.length
  effp : ∀ k, k < os.length → ef k = true → (listed.getD k false = true ↔ k < p)
  base : ∀ (s : Nat) (t : T), (∀ (j : Nat) (o : Oper), listed.getD j false = true → os[j]? = some o → o.dst ≠ some s) → e0.get s = some t → ∃ v, av.tmps[s]? = some v ∧ Rel w μ σ v t
  done : ∀ (j : Nat) (o : Oper) (s : Nat), listed.getD j false = true → os[j]? = some o → o.dst = some s → (∀ u, fl j = some u → listed.getD u false = true) → ∃ v, av.tmps[s]? = some v ∧ Rel w μ σ v (rs j)
  closed : ∀ (j : Nat) (o : Oper), listed.getD j false = true → os[j]? = some o → ∀ e ∈ o.after.toList, Region.binds .any e = true → listed.getD e.on false = true
  offc : ∀ b o, σ.off b o ↔ off0 b o ∨ ∃ j, pb j = some b
  pbl : ∀ j b, pb j = some b → ∃ u, fl j = some u ∧ listed.getD j false = true ∧ listed.getD u false = false
  pbi : ∀ i j b, pb i = some b → pb j = some b → i = j
  pend : ∀ j u o d ty, fl j = some u → listed.getD j false = true → listed.getD u false = false → os[j]? = some o → o.dst = some d → o.op = .alloc ty →
    ∃ b c el ti, pb j = some b ∧ G ty = some ti ∧ av.tmps[d]? = some (.pointer (some ⟨b, 0, none⟩)) ∧ w.heap[b]? = some (.cells c el (0, 0)) ∧ w0.heap.size ≤ b ∧ ¬ Live μ σ b ∧ ti.tree.cells.length ≤ c.size ∧
      ∀ (w : World) (μ : Gh) (σ : St), CellsIn w μ σ ti.tree.cells c 0

theorem chstab {ef : Nat → Bool} {ch : Nat → HS} (hch : ∀ i o, os[i]? = some o → ef i = false → ch (i + 1) = ch i) {p : Nat} : ∀ (i : Nat), p ≤ i → i ≤ os.length → (∀ k, p ≤ k → k < i → ef k = false) → ch i = ch p
  | i, hpi, hi, h => by
    by_cases e : p = i
    · subst e; rfl
    · obtain ⟨i, rfl⟩ : ∃ m, i = m + 1 := ⟨i - 1, by omega⟩
      have ho : os[i]? = some os[i] := List.getElem?_eq_getElem (by omega)
      have h1 := h i (by omega) (by omega)
      rw [hch i _ ho h1]
      exact chstab hch i (by omega) (by omega) (fun k h2 h3 => h k h2 (by omega))

theorem reg_get {rs : Nat → T} : ∀ (js : List Nat) (e : Tr T) (h : HS) (e' : Tr T) (h' : HS), RegOK G os rs js e h e' h' → ∀ s t, e'.get s = some t → (∃ j o, j ∈ js ∧ os[j]? = some o ∧ o.dst = some s ∧ rs j = t) ∨ ((∀ j o, j ∈ js → os[j]? = some o → o.dst ≠ some s) ∧ e.get s = some t)
  | [], e, h, e', h', hr, s, t, ht => by obtain ⟨rfl, rfl⟩ := hr; exact .inr ⟨fun j o hj => by simp at hj, ht⟩
  | j :: js, e, h, e', h', hr, s, t, ht => by
    obtain ⟨o, d, ty, ti, h1, h2, h3, h4, h5, h6⟩ := hr
    rcases reg_get js _ _ _ _ h6 s t ht with ⟨k, q, k1, k2⟩ | ⟨k1, k2⟩
    · exact .inl ⟨k, q, List.mem_cons_of_mem _ k1, k2⟩
    · rcases Tr.get_set k2 with ⟨q1, q2⟩ | ⟨q1, q2⟩
      · subst q1; exact .inl ⟨j, o, List.mem_cons_self, h1, h2, by rw [h5, q2]⟩
      · refine .inr ⟨fun k q hk hq => ?_, q2⟩
        rcases List.mem_cons.1 hk with rfl | hk
        · rw [h1] at hq; injection hq with hq; subst hq; rw [h2]; intro e; injection e with e; exact q1 e.symm
        · exact k1 k q hk hq

/-- What the environment of the text's order says of a slot. -/
theorem cget {fl : Nat → Option Nat} {rs : Nat → T} {ce cp : Nat → Tr T} {ch cq : Nat → HS} {fs : Nat → List Nat} (hfs : ∀ i j, j ∈ fs i ↔ fl j = some i) (hlt : ∀ j u, fl j = some u → j < u)
    (hreg : ∀ i, i < os.length → RegOK G os rs (fs i) (ce i) (ch i) (cp i) (cq i)) (hce : ∀ i o, os[i]? = some o → fl i = none → ce (i + 1) = putX (cp i) o.dst (rs i))
    (hfl : ∀ i o d u, os[i]? = some o → fl i = some u → o.dst = some d → ce (i + 1) = (ce i).del d) (hfd : ∀ i u o, fl i = some u → os[i]? = some o → ∃ d, o.dst = some d) : ∀ (i s : Nat) (u : T), i ≤ os.length → (ce i).get s = some u →
    (∃ j o, j < i ∧ os[j]? = some o ∧ o.dst = some s ∧ rs j = u ∧ ∀ r, fl j = some r → r < i) ∨ ((∀ j o, j < i → os[j]? = some o → o.dst ≠ some s) ∧ (ce 0).get s = some u)
  | 0, s, u, _, h => .inr ⟨fun j o hj => by omega, h⟩
  | i + 1, s, u, hi, h => by
    have ho : os[i]? = some os[i] := List.getElem?_eq_getElem (by omega)
    have rcg := cget hfs hlt hreg hce hfl hfd i
    have old : os[i].dst ≠ some s → (ce i).get s = some u → (∃ j o, j < i + 1 ∧ os[j]? = some o ∧ o.dst = some s ∧ rs j = u ∧ ∀ r, fl j = some r → r < i + 1) ∨ ((∀ j o, j < i + 1 → os[j]? = some o → o.dst ≠ some s) ∧ (ce 0).get s = some u) := by
      intro hne h
      rcases rcg s u (by omega) h with ⟨j, o, h1, h2, h3, h4, h5⟩ | ⟨h1, h2⟩
      · exact .inl ⟨j, o, by omega, h2, h3, h4, fun r hr => by have := h5 r hr; omega⟩
      · refine .inr ⟨fun j o hj hjo => ?_, h2⟩
        by_cases e : j = i
        · subst e; rw [ho] at hjo; injection hjo with hjo; subst hjo; exact hne
        · exact h1 j o (by omega) hjo
    cases hf : fl i with
    | some r =>
      obtain ⟨d, hd⟩ := hfd i r _ hf ho
      rw [hfl i _ d r ho hf hd] at h
      obtain ⟨h1, h2⟩ := Tr.get_del h
      exact old (by rw [hd]; intro e; injection e with e; exact h1 e.symm) h2
    | none =>
      rw [hce i _ ho hf] at h
      have oldp : os[i].dst ≠ some s → (cp i).get s = some u → (∃ j o, j < i + 1 ∧ os[j]? = some o ∧ o.dst = some s ∧ rs j = u ∧ ∀ r, fl j = some r → r < i + 1) ∨ ((∀ j o, j < i + 1 → os[j]? = some o → o.dst ≠ some s) ∧ (ce 0).get s = some u) := by
        intro hne h
        rcases reg_get _ _ _ _ _ (hreg i (by omega)) s u h with ⟨j, o, h1, h2, h3, h4⟩ | ⟨h1, h2⟩
        · have hj := (hfs i j).1 h1
          have := hlt j i hj
          exact .inl ⟨j, o, by omega, h2, h3, h4, fun r hr => by rw [hj] at hr; injection hr with hr; omega⟩
        · exact old hne h2
      cases hd : os[i].dst with
      | none => rw [hd] at h; exact oldp (by rw [hd]; simp) h
      | some d =>
        rw [hd] at h
        rcases Tr.get_set h with ⟨h1, h2⟩ | ⟨h1, h2⟩
        · subst h1; exact .inl ⟨i, _, by omega, ho, hd, h2, fun r hr => by rw [hf] at hr; cases hr⟩
        · exact oldp (by rw [hd]; intro e; injection e with e; exact h1 e.symm) h2

/-- A new thing of which no note is taken yet. -/
theorem float_step (hG : Fits P G) {o : Oper} {ty : Nat} {ti : TI} {d : Tmp} {av : Act} {w : World} {μ : Gh} {σ : St} (ho : o.op = .alloc ty) (hd : o.dst = some d) (ht : G ty = some ti) (hi : Inv w μ σ) :
    ∃ c el, (execOp av.eval o).run P w = .ok (.value (.pointer (some ⟨w.heap.size, 0, none⟩))) (w.alloc (.cells c el)) ∧ ti.tree.cells.length ≤ c.size ∧ (∀ (w : World) (μ : Gh) (σ : St), CellsIn w μ σ ti.tree.cells c 0) ∧
      Inv (w.alloc (.cells c el)) μ { σ with off := fun b q => σ.off b q ∨ b = w.heap.size } ∧
      (∀ b q, Imm w μ σ b q → Imm (w.alloc (.cells c el)) μ { σ with off := fun b q => σ.off b q ∨ b = w.heap.size } b q ∧ (w.alloc (.cells c el)).cell? ⟨b, q, none⟩ = w.cell? ⟨b, q, none⟩) ∧
      ¬ Live μ σ w.heap.size := by
  obtain ⟨v, hv, rv, hs1, hs2⟩ := g_zero (P := P) (w := w) (μ := μ) (σ := σ) hG ht
  have hraw : notRaw ti.tree = true := by
    unfold TI.tree; split
    · rfl
    · cases ti.zero.headD .b <;> rfl
  have hvw : ∀ w, (zeroValue ty).run P w = .ok v w := by
    obtain ⟨i0, d0, k1, k2, k3, k4, k5, k6, _⟩ := hG ty ti ht
    have e1 : ∀ w, (zeroValue ty).run P w = .ok (if ti.d.agg then .agg (ti.zero.map Z.value).toArray else (ti.zero.headD .b).value) w := by
      intro w; simp only [zeroValue, typeInfo, Sem.run_bind, run_program, Result.andThen_ok, k1, k6, Sem.run_pure]
    rw [e1] at hv; injection hv with hv; intro w; rw [e1, hv]
  have hlt : ∀ b q, Imm w μ σ b q → b ≠ w.heap.size := fun b q h => Nat.ne_of_lt h.lt
  have im : ∀ b q, Imm w μ σ b q → Imm (w.alloc (.cells v.cells ty)) μ { σ with off := fun b q => σ.off b q ∨ b = w.heap.size } b q ∧ (w.alloc (.cells v.cells ty)).cell? ⟨b, q, none⟩ = w.cell? ⟨b, q, none⟩ := by
    intro b q hx
    refine ⟨⟨by have := hx.lt; rw [size_alloc]; omega, ?_, hx.obj, hx.room⟩, cell_of_heap (heap_alloc_ne w _ hx.lt) q⟩
    rintro (h | h)
    · exact hx.off h
    · exact hlt b q hx h
  have e0 : Ev0 w μ σ (w.alloc (.cells v.cells ty)) μ { σ with off := fun b q => σ.off b q ∨ b = w.heap.size } :=
    ⟨fun _ _ h => h, fun _ _ h => h, fun b n ⟨c, e, f, h1, h2⟩ => ⟨c, e, f, by rw [heap_alloc_ne w _ (Array.getElem?_eq_some_iff.1 h1).1]; exact h1, h2⟩, im⟩
  have nl : ¬ Live μ σ w.heap.size := by
    rintro (⟨i, ob, p, h1, h2⟩ | ⟨k, f, t, h1, h2, h3⟩)
    · exact Nat.lt_irrefl _ (hi.lts h1 h2)
    · obtain ⟨b', f', t', r1, r2, r3⟩ := hi.room k h1
      rw [h2] at r1; injection r1 with r1; injection r1 with r1 r4; injection r4 with r4 r5
      subst r1; subst r4; subst r5
      obtain ⟨⟨c, e', r6, _⟩, _⟩ := r3 h3
      exact Nat.lt_irrefl _ (Array.getElem?_eq_some_iff.1 r6).1
  refine ⟨v.cells, ty, ?_, by omega, ?_, ⟨fun i us h1 => ?_, fun i es h1 => ?_, hi.inj, fun k hk => ?_, hi.rinj, hi.fin, fun b q h => ?_, fun i ob b p h1 h2 q h => ?_⟩, im, nl⟩
  · simp [execOp, ho, Instr.alloc, hv, newVar, newRow]
  · intro w2 μ2 σ2 j t u hj hu
    obtain ⟨v2, hv2, rv2, _, _⟩ := g_zero (P := P) (w := w2) (μ := μ2) (σ := σ2) hG ht
    rw [hvw] at hv2; injection hv2 with hv2; subst hv2
    exact (rv2.cells (notRaw_ne hraw)).2 j t u hj (by simpa using hu)
  · obtain ⟨b, p, c, e, h2, h3, h4, h5⟩ := hi.obj i us h1
    exact ⟨b, p, c, e, h2, by rw [heap_alloc_ne w _ (Array.getElem?_eq_some_iff.1 h3).1]; exact h3, h4, fun j t v h6 h7 => (h5 j t v h6 h7).ev' e0⟩
  · obtain ⟨b, c, e, h2, h3, h4, h5⟩ := hi.map i es h1
    exact ⟨b, c, e, h2, by rw [heap_alloc_ne w _ (Array.getElem?_eq_some_iff.1 h3).1]; exact h3, h4, fun j k u e' h6 h7 => let ⟨h8, h9⟩ := h5 j k u e' h6 h7; ⟨h8.ev' e0, h9.ev' e0⟩⟩
  · obtain ⟨b, f, t, h1, h2, h3⟩ := hi.room k hk
    refine ⟨b, f, t, h1, h2, fun hlt => ?_⟩
    obtain ⟨⟨c, e, h4, h5⟩, h6, h7⟩ := h3 hlt
    have hb := (Array.getElem?_eq_some_iff.1 h4).1
    refine ⟨⟨c, e, by rw [heap_alloc_ne w _ hb]; exact h4, h5⟩, h6, fun o q1 q2 q3 => ?_⟩
    rcases q3 with q3 | q3
    · exact h7 o q1 q2 q3
    · omega
  · rcases h with h | h
    · have := hi.offlt b q h; rw [size_alloc]; omega
    · rw [size_alloc]; omega
  · rcases h with h | h
    · exact hi.offobj i ob b p h1 h2 q h
    · have := hi.lts h1 h2; omega

/-- Note is taken of it. -/
theorem note_step {w0 w : World} {μ0 μ : Gh} {σ0 σ : St} {b m : Nat} {c : Array Value} {el : TypeId} {ts : List T} {off1 : Nat → Nat → Prop} (hi : Inv w μ σ) (hb : w.heap[b]? = some (.cells c el (0, 0))) (hnl : ¬ Live μ σ b) (hts : ts.length ≤ c.size) (hc : ∀ (w : World) (μ : Gh) (σ : St), CellsIn w μ σ ts c 0)
    (hnx : σ.nx = some m) (hoff : ∀ x q, off1 x q → σ.off x q) (hoff2 : ∀ q, σ.off b q) (hoff1 : ∀ q, ¬ off1 b q) (hge : w0.heap.size ≤ b) (ev : EvO w0 μ0 σ0 w μ σ) :
    EvO w0 μ0 σ0 w (μ.addL m (b, 0)) { σ.new m (.cells ts) with off := off1 } ∧ Inv w (μ.addL m (b, 0)) { σ.new m (.cells ts) with off := off1 } ∧ Ev0 w μ σ w (μ.addL m (b, 0)) { σ.new m (.cells ts) with off := off1 } ∧
      (∀ x, x ≠ b → ¬ Live μ σ x → ¬ Live (μ.addL m (b, 0)) { σ.new m (.cells ts) with off := off1 } x) := by
  obtain ⟨n, hn1, hn2⟩ := hi.fin
  obtain rfl := hn2 m hnx
  obtain ⟨hf, hft⟩ := hn1 m (Nat.le_refl _)
  have hmem : ∀ j o, (j, o) ∈ (σ.new m (.cells ts)).L → (j = m ∧ o = .cells ts) ∨ ((j, o) ∈ σ.L ∧ j ≠ m) := by
    intro j o h
    rcases List.mem_cons.1 h with h | h
    · injection h with h1 h2; exact .inl ⟨h1, h2⟩
    · exact .inr ⟨h, fun e => hi.idlt h (e ▸ hf)⟩
  have hnb : ∀ (i : Nat) (ob : Ob) (p : Nat), (i, ob) ∈ σ.L → μ.loc i ≠ some (b, p) := fun i ob p h1 h2 => hnl (.inl ⟨i, ob, p, h1, h2⟩)
  have im : ∀ x q, Imm w μ σ x q → Imm w (μ.addL m (b, 0)) { σ.new m (.cells ts) with off := off1 } x q := by
    intro x q hx
    have hxb : x ≠ b := by rintro rfl; exact hx.off (hoff2 q)
    refine ⟨hx.lt, fun h => hx.off (hoff x q h), fun i ob p h1 h2 => ?_, hx.room⟩
    rcases hmem i ob h1 with ⟨rfl, _⟩ | ⟨h3, h4⟩
    · rw [addL_same] at h2; injection h2 with h2; injection h2 with h2; exact hxb h2.symm
    · rw [addL_ne _ h4] at h2; exact hx.obj i ob p h3 h2
  have nl : ∀ x, x ≠ b → ¬ Live μ σ x → ¬ Live (μ.addL m (b, 0)) { σ.new m (.cells ts) with off := off1 } x := by
    rintro x hxb hl (⟨i, ob, p, h1, h2⟩ | h)
    · rcases hmem i ob h1 with ⟨rfl, _⟩ | ⟨h3, h4⟩
      · rw [addL_same] at h2; injection h2 with h2; injection h2 with h2; exact hxb h2.symm
      · rw [addL_ne _ h4] at h2; exact hl (.inl ⟨i, ob, p, h3, h2⟩)
    · exact hl (.inr h)
  have e0 : Ev0 w μ σ w (μ.addL m (b, 0)) { σ.new m (.cells ts) with off := off1 } := ⟨addL_mono hf, fun _ _ h => h, fun _ _ h => h, fun x q hx => ⟨im x q hx, rfl⟩⟩
  refine ⟨⟨ev.below, fun i x hx => addL_mono hf _ _ (ev.loc i x hx), ev.tok, ev.shape, fun x hx hl => ?_, fun x q hx => ?_⟩, ⟨fun j us h => ?_, fun j es h => ?_, fun n1 m1 j k x y b1 p q h1 h2 h3 h4 => ?_, fun k hk => ?_, hi.rinj, ?_, fun x q h => hi.offlt x q (hoff x q h), fun j ob b1 p h1 h2 q h => ?_⟩, e0, nl⟩
  · obtain ⟨h1, h2⟩ := ev.live x hx hl
    exact ⟨nl x (by omega) h1, h2⟩
  · obtain ⟨h1, h2⟩ := ev.imm x q hx
    exact ⟨im x q h1, h2⟩
  · rcases hmem j _ h with ⟨rfl, h1⟩ | ⟨h1, hne⟩
    · injection h1 with h1; subst h1
      exact ⟨b, 0, c, el, addL_same _ _, hb, by omega, hc _ _ _⟩
    · obtain ⟨b1, p, c', e', h2, h3, h4, h5⟩ := hi.obj j us h1
      exact ⟨b1, p, c', e', by rw [addL_ne _ hne]; exact h2, h3, h4, fun n t v h6 h7 => (h5 n t v h6 h7).ev' e0⟩
  · rcases hmem j _ h with ⟨rfl, h1⟩ | ⟨h1, hne⟩
    · cases h1
    · obtain ⟨b1, en, cl, h2, h3, h4, h5⟩ := hi.map j es h1
      exact ⟨b1, en, cl, by rw [addL_ne _ hne]; exact h2, h3, h4, fun n k u e' h6 h7 => let ⟨h8, h9⟩ := h5 n k u e' h6 h7; ⟨h8.ev' e0, h9.ev' e0⟩⟩
  · have hold : ∀ (n j : Nat) (x : Ob) (b1 p : Nat), σ.L[n]? = some (j, x) → (μ.addL m (b, 0)).loc j = some (b1, p) → μ.loc j = some (b1, p) ∧ b1 ≠ b := by
      intro n j x b1 p h1 h2
      have hm := List.mem_of_getElem? h1
      have hne : j ≠ m := by rintro rfl; exact hi.idlt hm hf
      rw [addL_ne _ hne] at h2
      exact ⟨h2, by rintro rfl; exact hnb j x p hm h2⟩
    have hnew : ∀ (b1 p : Nat), (μ.addL m (b, 0)).loc m = some (b1, p) → b1 = b := by
      intro b1 p h; rw [addL_same] at h; injection h with h; injection h with h; exact h.symm
    cases n1 with
    | zero =>
      have e1 : (m, Ob.cells ts) = (j, x) := by simpa [St.new] using h1
      injection e1 with e1 e2; subst e1
      cases m1 with
      | zero => rfl
      | succ m1 => exact absurd (hnew b1 p h3) (hold m1 k y b1 q (by simpa [St.new] using h2) h4).2
    | succ n1 =>
      cases m1 with
      | zero =>
        have e1 : (m, Ob.cells ts) = (k, y) := by simpa [St.new] using h2
        injection e1 with e1 e2; subst e1
        exact absurd (hnew b1 q h4) (hold n1 j x b1 p (by simpa [St.new] using h1) h3).2
      | succ m1 =>
        have h1' : σ.L[n1]? = some (j, x) := by simpa [St.new] using h1
        have h2' : σ.L[m1]? = some (k, y) := by simpa [St.new] using h2
        rw [hi.inj n1 m1 j k x y b1 p q h1' h2' (hold n1 j x b1 p h1' h3).1 (hold m1 k y b1 q h2' h4).1]
  · obtain ⟨b1, f, t, h1, h2, h3⟩ := hi.room k hk
    refine ⟨b1, f, t, h1, h2, fun hlt => ?_⟩
    obtain ⟨h4, h5, h6⟩ := h3 hlt
    refine ⟨h4, fun j ob p h7 h8 => ?_, fun o q1 q2 q3 => h6 o q1 q2 (hoff _ _ q3)⟩
    rcases hmem j ob h7 with ⟨rfl, _⟩ | ⟨h9, hne⟩
    · rw [addL_same] at h8; injection h8 with h8; injection h8 with h8
      exact hnl (.inr ⟨k, f, t, hk, by rw [h8]; exact h1, hlt⟩)
    · rw [addL_ne _ hne] at h8; exact h5 j ob p h9 h8
  · refine ⟨m + 1, fun j hj => ⟨by rw [addL_ne _ (by omega)]; exact (hn1 j (by omega)).1, (hn1 j (by omega)).2⟩, fun q hq => ?_⟩
    have hq' : (σ.nx.map fun _ => m + 1) = some q := hq
    rw [hnx] at hq'; simp at hq'; exact hq'.symm
  · rcases hmem j ob h1 with ⟨rfl, _⟩ | ⟨h3, hne⟩
    · rw [addL_same] at h2; injection h2 with h2; injection h2 with h2; subst h2
      exact hoff1 q h
    · rw [addL_ne _ hne] at h2; exact hi.offobj j ob b1 p h3 h2 q (hoff _ _ h)
end
end Go.Ts
