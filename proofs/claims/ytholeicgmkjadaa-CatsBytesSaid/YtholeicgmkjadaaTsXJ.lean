/- Long runs of the machine, in pieces: each piece begins from a state that is written down. -/
import Derived.Test.YtholeicgmkjadaaTsXI
set_option linter.unusedVariables false
set_option linter.unusedSimpArgs false
namespace Go.Ts
def trL {α : Type} (l : List (Nat × α)) : Tr α := l.foldl (fun t p => t.set p.1 p.2) .leaf
theorem trL_get {α : Type} : ∀ {l : List (Nat × α)} {t : Tr α} {i : Nat} {x : α}, (l.foldl (fun t p => t.set p.1 p.2) t).get i = some x → (i, x) ∈ l ∨ t.get i = some x
  | [], t, i, x, h => .inr h
  | p :: l, t, i, x, h => by
    rcases trL_get (l := l) h with h | h
    · exact .inl (List.mem_cons_of_mem _ h)
    · rcases Tr.get_set h with ⟨h1, h2⟩ | ⟨_, h2⟩
      · subst h1; subst h2; exact .inl List.mem_cons_self
      · exact .inr h2
theorem trL_mem {α : Type} {l : List (Nat × α)} {i : Nat} {x : α} (h : (trL l).get i = some x) : (i, x) ∈ l := by
  rcases trL_get h with h | h
  · exact h
  · simp [Tr.get] at h
def beqOT : Option T → Option T → Bool
  | none, none => true
  | some a, some b => beqT a b
  | _, _ => false
theorem beqOT_eq {a b : Option T} (h : beqOT a b = true) : a = b := by
  cases a <;> cases b <;> simp only [beqOT, Bool.false_eq_true] at h
  · rfl
  · exact congrArg some (beqT_eq _ _ h)
def beqTrT : Tr T → Tr T → Bool
  | .leaf, .leaf => true
  | .node l v r, .node l' v' r' => beqOT v v' && beqTrT l l' && beqTrT r r'
  | _, _ => false
theorem beqTrT_eq : ∀ {a b : Tr T}, beqTrT a b = true → a = b
  | .leaf, .leaf, _ => rfl
  | .node l v r, .node l' v' r', h => by
    simp only [beqTrT, Bool.and_eq_true] at h
    rw [beqOT_eq h.1.1, beqTrT_eq h.1.2, beqTrT_eq h.2]
  | .leaf, .node _ _ _, h => by simp [beqTrT] at h
  | .node _ _ _, .leaf, h => by simp [beqTrT] at h
def beqTTs : List (T × T) → List (T × T) → Bool
  | [], [] => true
  | a :: l, b :: m => beqT a.1 b.1 && beqT a.2 b.2 && beqTTs l m
  | _, _ => false
theorem beqTTs_eq : ∀ {a b : List (T × T)}, beqTTs a b = true → a = b
  | [], [], _ => rfl
  | (a1, a2) :: l, (b1, b2) :: m, h => by
    simp only [beqTTs, Bool.and_eq_true] at h
    rw [beqT_eq _ _ h.1.1, beqT_eq _ _ h.1.2, beqTTs_eq h.2]
  | [], _ :: _, h => by simp [beqTTs] at h
  | _ :: _, [], h => by simp [beqTTs] at h
def beqHO : HO → HO → Bool
  | .th n zn z ov, .th n' zn' z' ov' => Nat.beq n n' && Nat.beq zn zn' && beqTs z z' && beqTrT ov ov'
  | .mp a, .mp b => beqTTs a b
  | _, _ => false
theorem beqHO_eq {a b : HO} (h : beqHO a b = true) : a = b := by
  cases a <;> cases b <;> simp only [beqHO, Bool.and_eq_true, Bool.false_eq_true] at h
  · rw [Nat.eq_of_beq_eq_true h.1.1.1, Nat.eq_of_beq_eq_true h.1.1.2, beqTs_eq _ _ h.1.2, beqTrT_eq h.2]
  · rw [beqTTs_eq h]
def stepE (e : Tr T) (l : List (Nat × T)) : Bool := l.all fun p => match e.get p.1 with | some t => beqT t p.2 | none => false
def stepL (L : Tr HO) (l : List (Nat × HO)) : Bool := l.all fun p => match L.get p.1 with | some o => beqHO o p.2 | none => false
def stepR (R : Tr Unit) (l : List (Nat × Unit)) : Bool := l.all fun p => match R.get p.1 with | some _ => true | none => false
theorem stepE_ok {e : Tr T} {l : List (Nat × T)} (h : stepE e l = true) {a : Env} (c : CovE a e) : CovE a (trL l) := by
  intro i t hi
  have := List.all_eq_true.1 h _ (trL_mem hi)
  simp only at this
  split at this
  · rename_i u hu; rw [← beqT_eq _ _ this]; exact c i u hu
  · cases this
/-- A state that is written down. -/
def mkH (L : List (Nat × HO)) (R : List Nat) (nx : Nat) : HS := ⟨trL L, trL (R.map fun k => (k, ())), nx⟩
theorem stepH_ok {h : HS} {L : List (Nat × HO)} {R : List Nat} {nx : Nat} (hL : stepL h.L L = true) (hR : stepR h.R (R.map fun k => (k, ())) = true) (hn : Nat.beq h.nx nx = true) {σ : St} (c : HCov σ h) : HCov σ (mkH L R nx) := by
  have get (i : Nat) (o : HO) (hi : (trL L).get i = some o) : h.L.get i = some o := by
    have := List.all_eq_true.1 hL _ (trL_mem hi)
    simp only at this
    split at this
    · rename_i u hu; rw [← beqHO_eq this]; exact hu
    · cases this
  refine ⟨fun i n zn z ov hi => c.th i n zn z ov (get _ _ hi), fun i es hi => c.mp i es (get _ _ hi), fun k u hk => ?_, by rw [c.nx, Nat.eq_of_beq_eq_true hn]; rfl⟩
  have := List.all_eq_true.1 hR _ (trL_mem hk)
  simp only at this
  split at this
  · rename_i u hu; exact c.room k u hu
  · cases this
/-- The first pieces of a chain. -/
def restC : Nat → Code → Code
  | 0, c => c
  | k + 1, .seq _ b => restC k b
  | _ + 1, c => c
theorem restC_add : ∀ (a b : Nat) (c : Code), restC (a + b) c = restC b (restC a c)
  | 0, b, c => by rw [Nat.zero_add]; rfl
  | a + 1, b, c => by
    rw [show a + 1 + b = (a + b) + 1 by omega]
    cases c with
    | seq p q => exact restC_add a b q
    | _ => cases b <;> rfl
def runC (M : Mach) (n N : Nat) (lv : Nat → Bool) : Nat → Code → Tr T → HS → Option (Tr T × HS)
  | 0, _, e, h => some (e, h)
  | k + 1, .seq a b, e, h => match exec M n N lv a e h with
    | some (.normal, e1, h1) => runC M n N lv k b e1 h1
    | _ => none
  | _ + 1, _, _, _ => none
def chunkOK (M : Mach) (n N : Nat) (lv : Nat → Bool) (k : Nat) (c : Code) (e : Tr T) (h : HS) (E : List (Nat × T)) (L : List (Nat × HO)) (R : List Nat) (nx : Nat) : Bool :=
  match runC M n N lv k c e h with
  | some (e', h') => stepE e' E && stepL h'.L L && stepR h'.R (R.map fun k => (k, ())) && Nat.beq h'.nx nx
  | none => false
def finOK (M : Mach) (n N : Nat) (lv : Nat → Bool) (c : Code) (rs : List ResultVar) (e : Tr T) (h : HS) (nx : Nat) : Bool :=
  match exec M n N lv c e h with
  | some (.ret, e', h') => Nat.beq h'.nx nx && (match resX M.G e' h' rs with | some [.bool true] => true | _ => false)
  | _ => false
section
variable {P : Program} {M : Mach}
def Fin (P : Program) (G : Nat → Option TI) (N : Nat) (c : Code) (rs : List ResultVar) (e : Tr T) (h : HS) (nx : Nat) : Prop :=
  ∀ a σ, CovE a e → HCov σ h → AW P N c (fun y a' σ' => y = .ret ∧ ResRs G a' σ' rs [.bool true] ∧ HCov σ' ⟨.leaf, .leaf, nx⟩) a σ
theorem HCov.none {σ : St} {h : HS} (c : HCov σ h) : HCov σ ⟨.leaf, .leaf, h.nx⟩ :=
  ⟨fun i n zn z ov hi => by simp [Tr.get] at hi, fun i es hi => by simp [Tr.get] at hi, fun k u hk => by simp [Tr.get] at hk, c.nx⟩
theorem fin_last (hM : MachOK P M) {n N : Nat} {lv : Nat → Bool} {c : Code} {rs : List ResultVar} {e : Tr T} {h : HS} {nx : Nat} (hx : finOK M n N lv c rs e h nx = true) : Fin P M.G N c rs e h nx := by
  intro a σ ce cv
  unfold finOK at hx
  split at hx
  · rename_i e' h' hrun
    rw [Bool.and_eq_true] at hx
    split at hx
    · rename_i hres
      refine (exec_ok hM n _ _ _ _ _ _ _ _ hrun a σ ce cv).mono ?_
      rintro y a' σ' ⟨rfl, k1, k2⟩
      refine ⟨rfl, resX_ok k1 k2 _ _ hres, ?_⟩
      have := k2.none
      rwa [Nat.eq_of_beq_eq_true hx.1] at this
    · cases hx.2
  · cases hx
theorem runC_ok (hM : MachOK P M) {n N : Nat} {lv : Nat → Bool} {Q : Exit → Env → St → Prop} : ∀ (k : Nat) (c : Code) (e e' : Tr T) (h h' : HS), runC M n N lv k c e h = some (e', h') →
    (∀ a σ, CovE a e' → HCov σ h' → AW P N (restC k c) Q a σ) → ∀ a σ, CovE a e → HCov σ h → AW P N c Q a σ
  | 0, c, e, e', h, h', hx, t, a, σ, ce, cv => by
    simp only [runC] at hx; injection hx with hx; injection hx with q1 q2; subst q1; subst q2
    exact t a σ ce cv
  | k + 1, c, e, e', h, h', hx, t, a, σ, ce, cv => by
    cases c with
    | seq p q =>
      simp only [runC] at hx
      split at hx
      · rename_i e1 h1 hp
        refine aw_seq ((exec_ok hM n _ _ _ _ _ _ _ _ hp a σ ce cv).mono ?_)
        rintro z a' σ' ⟨rfl, k1, k2⟩
        exact runC_ok hM k q e1 e' h1 h' hx t a' σ' k1 k2
      · cases hx
    | _ => simp [runC] at hx
theorem fin_chunk (hM : MachOK P M) {n N : Nat} {lv : Nat → Bool} {k K : Nat} {c : Code} {rs : List ResultVar} {e : Tr T} {h : HS} {E : List (Nat × T)} {L : List (Nat × HO)} {R : List Nat} {nx' nx : Nat}
    (hx : chunkOK M n N lv k (restC K c) e h E L R nx' = true) (t : Fin P M.G N (restC (K + k) c) rs (trL E) (mkH L R nx') nx) : Fin P M.G N (restC K c) rs e h nx := by
  intro a σ ce cv
  unfold chunkOK at hx
  split at hx
  · rename_i e' h' hrun
    simp only [Bool.and_eq_true] at hx
    refine runC_ok hM k _ e e' h h' hrun (fun a' σ' k1 k2 => ?_) a σ ce cv
    rw [← restC_add]
    exact t a' σ' (stepE_ok hx.1.1.1 k1) (stepH_ok hx.1.1.2 hx.1.2 hx.2 k2)
  · cases hx
def bodyOf (fn : Func) : Code := match fn.body with
  | some c => c
  | none => .skip
theorem fin_call (hM : MachOK P M) {g nx : Nat} {h : HS} (fn : Func) (hf : M.F.get g = some fn) (hb : fn.body = some (bodyOf fn)) (hF : Fin P M.G fn.ntmps (restC 0 (bodyOf fn)) fn.results.toList .leaf h nx) :
    ∀ σ, HCov σ h → ACalls P g [] σ (fun u σ' => u = .bool true ∧ HCov σ' ⟨.leaf, .leaf, nx⟩) := by
  intro σ c
  obtain ⟨hf1, hf2⟩ := hM.func g fn hf
  refine acalls_mk hM.fits hf1 hb rfl rfl hf2 (by simp [Nat.ble]) ?_
  refine (hF (envOf 0 []) σ (fun i t hi => by simp [Tr.get] at hi) c).mono ?_
  rintro y a' σ' ⟨rfl, k1, k2⟩
  exact ⟨[.bool true], k1, (Conv.wk (Wk.refl _)).cr ⟨rfl, k2⟩⟩
/-- A function without arguments that has been run: a contract for walks (names are not told there). -/
theorem cold_pure {f nx : Nat} (hc : ∀ σ, HCov σ hs0 → ACalls P f [] σ (fun u σ' => u = .bool true ∧ HCov σ' ⟨.leaf, .leaf, nx⟩)) : Pure P f [] (.bool true) := by
  intro off
  have hcov : HCov ⟨[], [], off, some 0⟩ hs0 := ⟨fun i n zn z ov h => by simp [hs0, Tr.get] at h, fun i es h => by simp [hs0, Tr.get] at h, fun k u h => by simp [hs0, Tr.get] at h, rfl⟩
  obtain ⟨h1, h2⟩ := hc _ hcov
  refine ⟨h1, fun vs w μ hi hn hr => ?_⟩
  have hi' : Inv w ⟨fun _ => none, fun _ => none⟩ ⟨[], [], off, some 0⟩ := by
    refine ⟨fun i ts h => by simp at h, fun i es h => by simp at h, fun n m i j x y b p q h => by simp at h, fun k h => by simp at h, fun n m k l b f t g u h => by simp at h, ⟨0, fun i _ => ⟨rfl, rfl⟩, fun m hm => by injection hm with hm; exact hm.symm⟩, fun b o h => hi.offlt b o h, fun i ob b p h => by simp at h⟩
  refine (h2 vs w _ hi' hn (fun j t v h => by simp at h)).mono ?_
  rintro e w' ⟨v, t, σ', μ', rfl, ev, hi2, rv, rfl, _⟩
  have noL : ∀ b, ¬ Live μ ⟨[], [], off, none⟩ b := by
    rintro b (⟨i, ob, p, h, _⟩ | ⟨k, f, t, h, _⟩) <;> simp at h
  have noL' : ∀ b, ¬ Live ⟨fun _ => none, fun _ => none⟩ ⟨[], [], off, some 0⟩ b := by
    rintro b (⟨i, ob, p, h, _⟩ | ⟨k, f, t, h, _⟩) <;> simp at h
  refine ⟨v, _, ⟨[], [], off, none⟩, μ, rfl, ⟨ev.below, fun _ _ h => h, fun _ _ h => h, rfl, ev.shape, fun b hb hl => ⟨noL b, (ev.live b hb (noL' b)).2⟩, fun b o him => ?_⟩, ?_, ?_, rfl, rfl⟩
  · obtain ⟨k1, k2⟩ := ev.imm b o ⟨him.lt, him.off, fun i ob p h => by simp at h, fun k f t h => by simp at h⟩
    exact ⟨⟨k1.lt, him.off, fun i ob p h => by simp at h, fun k f t h => by simp at h⟩, k2⟩
  · obtain ⟨n, hn1, _⟩ := hi.fin
    exact ⟨fun i ts h => by simp at h, fun i es h => by simp at h, fun n m i j x y b p q h => by simp at h, fun k h => by simp at h, fun n m k l b f t g u h => by simp at h, ⟨n, hn1, fun m hm => by simp at hm⟩, fun b o h => Nat.lt_of_lt_of_le (hi.offlt b o h) ev.below.size, fun i ob b p h => by simp at h⟩
  · cases rv; exact .bool _
/-- The same, for what the machine runs in one go. -/
theorem run_pure (hM : MachOK P M) {n f nx : Nat} (h : (match callX M n f [] hs0 with | some (.bool true, h') => Nat.beq h'.nx nx | _ => false) = true) : Pure P f [] (.bool true) := by
  refine cold_pure (nx := nx) fun σ c => ?_
  revert h
  cases hx : callX M n f [] hs0 with
  | none => intro h; cases h
  | some q =>
    obtain ⟨t, h'⟩ := q
    cases t with
    | bool b => cases b with
      | true =>
        intro h
        refine (callX_ok hM n f [] hs0 _ h' hx σ c).mono ?_
        rintro u σ' ⟨rfl, k⟩
        have := k.none
        rw [Nat.eq_of_beq_eq_true h] at this
        exact ⟨rfl, this⟩
      | false => intro h; cases h
    | _ => intro h; cases h
theorem run_pure0 (hM : MachOK P M) {n f : Nat} (h : (match callX M n f [] hs0 with | some (.bool true, _) => true | _ => false) = true) : Pure P f [] (.bool true) := by
  revert h
  cases hx : callX M n f [] hs0 with
  | none => intro h; cases h
  | some q =>
    obtain ⟨t, h'⟩ := q
    cases t with
    | bool b => cases b with
      | true =>
        intro _
        refine cold_pure (nx := h'.nx) fun σ c => (callX_ok hM n f [] hs0 _ h' hx σ c).mono ?_
        rintro u σ' ⟨rfl, k⟩
        exact ⟨rfl, k.none⟩
      | false => intro h; cases h
    | _ => intro h; cases h
/-- A law without arguments that has been run in pieces. -/
theorem law_cold {f nx : Nat} (hc : ∀ σ, HCov σ hs0 → ACalls P f [] σ (fun u σ' => u = .bool true ∧ HCov σ' ⟨.leaf, .leaf, nx⟩)) : ACalls P f [] σ0 (fun r _ => r = .bool true) := by
  obtain ⟨h1, h2⟩ := hc _ hs0_cov
  refine ⟨h1, fun vs w μ hi hn hr => ?_⟩
  have hi' : Inv w ⟨fun _ => none, fun _ => none⟩ ⟨[], [], fun _ _ => False, some 0⟩ := by
    refine ⟨fun i ts h => by simp at h, fun i es h => by simp at h, fun n m i j x y b p q h => by simp at h, fun k h => by simp at h, fun n m k l b f t g u h => by simp at h, ⟨0, fun i _ => ⟨rfl, rfl⟩, fun m hm => by injection hm with hm; exact hm.symm⟩, fun b o h => h.elim, fun i ob b p h => by simp at h⟩
  refine (h2 vs w _ hi' hn (fun j t v h => by simp at h)).mono ?_
  rintro e w' ⟨v, t, σ', μ', rfl, ev, hi2, rv, rfl, _⟩
  have noL : ∀ b, ¬ Live μ σ0 b := by
    rintro b (⟨i, ob, p, h, _⟩ | ⟨k, f, t, h, _⟩) <;> simp [σ0] at h
  have noL' : ∀ b, ¬ Live ⟨fun _ => none, fun _ => none⟩ ⟨[], [], fun _ _ => False, some 0⟩ b := by
    rintro b (⟨i, ob, p, h, _⟩ | ⟨k, f, t, h, _⟩) <;> simp at h
  refine ⟨v, _, σ0, μ, rfl, ⟨ev.below, fun _ _ h => h, fun _ _ h => h, rfl, ev.shape, fun b hb hl => ⟨noL b, (ev.live b hb (noL' b)).2⟩, fun b o him => ?_⟩, ?_, ?_, rfl⟩
  · obtain ⟨k1, k2⟩ := ev.imm b o ⟨him.lt, fun h => h, fun i ob p h => by simp at h, fun k f t h => by simp at h⟩
    exact ⟨⟨k1.lt, fun h => h, fun i ob p h => by simp [σ0] at h, fun k f t h => by simp [σ0] at h⟩, k2⟩
  · obtain ⟨n, hn1, _⟩ := hi.fin
    exact ⟨fun i ts h => by simp [σ0] at h, fun i es h => by simp [σ0] at h, fun n m i j x y b p q h => by simp [σ0] at h, fun k h => by simp [σ0] at h, fun n m k l b f t g u h => by simp [σ0] at h, ⟨n, hn1, fun m hm => by simp [σ0] at hm⟩, fun b o h => h.elim, fun i ob b p h => by simp [σ0] at h⟩
  · cases rv; exact .bool _
/-- A function without arguments that needs no things: an answer of the table. -/
def coldK (nx : Nat) (ts : List T) (h : HS) : Option (T × HS) := match ts, h with
  | [], ⟨.leaf, .leaf, 0⟩ => some (.bool true, ⟨.leaf, .leaf, nx⟩)
  | _, _ => none
theorem coldK_ok {g nx : Nat} (hc : ∀ σ, HCov σ hs0 → ACalls P g [] σ (fun u σ' => u = .bool true ∧ HCov σ' ⟨.leaf, .leaf, nx⟩)) :
    ∀ ts h t h', coldK nx ts h = some (t, h') → ∀ σ, HCov σ h → ACalls P g ts σ (fun u σ' => u = t ∧ HCov σ' h') := by
  intro ts h t h' hk σ c
  unfold coldK at hk
  split at hk
  · injection hk with hk; injection hk with h1 h2; subst h1; subst h2; exact hc σ c
  · cases hk
end
end Go.Ts
