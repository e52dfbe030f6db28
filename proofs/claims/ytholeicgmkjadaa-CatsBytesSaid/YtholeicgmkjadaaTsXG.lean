/- A machine over trees: code and calls, and that whatever it comes to, the program comes to. -/
import Derived.Test.YtholeicgmkjadaaTsXF
set_option linter.unusedVariables false
set_option linter.unusedSimpArgs false
namespace Go.Ts

/-- What the machine is told of a program: its types, its functions, which slices are live in which function, what is known of some calls. -/
structure Mach where
  G : Nat → Option TI
  F : Tr Func
  live : FuncId → Nat → Bool
  known : FuncId → Option (List T → HS → Option (T × HS))

abbrev Out := Option (Exit × Tr T × HS)
def jumps (run : Code → Tr T → HS → Out) (b : Code) : Nat → Out → Out
  | 0, _ => none
  | k + 1, r => match r with
    | some (.goto l, e, h) => match findLabel b l with
      | some rest => jumps run b k (run rest e h)
      | none => r
    | _ => r
def resX (G : Nat → Option TI) (e : Tr T) (h : HS) : List ResultVar → Option (List T)
  | [] => some []
  | .tmp x :: rs => match e.get x, resX G e h rs with
    | some t, some ts => some (t :: ts)
    | _, _ => none
  | .cell x ty :: rs => match e.get x, resX G e h rs with
    | some (.ptr i o), some ts => match readX G h ty i o with
      | some t => some (t :: ts)
      | none => none
    | _, _ => none
def callB (M : Mach) (run : Nat → (Nat → Bool) → Code → Tr T → HS → Out) (g : FuncId) (ts : List T) (h : HS) : Option (T × HS) :=
  match M.F.get g with
  | some fn => match fn.body with
    | some c => cond (Nat.ble ts.length fn.ntmps) (match run fn.ntmps (M.live g) c (Tr.of ts) h with
      | some (.ret, e', h') => match resX M.G e' h' fn.results.toList with
        | some us => some (tup1 us, h')
        | none => none
      | some (.normal, e', h') => match resX M.G e' h' fn.results.toList with
        | some us => some (tup1 us, h')
        | none => none
      | _ => none) none
    | none => none
  | none => none
def callW (M : Mach) (run : Nat → (Nat → Bool) → Code → Tr T → HS → Out) (g : FuncId) (ts : List T) (h : HS) : Option (T × HS) :=
  match M.known g with
  | some f => match f ts h with
    | some r => some r
    | none => callB M run g ts h
  | none => callB M run g ts h
def exec (M : Mach) : Nat → Nat → (Nat → Bool) → Code → Tr T → HS → Out
  | 0, _, _, _, _, _ => none
  | n + 1, N, lv, c, e, h => match c with
    | .skip => some (.normal, e, h)
    | .label _ => some (.normal, e, h)
    | .exit id => some (.exit id, e, h)
    | .goto l => some (.goto l, e, h)
    | .ret => some (.ret, e, h)
    | .region _ ops draw => match cond draw (drawX M.G lv (callW M (exec M n)) N ops.toList e h) (runOps M.G lv (callW M (exec M n)) ops.toList N ops.toList e h) with
      | some (e', h') => some (.normal, e', h')
      | none => none
    | .seq a b => match exec M n N lv a e h with
      | some (.normal, e', h') => exec M n N lv b e' h'
      | r => r
    | .cond c a b => match evX e c with
      | some (.bool t) => exec M n N lv (cond t a b) e h
      | _ => none
    | .block id b => match exec M n N lv b e h with
      | some (.exit id', e', h') => cond (Nat.beq id' id) (some (.normal, e', h')) (some (.exit id', e', h'))
      | r => r
    | .loop b => match exec M n N lv b e h with
      | some (.normal, e', h') => exec M n N lv (.loop b) e' h'
      | r => r
    | .scope b => jumps (exec M n N lv) b n (exec M n N lv b e h)
    | _ => none
def callX (M : Mach) (n : Nat) : CallF := callW M (exec M n)

structure MachOK (P : Program) (M : Mach) : Prop where
  mix : P.follows .mixedOrders = true
  fits : Fits P M.G
  func : ∀ f fn, M.F.get f = some fn → P.funcs[f]? = some fn ∧ (fn.name == "runtime.NumGoroutine") = false
  known : ∀ g f, M.known g = some f → ∀ ts h t h', f ts h = some (t, h') → ∀ σ, HCov σ h → ACalls P g ts σ (fun u σ' => u = t ∧ HCov σ' h')

section
variable {P : Program} {M : Mach}

def RunOK (P : Program) (run : Nat → (Nat → Bool) → Code → Tr T → HS → Out) : Prop :=
  ∀ N lv c e h x e' h', run N lv c e h = some (x, e', h') → ∀ a σ, CovE a e → HCov σ h → AW P N c (fun y a' σ' => y = x ∧ CovE a' e' ∧ HCov σ' h') a σ

theorem envOf_at : ∀ (ts : List T) (i j : Nat) (t : T), ts[j]? = some t → get (envOf i ts) (i + j) = some t
  | [], i, j, t, h => by simp at h
  | u :: ts, i, 0, t, h => by simp at h; subst h; simp [envOf, get]
  | u :: ts, i, j + 1, t, h => by
    simp only [envOf, get]
    rw [beqF (by omega), cond_false, show i + (j + 1) = i + 1 + j by omega]
    exact envOf_at ts (i + 1) j t (by simpa using h)
theorem resX_ok {G : Nat → Option TI} {a : Env} {e : Tr T} {σ : St} {h : HS} (ce : CovE a e) (c : HCov σ h) : ∀ (rs : List ResultVar) (ts : List T), resX G e h rs = some ts → ResRs G a σ rs ts
  | [], ts, hx => by simp [resX] at hx; subst hx; rfl
  | .tmp x :: rs, ts, hx => by
    simp only [resX] at hx
    split at hx
    · rename_i t us h1 h2
      injection hx with hx; subst hx
      exact ⟨t, us, ce _ _ h1, resX_ok ce c rs us h2, rfl⟩
    · cases hx
  | .cell x ty :: rs, ts, hx => by
    simp only [resX] at hx
    split at hx
    · rename_i i o us h1 h2
      split at hx
      · rename_i t ht
        injection hx with hx; subst hx
        obtain ⟨us', k1, k2⟩ := readX_ok c ht
        obtain ⟨n, hn⟩ := List.getElem?_of_mem k1
        exact ⟨t, us, ⟨n, i, o, us', ce _ _ h1, hn, k2⟩, resX_ok ce c rs us h2, rfl⟩
      · cases hx
    · cases hx
theorem callW_ok (hM : MachOK P M) {run : Nat → (Nat → Bool) → Code → Tr T → HS → Out} (hr : RunOK P run) : CallsOK P (callW M run) := by
  intro g ts h t h' hx σ c
  have body : callB M run g ts h = some (t, h') → ACalls P g ts σ (fun u σ' => u = t ∧ HCov σ' h') := by
    intro hx
    unfold callB at hx
    split at hx
    · rename_i fn hfn
      obtain ⟨hf1, hf2⟩ := hM.func g fn hfn
      split at hx
      · rename_i b hb
        cases hl : Nat.ble ts.length fn.ntmps with
        | false => rw [hl] at hx; cases hx
        | true =>
          rw [hl, cond_true] at hx
          have fin : ∀ (x : Exit) (e' : Tr T) (h2 : HS) (us : List T), (x = .ret ∨ x = .normal) → run fn.ntmps (M.live g) b (Tr.of ts) h = some (x, e', h2) → resX M.G e' h2 fn.results.toList = some us → t = tup1 us → h' = h2 → ACalls P g ts σ (fun u σ' => u = t ∧ HCov σ' h') := by
            intro x e' h2 us hxx hrun hres ht hh
            subst ht; subst hh
            refine acalls_mk hM.fits hf1 hb rfl rfl hf2 hl ?_
            have := hr _ _ _ _ _ _ _ _ hrun (envOf 0 ts) σ (fun i t hi => by have := envOf_at ts 0 i t (Tr.get_of hi); simpa using this) c
            refine this.mono ?_
            rintro y a' σ' ⟨rfl, k1, k2⟩
            have hrs := resX_ok k1 k2 _ _ hres
            rcases hxx with rfl | rfl
            · exact ⟨us, hrs, (Conv.wk (Wk.refl _)).cr ⟨rfl, k2⟩⟩
            · exact ⟨us, hrs, (Conv.wk (Wk.refl _)).cr ⟨rfl, k2⟩⟩
          split at hx
          · rename_i e' h2 hrun
            split at hx
            · rename_i us hres
              injection hx with hx; injection hx with q1 q2
              exact fin _ _ _ us (.inl rfl) hrun hres q1.symm q2.symm
            · cases hx
          · rename_i e' h2 hrun
            split at hx
            · rename_i us hres
              injection hx with hx; injection hx with q1 q2
              exact fin _ _ _ us (.inr rfl) hrun hres q1.symm q2.symm
            · cases hx
          · cases hx
      · cases hx
    · cases hx
  unfold callW at hx
  split at hx
  · rename_i f hf
    split at hx
    · rename_i r hr'
      injection hx with hx; subst hx
      exact hM.known g f hf ts h t h' hr' σ c
    · exact body hx
  · exact body hx

theorem jumps_ok {N : Nat} {lv : Nat → Bool} {run : Nat → (Nat → Bool) → Code → Tr T → HS → Out} (hr : RunOK P run) {b : Code} : ∀ (k : Nat) (r : Code) (e : Tr T) (h : HS) (x : Exit) (e' : Tr T) (h' : HS), jumps (run N lv) b k (run N lv r e h) = some (x, e', h') →
    ∀ a σ, CovE a e → HCov σ h → ∀ av w μ, Inv w μ σ → RelA w μ σ N av a → SW P b r (fun y av' w' => ∃ a2 σ2 μ2, Ev w μ σ w' μ2 σ2 ∧ Inv w' μ2 σ2 ∧ RelA w' μ2 σ2 N av' a2 ∧ (y = x ∧ CovE a2 e' ∧ HCov σ2 h')) av w
  | 0, r, e, h, x, e', h', hx, a, σ, ce, c, av, w, μ, hi, hra => by simp [jumps] at hx
  | k + 1, r, e, h, x, e', h', hx, a, σ, ce, c, av, w, μ, hi, hra => by
    simp only [jumps] at hx
    cases hrun : run N lv r e h with
    | none => rw [hrun] at hx; cases hx
    | some q =>
      obtain ⟨y, e1, h1⟩ := q
      rw [hrun] at hx
      refine sw_step (wp_mono (hr _ _ _ _ _ _ _ _ hrun a σ ce c av w μ hi hra) ?_)
      rintro z av' w' ⟨a', σ', μ', k1, k2, k3, rfl, k4, k5⟩
      cases z with
      | goto l =>
        simp only [sjump]
        simp only at hx
        cases hf : findLabel b l with
        | some rest =>
          rw [hf] at hx
          simp only at hx ⊢
          refine sw_mono (jumps_ok hr k rest e1 h1 x e' h' hx a' σ' k4 k5 av' w' μ' k2 k3) ?_
          rintro y av2 w2 ⟨a2, σ2, μ2, l1, l2, l3, l4⟩
          exact ⟨a2, σ2, μ2, k1.trans l1, l2, l3, l4⟩
        | none =>
          rw [hf] at hx
          simp only at hx ⊢
          injection hx with hx; injection hx with q1 hx; injection hx with q2 q3; subst q1; subst q2; subst q3
          exact ⟨a', σ', μ', k1, k2, k3, rfl, k4, k5⟩
      | normal =>
        simp only at hx
        injection hx with hx; injection hx with q1 hx; injection hx with q2 q3; subst q1; subst q2; subst q3
        exact ⟨a', σ', μ', k1, k2, k3, rfl, k4, k5⟩
      | exit id =>
        simp only at hx
        injection hx with hx; injection hx with q1 hx; injection hx with q2 q3; subst q1; subst q2; subst q3
        exact ⟨a', σ', μ', k1, k2, k3, rfl, k4, k5⟩
      | ret =>
        simp only at hx
        injection hx with hx; injection hx with q1 hx; injection hx with q2 q3; subst q1; subst q2; subst q3
        exact ⟨a', σ', μ', k1, k2, k3, rfl, k4, k5⟩
      | panic ch =>
        simp only at hx
        injection hx with hx; injection hx with q1 hx; injection hx with q2 q3; subst q1; subst q2; subst q3
        exact ⟨a', σ', μ', k1, k2, k3, rfl, k4, k5⟩
      | outgrown =>
        simp only at hx
        injection hx with hx; injection hx with q1 hx; injection hx with q2 q3; subst q1; subst q2; subst q3
        exact ⟨a', σ', μ', k1, k2, k3, rfl, k4, k5⟩

theorem exec_ok (hM : MachOK P M) : ∀ n, RunOK P (exec M n)
  | 0 => fun N lv c e h x e' h' hx => by simp [exec] at hx
  | n + 1 => by
    have ih := exec_ok hM n
    have hcall := callW_ok hM ih
    intro N lv c e h x e' h' hx a σ ce cv
    have ce' := ce
    cases c with
    | skip => simp only [exec] at hx; injection hx with hx; injection hx with q1 hx; injection hx with q2 q3; subst q1; subst q2; subst q3; exact aw_skip ⟨rfl, ce, cv⟩
    | label l => simp only [exec] at hx; injection hx with hx; injection hx with q1 hx; injection hx with q2 q3; subst q1; subst q2; subst q3; exact aw_label ⟨rfl, ce, cv⟩
    | exit l => simp only [exec] at hx; injection hx with hx; injection hx with q1 hx; injection hx with q2 q3; subst q1; subst q2; subst q3; exact aw_exit ⟨rfl, ce, cv⟩
    | goto l => simp only [exec] at hx; injection hx with hx; injection hx with q1 hx; injection hx with q2 q3; subst q1; subst q2; subst q3; exact aw_goto ⟨rfl, ce, cv⟩
    | ret => simp only [exec] at hx; injection hx with hx; injection hx with q1 hx; injection hx with q2 q3; subst q1; subst q2; subst q3; exact aw_ret ⟨rfl, ce, cv⟩
    | region id ops draw =>
      simp only [exec] at hx
      split at hx
      · rename_i e1 h1 hrun
        injection hx with hx; injection hx with q1 hx; injection hx with q2 q3; subst q1; subst q2; subst q3
        obtain ⟨os⟩ := ops
        cases draw with
        | true =>
          rw [cond_true] at hrun
          exact aw_drawX hM.mix hM.fits hcall hrun ce cv
        | false =>
          rw [cond_false] at hrun
          refine aw_region ?_
          have := runOps_sound hM.fits hcall os 0 e h e1 h1 a σ hrun rfl ce cv
          rwa [show List.range' 0 os.length = List.range (⟨os⟩ : Array Oper).size by rw [List.range_eq_range']; rfl] at this
      · cases hx
    | seq p q =>
      simp only [exec] at hx
      refine aw_seq ?_
      cases hp : exec M n N lv p e h with
      | none => rw [hp] at hx; cases hx
      | some r =>
        obtain ⟨y, e1, h1⟩ := r
        rw [hp] at hx
        refine (ih _ _ _ _ _ _ _ _ hp a σ ce cv).mono ?_
        rintro z a' σ' ⟨rfl, k1, k2⟩
        cases z with
        | normal => exact ih _ _ _ _ _ _ _ _ hx a' σ' k1 k2
        | exit id => simp only at hx; injection hx with hx; injection hx with q1 hx; injection hx with q2 q3; subst q1; subst q2; subst q3; exact ⟨rfl, k1, k2⟩
        | goto id => simp only at hx; injection hx with hx; injection hx with q1 hx; injection hx with q2 q3; subst q1; subst q2; subst q3; exact ⟨rfl, k1, k2⟩
        | ret => simp only at hx; injection hx with hx; injection hx with q1 hx; injection hx with q2 q3; subst q1; subst q2; subst q3; exact ⟨rfl, k1, k2⟩
        | panic id => simp only at hx; injection hx with hx; injection hx with q1 hx; injection hx with q2 q3; subst q1; subst q2; subst q3; exact ⟨rfl, k1, k2⟩
        | outgrown => simp only at hx; injection hx with hx; injection hx with q1 hx; injection hx with q2 q3; subst q1; subst q2; subst q3; exact ⟨rfl, k1, k2⟩
    | cond cc p q =>
      simp only [exec] at hx
      split at hx
      · rename_i t ht
        exact aw_cond (ce.ev ht) (ih _ _ _ _ _ _ _ _ hx a σ ce cv)
      · cases hx
    | block id b =>
      simp only [exec] at hx
      refine aw_block ?_
      cases hp : exec M n N lv b e h with
      | none => rw [hp] at hx; cases hx
      | some r =>
        obtain ⟨y, e1, h1⟩ := r
        rw [hp] at hx
        refine (ih _ _ _ _ _ _ _ _ hp a σ ce cv).mono ?_
        rintro z a' σ' ⟨rfl, k1, k2⟩
        cases z with
        | exit id' =>
          simp only at hx
          simp only [inBlockA]
          cases hb : Nat.beq id' id with
          | true => rw [hb] at hx; simp only [cond_true] at hx ⊢; injection hx with hx; injection hx with q1 hx; injection hx with q2 q3; subst q1; subst q2; subst q3; exact ⟨rfl, k1, k2⟩
          | false => rw [hb] at hx; simp only [cond_false] at hx ⊢; injection hx with hx; injection hx with q1 hx; injection hx with q2 q3; subst q1; subst q2; subst q3; exact ⟨rfl, k1, k2⟩
        | normal => simp only at hx; injection hx with hx; injection hx with q1 hx; injection hx with q2 q3; subst q1; subst q2; subst q3; exact ⟨rfl, k1, k2⟩
        | goto id => simp only at hx; injection hx with hx; injection hx with q1 hx; injection hx with q2 q3; subst q1; subst q2; subst q3; exact ⟨rfl, k1, k2⟩
        | ret => simp only at hx; injection hx with hx; injection hx with q1 hx; injection hx with q2 q3; subst q1; subst q2; subst q3; exact ⟨rfl, k1, k2⟩
        | panic id => simp only at hx; injection hx with hx; injection hx with q1 hx; injection hx with q2 q3; subst q1; subst q2; subst q3; exact ⟨rfl, k1, k2⟩
        | outgrown => simp only at hx; injection hx with hx; injection hx with q1 hx; injection hx with q2 q3; subst q1; subst q2; subst q3; exact ⟨rfl, k1, k2⟩
    | loop b =>
      simp only [exec] at hx
      intro av w μ hi hra
      refine loop_of_lw ?_
      -- as often as there is fuel
      have key : ∀ m, m ≤ n → ∀ e h, (match exec M m N lv b e h with
          | some (.normal, e', h') => exec M m N lv (.loop b) e' h'
          | r => r) = some (x, e', h') → ∀ a σ, CovE a e → HCov σ h → ∀ av w μ, Inv w μ σ → RelA w μ σ N av a →
          LW P b (fun y av' w' => ∃ a2 σ2 μ2, Ev w μ σ w' μ2 σ2 ∧ Inv w' μ2 σ2 ∧ RelA w' μ2 σ2 N av' a2 ∧ (y = x ∧ CovE a2 e' ∧ HCov σ2 h')) av w := by
        intro m
        induction m with
        | zero => intro hm e h hx; simp [exec] at hx
        | succ m ihm =>
          intro hm e h hx a σ ce cv
          refine aw_loop_unfold ?_
          cases hp : exec M (m + 1) N lv b e h with
          | none => rw [hp] at hx; cases hx
          | some r =>
            obtain ⟨y, e1, h1⟩ := r
            rw [hp] at hx
            have ihb : RunOK P (exec M (m + 1)) := by
              by_cases hmn : m + 1 = n
              · rw [hmn]; exact ih
              · exact exec_ok hM (m + 1)
            refine (ihb _ _ _ _ _ _ _ _ hp a σ ce cv).mono ?_
            rintro z a' σ' ⟨rfl, k1, k2⟩
            cases z with
            | normal =>
              simp only [exec] at hx
              exact ihm (by omega) e1 h1 hx a' σ' k1 k2
            | exit id => simp only at hx; injection hx with hx; injection hx with q1 hx; injection hx with q2 q3; subst q1; subst q2; subst q3; exact ⟨rfl, k1, k2⟩
            | goto id => simp only at hx; injection hx with hx; injection hx with q1 hx; injection hx with q2 q3; subst q1; subst q2; subst q3; exact ⟨rfl, k1, k2⟩
            | ret => simp only at hx; injection hx with hx; injection hx with q1 hx; injection hx with q2 q3; subst q1; subst q2; subst q3; exact ⟨rfl, k1, k2⟩
            | panic id => simp only at hx; injection hx with hx; injection hx with q1 hx; injection hx with q2 q3; subst q1; subst q2; subst q3; exact ⟨rfl, k1, k2⟩
            | outgrown => simp only at hx; injection hx with hx; injection hx with q1 hx; injection hx with q2 q3; subst q1; subst q2; subst q3; exact ⟨rfl, k1, k2⟩
      exact key n (Nat.le_refl _) e h hx a σ ce cv av w μ hi hra
    | scope b =>
      simp only [exec] at hx
      intro av w μ hi hra
      exact scope_of_sw (jumps_ok ih n b e h x e' h' hx a σ ce cv av w μ hi hra)
    | rangeFunc f ps as b => simp only [exec] at hx; cases hx
    | refuse why => simp only [exec] at hx; cases hx
termination_by n => n

theorem callX_ok (hM : MachOK P M) (n : Nat) : CallsOK P (callX M n) := callW_ok hM (exec_ok hM n)

/-- No things, no rooms. -/
def hs0 : HS := ⟨.leaf, .leaf, 0⟩
theorem hs0_cov : HCov ⟨[], [], fun _ _ => False, some 0⟩ hs0 := ⟨fun i n zn z ov h => by simp [hs0, Tr.get] at h, fun i es h => by simp [hs0, Tr.get] at h, fun k u h => by simp [hs0, Tr.get] at h, rfl⟩
/-- A function without arguments that can be run. -/
theorem run_law (hM : MachOK P M) {n : Nat} {f : FuncId} (h : (match callX M n f [] hs0 with | some (.bool true, _) => true | _ => false) = true) : ACalls P f [] σ0 (fun r _ => r = .bool true) := by
  obtain ⟨h', hx⟩ : ∃ h', callX M n f [] hs0 = some (.bool true, h') := by
    revert h
    cases callX M n f [] hs0 with
    | none => intro h; cases h
    | some q =>
      obtain ⟨t, h'⟩ := q
      cases t with
      | bool b => cases b with
        | true => intro _; exact ⟨h', rfl⟩
        | false => intro h; cases h
      | _ => intro h; cases h
  obtain ⟨h1, h2⟩ := callX_ok hM n f [] hs0 _ h' hx _ hs0_cov
  refine ⟨h1, fun vs w μ hi hn hr => ?_⟩
  have hi' : Inv w ⟨fun _ => none, fun _ => none⟩ ⟨[], [], fun _ _ => False, some 0⟩ := by
    refine ⟨fun i ts h => by simp at h, fun i es h => by simp at h, fun n m i j x y b p q h => by simp at h, fun k h => by simp at h, fun n m k l b f t g u h => by simp at h, ⟨0, fun i _ => ⟨rfl, rfl⟩, fun m hm => by injection hm with hm; exact hm.symm⟩, fun b o h => h.elim, fun i ob b p h => by simp at h⟩
  refine (h2 vs w _ hi' hn (fun j t v h => by simp at h)).mono ?_
  rintro e w' ⟨v, t, σ', μ', rfl, ev, hi2, rv, rfl, _⟩
  have noL : ∀ b, ¬ Live μ σ0 b := by
    rintro b (⟨i, ob, p, h, _⟩ | ⟨k, f, t, h, _⟩) <;> simp [σ0] at h
  have noL' : ∀ b, ¬ Live ⟨fun _ => none, fun _ => none⟩ ⟨[], [], fun _ _ => False, some 0⟩ b := by
    rintro b (⟨i, ob, p, h, _⟩ | ⟨k, f, t, h, _⟩) <;> simp at h
  refine ⟨v, _, σ0, μ, rfl, ⟨ev.below, fun _ _ h => h, fun _ _ h => h, rfl, ev.shape, fun b hb hl => ⟨noL b, (ev.live b hb (noL' b)).2⟩, fun b o him => ?_⟩, ?_, ?_, rfl⟩
  · obtain ⟨k1, k2⟩ := ev.imm b o ⟨him.lt, fun h => h, fun i ob p h => by simp at h, fun k f t h => by simp at h⟩
    exact ⟨⟨k1.lt, fun h => h, fun i ob p h => by simp [σ0] at h, fun k f t h => by simp [σ0] at h⟩, k2⟩
  · obtain ⟨n, hn1, _⟩ := hi.fin
    exact ⟨fun i ts h => by simp [σ0] at h, fun i es h => by simp [σ0] at h, fun n m i j x y b p q h => by simp [σ0] at h, fun k h => by simp [σ0] at h, fun n m k l b f t g u h => by simp [σ0] at h, ⟨n, hn1, fun m hm => by simp [σ0] at hm⟩, fun b o h => h.elim, fun i ob b p h => by simp [σ0] at h⟩
  · cases rv; exact .bool _
end
end Go.Ts
