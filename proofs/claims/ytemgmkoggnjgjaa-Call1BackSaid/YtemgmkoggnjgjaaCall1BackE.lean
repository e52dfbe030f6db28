/- Part of the proof of the law Call1Back: the texts TsXG, TsXH, XM1, TsXI, XK1, XM2, TsXJ, TsJ, P4, MU, LC, P6, P7, P8, PP, Q1. No conditions. -/
import Derived.Test.YtemgmkoggnjgjaaCall1BackD
import Derived.KernelRfl
set_option linter.unusedSimpArgs false
set_option linter.unusedVariables false
set_option linter.unusedVariables false
set_option linter.unusedSimpArgs false
namespace Go.Ts

structure Mach where
  G : Nat → Option TI
  F : Tr Func
  live : FuncId → Nat → Bool
  known : FuncId → Option (List T → HS → Option (T × HS))

abbrev Out := Option (Exit × Tr T × HS)
def jumps (run : Code → Tr T → HS → Out) (b : Code) : Nat → Out → Out
  | 0, _ => none
  | k + 1, r => match r with
    | some (.goto l, e, h) => match findLabel b l with
      | some rest => jumps run b k (run rest e h)
      | none => r
    | _ => r
def resX (G : Nat → Option TI) (e : Tr T) (h : HS) : List ResultVar → Option (List T)
  | [] => some []
  | .tmp x :: rs => match e.get x, resX G e h rs with
    | some t, some ts => some (t :: ts)
    | _, _ => none
  | .cell x ty :: rs => match e.get x, resX G e h rs with
    | some (.ptr i o), some ts => match readX G h ty i o with
      | some t => some (t :: ts)
      | none => none
    | _, _ => none
def callB (M : Mach) (run : Nat → (Nat → Bool) → Code → Tr T → HS → Out) (g : FuncId) (ts : List T) (h : HS) : Option (T × HS) :=
  match M.F.get g with
  | some fn => match fn.body with
    | some c => cond (Nat.ble ts.length fn.ntmps) (match run fn.ntmps (M.live g) c (Tr.of ts) h with
      | some (.ret, e', h') => match resX M.G e' h' fn.results.toList with
        | some us => some (tup1 us, h')
        | none => none
      | some (.normal, e', h') => match resX M.G e' h' fn.results.toList with
        | some us => some (tup1 us, h')
        | none => none
      | _ => none) none
    | none => none
  | none => none
def callW (M : Mach) (run : Nat → (Nat → Bool) → Code → Tr T → HS → Out) (g : FuncId) (ts : List T) (h : HS) : Option (T × HS) :=
  match M.known g with
  | some f => match f ts h with
    | some r => some r
    | none => callB M run g ts h
  | none => callB M run g ts h
def exec (M : Mach) : Nat → Nat → (Nat → Bool) → Code → Tr T → HS → Out
  | 0, _, _, _, _, _ => none
  | n + 1, N, lv, c, e, h => match c with
    | .skip => some (.normal, e, h)
    | .label _ => some (.normal, e, h)
    | .exit id => some (.exit id, e, h)
    | .goto l => some (.goto l, e, h)
    | .ret => some (.ret, e, h)
    | .region _ ops draw => match cond draw (drawX M.G lv (callW M (exec M n)) N ops.toList e h) (runOps M.G lv (callW M (exec M n)) ops.toList N ops.toList e h) with
      | some (e', h') => some (.normal, e', h')
      | none => none
    | .seq a b => match exec M n N lv a e h with
      | some (.normal, e', h') => exec M n N lv b e' h'
      | r => r
    | .cond c a b => match evX e c with
      | some (.bool t) => exec M n N lv (cond t a b) e h
      | _ => none
    | .block id b => match exec M n N lv b e h with
      | some (.exit id', e', h') => cond (Nat.beq id' id) (some (.normal, e', h')) (some (.exit id', e', h'))
      | r => r
    | .loop b => match exec M n N lv b e h with
      | some (.normal, e', h') => exec M n N lv (.loop b) e' h'
      | r => r
    | .scope b => jumps (exec M n N lv) b n (exec M n N lv b e h)
    | _ => none
def callX (M : Mach) (n : Nat) : CallF := callW M (exec M n)

structure MachOK (P : Program) (M : Mach) : Prop where
  mix : P.follows .mixedOrders = true
  fits : Fits P M.G
  func : ∀ f fn, M.F.get f = some fn → P.funcs[f]? = some fn ∧ (fn.name == "runtime.NumGoroutine") = false
  known : ∀ g f, M.known g = some f → ∀ ts h t h', f ts h = some (t, h') → ∀ σ, HCov σ h → ACalls P g ts σ (fun u σ' => u = t ∧ HCov σ' h')

section
variable {P : Program} {M : Mach}

def RunOK (P : Program) (run : Nat → (Nat → Bool) → Code → Tr T → HS → Out) : Prop :=
  ∀ N lv c e h x e' h', run N lv c e h = some (x, e', h') → ∀ a σ, CovE a e → HCov σ h → AW P N c (fun y a' σ' => y = x ∧ CovE a' e' ∧ HCov σ' h') a σ

theorem envOf_at : ∀ (ts : List T) (i j : Nat) (t : T), ts[j]? = some t → get (envOf i ts) (i + j) = some t
  | [], i, j, t, h => by simp at h
  | u :: ts, i, 0, t, h => by simp at h; subst h; simp [envOf, get]
  | u :: ts, i, j + 1, t, h => by
    simp only [envOf, get]
    rw [beqF (by omega), cond_false, show i + (j + 1) = i + 1 + j by omega]
    exact envOf_at ts (i + 1) j t (by simpa using h)
theorem resX_ok {G : Nat → Option TI} {a : Env} {e : Tr T} {σ : St} {h : HS} (ce : CovE a e) (c : HCov σ h) : ∀ (rs : List ResultVar) (ts : List T), resX G e h rs = some ts → ResRs G a σ rs ts
  | [], ts, hx => by simp [resX] at hx; subst hx; rfl
  | .tmp x :: rs, ts, hx => by
    simp only [resX] at hx
    split at hx
    · rename_i t us h1 h2
      injection hx with hx; subst hx
      exact ⟨t, us, ce _ _ h1, resX_ok ce c rs us h2, rfl⟩
    · cases hx
  | .cell x ty :: rs, ts, hx => by
    simp only [resX] at hx
    split at hx
    · rename_i i o us h1 h2
      split at hx
      · rename_i t ht
        injection hx with hx; subst hx
        obtain ⟨us', k1, k2⟩ := readX_ok c ht
        obtain ⟨n, hn⟩ := List.getElem?_of_mem k1
        exact ⟨t, us, ⟨n, i, o, us', ce _ _ h1, hn, k2⟩, resX_ok ce c rs us h2, rfl⟩
      · cases hx
    · cases hx
theorem callW_ok (hM : MachOK P M) {run : Nat → (Nat → Bool) → Code → Tr T → HS → Out} (hr : RunOK P run) : CallsOK P (callW M run) := by
  intro g ts h t h' hx σ c
  have body : callB M run g ts h = some (t, h') → ACalls P g ts σ (fun u σ' => u = t ∧ HCov σ' h') := by
    intro hx
    unfold callB at hx
    split at hx
    · rename_i fn hfn
      obtain ⟨hf1, hf2⟩ := hM.func g fn hfn
      split at hx
      · rename_i b hb
        cases hl : Nat.ble ts.length fn.ntmps with
        | false => rw [hl] at hx; cases hx
        | true =>
          rw [hl, cond_true] at hx
          have fin : ∀ (x : Exit) (e' : Tr T) (h2 : HS) (us : List T), (x = .ret ∨ x = .normal) → run fn.ntmps (M.live g) b (Tr.of ts) h = some (x, e', h2) → resX M.G e' h2 fn.results.toList = some us → t = tup1 us → h' = h2 → ACalls P g ts σ (fun u σ' => u = t ∧ HCov σ' h') := by
            intro x e' h2 us hxx hrun hres ht hh
            subst ht; subst hh
            refine A5 hM.fits hf1 hb rfl rfl hf2 hl ?_
            have := hr _ _ _ _ _ _ _ _ hrun (envOf 0 ts) σ (fun i t hi => by have := envOf_at ts 0 i t (Tr.get_of hi); simpa using this) c
            refine this.mono ?_
            rintro y a' σ' ⟨rfl, k1, k2⟩
            have hrs := resX_ok k1 k2 _ _ hres
            rcases hxx with rfl | rfl
            · exact ⟨us, hrs, (Conv.wk (Wk.refl _)).cr ⟨rfl, k2⟩⟩
            · exact ⟨us, hrs, (Conv.wk (Wk.refl _)).cr ⟨rfl, k2⟩⟩
          split at hx
          · rename_i e' h2 hrun
            split at hx
            · rename_i us hres
              injection hx with hx; injection hx with q1 q2
              exact fin _ _ _ us (.inl rfl) hrun hres q1.symm q2.symm
            · cases hx
          · rename_i e' h2 hrun
            split at hx
            · rename_i us hres
              injection hx with hx; injection hx with q1 q2
              exact fin _ _ _ us (.inr rfl) hrun hres q1.symm q2.symm
            · cases hx
          · cases hx
      · cases hx
    · cases hx
  unfold callW at hx
  split at hx
  · rename_i f hf
    split at hx
    · rename_i r hr'
      injection hx with hx; subst hx
      exact hM.known g f hf ts h t h' hr' σ c
    · exact body hx
  · exact body hx

theorem jumps_ok {N : Nat} {lv : Nat → Bool} {run : Nat → (Nat → Bool) → Code → Tr T → HS → Out} (hr : RunOK P run) {b : Code} : ∀ (k : Nat) (r : Code) (e : Tr T) (h : HS) (x : Exit) (e' : Tr T) (h' : HS), jumps (run N lv) b k (run N lv r e h) = some (x, e', h') →
    ∀ a σ, CovE a e → HCov σ h → ∀ av w μ, Inv w μ σ → RelA w μ σ N av a → SW P b r (fun y av' w' => ∃ a2 σ2 μ2, Ev w μ σ w' μ2 σ2 ∧ Inv w' μ2 σ2 ∧ RelA w' μ2 σ2 N av' a2 ∧ (y = x ∧ CovE a2 e' ∧ HCov σ2 h')) av w
  | 0, r, e, h, x, e', h', hx, a, σ, ce, c, av, w, μ, hi, hra => by simp [jumps] at hx
  | k + 1, r, e, h, x, e', h', hx, a, σ, ce, c, av, w, μ, hi, hra => by
    simp only [jumps] at hx
    cases hrun : run N lv r e h with
    | none => rw [hrun] at hx; cases hx
    | some q =>
      obtain ⟨y, e1, h1⟩ := q
      rw [hrun] at hx
      refine sw_step (wp_mono (hr _ _ _ _ _ _ _ _ hrun a σ ce c av w μ hi hra) ?_)
      rintro z av' w' ⟨a', σ', μ', k1, k2, k3, rfl, k4, k5⟩
      cases z with
      | goto l =>
        simp only [sjump]
        simp only at hx
        cases hf : findLabel b l with
        | some rest =>
          rw [hf] at hx
          simp only at hx ⊢
          refine sw_mono (jumps_ok hr k rest e1 h1 x e' h' hx a' σ' k4 k5 av' w' μ' k2 k3) ?_
          rintro y av2 w2 ⟨a2, σ2, μ2, l1, l2, l3, l4⟩
          exact ⟨a2, σ2, μ2, k1.trans l1, l2, l3, l4⟩
        | none =>
          rw [hf] at hx
          simp only at hx ⊢
          injection hx with hx; injection hx with q1 hx; injection hx with q2 q3; subst q1; subst q2; subst q3
          exact ⟨a', σ', μ', k1, k2, k3, rfl, k4, k5⟩
      | normal =>
        simp only at hx
        injection hx with hx; injection hx with q1 hx; injection hx with q2 q3; subst q1; subst q2; subst q3
        exact ⟨a', σ', μ', k1, k2, k3, rfl, k4, k5⟩
      | exit id =>
        simp only at hx
        injection hx with hx; injection hx with q1 hx; injection hx with q2 q3; subst q1; subst q2; subst q3
        exact ⟨a', σ', μ', k1, k2, k3, rfl, k4, k5⟩
      | ret =>
        simp only at hx
        injection hx with hx; injection hx with q1 hx; injection hx with q2 q3; subst q1; subst q2; subst q3
        exact ⟨a', σ', μ', k1, k2, k3, rfl, k4, k5⟩
      | panic ch =>
        simp only at hx
        injection hx with hx; injection hx with q1 hx; injection hx with q2 q3; subst q1; subst q2; subst q3
        exact ⟨a', σ', μ', k1, k2, k3, rfl, k4, k5⟩
      | outgrown =>
        simp only at hx
        injection hx with hx; injection hx with q1 hx; injection hx with q2 q3; subst q1; subst q2; subst q3
        exact ⟨a', σ', μ', k1, k2, k3, rfl, k4, k5⟩

theorem exec_ok (hM : MachOK P M) : ∀ n, RunOK P (exec M n)
  | 0 => fun N lv c e h x e' h' hx => by simp [exec] at hx
  | n + 1 => by
    have ih := exec_ok hM n
    have hcall := callW_ok hM ih
    intro N lv c e h x e' h' hx a σ ce cv
    have ce' := ce
    cases c with
    | skip => simp only [exec] at hx; injection hx with hx; injection hx with q1 hx; injection hx with q2 q3; subst q1; subst q2; subst q3; exact Ag ⟨rfl, ce, cv⟩
    | label l => simp only [exec] at hx; injection hx with hx; injection hx with q1 hx; injection hx with q2 q3; subst q1; subst q2; subst q3; exact aw_label ⟨rfl, ce, cv⟩
    | exit l => simp only [exec] at hx; injection hx with hx; injection hx with q1 hx; injection hx with q2 q3; subst q1; subst q2; subst q3; exact Bx ⟨rfl, ce, cv⟩
    | goto l => simp only [exec] at hx; injection hx with hx; injection hx with q1 hx; injection hx with q2 q3; subst q1; subst q2; subst q3; exact Bz ⟨rfl, ce, cv⟩
    | ret => simp only [exec] at hx; injection hx with hx; injection hx with q1 hx; injection hx with q2 q3; subst q1; subst q2; subst q3; exact Av ⟨rfl, ce, cv⟩
    | region id ops draw =>
      simp only [exec] at hx
      split at hx
      · rename_i e1 h1 hrun
        injection hx with hx; injection hx with q1 hx; injection hx with q2 q3; subst q1; subst q2; subst q3
        obtain ⟨os⟩ := ops
        cases draw with
        | true =>
          rw [cond_true] at hrun
          exact aw_drawX hM.mix hM.fits hcall hrun ce cv
        | false =>
          rw [cond_false] at hrun
          refine aw_region ?_
          have := runOps_sound hM.fits hcall os 0 e h e1 h1 a σ hrun rfl ce cv
          rwa [show List.range' 0 os.length = List.range (⟨os⟩ : Array Oper).size by rw [List.range_eq_range']; rfl] at this
      · cases hx
    | seq p q =>
      simp only [exec] at hx
      refine aw_seq ?_
      cases hp : exec M n N lv p e h with
      | none => rw [hp] at hx; cases hx
      | some r =>
        obtain ⟨y, e1, h1⟩ := r
        rw [hp] at hx
        refine (ih _ _ _ _ _ _ _ _ hp a σ ce cv).mono ?_
        rintro z a' σ' ⟨rfl, k1, k2⟩
        cases z with
        | normal => exact ih _ _ _ _ _ _ _ _ hx a' σ' k1 k2
        | exit id => simp only at hx; injection hx with hx; injection hx with q1 hx; injection hx with q2 q3; subst q1; subst q2; subst q3; exact ⟨rfl, k1, k2⟩
        | goto id => simp only at hx; injection hx with hx; injection hx with q1 hx; injection hx with q2 q3; subst q1; subst q2; subst q3; exact ⟨rfl, k1, k2⟩
        | ret => simp only at hx; injection hx with hx; injection hx with q1 hx; injection hx with q2 q3; subst q1; subst q2; subst q3; exact ⟨rfl, k1, k2⟩
        | panic id => simp only at hx; injection hx with hx; injection hx with q1 hx; injection hx with q2 q3; subst q1; subst q2; subst q3; exact ⟨rfl, k1, k2⟩
        | outgrown => simp only at hx; injection hx with hx; injection hx with q1 hx; injection hx with q2 q3; subst q1; subst q2; subst q3; exact ⟨rfl, k1, k2⟩
    | cond cc p q =>
      simp only [exec] at hx
      split at hx
      · rename_i t ht
        exact aw_cond (ce.ev ht) (ih _ _ _ _ _ _ _ _ hx a σ ce cv)
      · cases hx
    | block id b =>
      simp only [exec] at hx
      refine aw_block ?_
      cases hp : exec M n N lv b e h with
      | none => rw [hp] at hx; cases hx
      | some r =>
        obtain ⟨y, e1, h1⟩ := r
        rw [hp] at hx
        refine (ih _ _ _ _ _ _ _ _ hp a σ ce cv).mono ?_
        rintro z a' σ' ⟨rfl, k1, k2⟩
        cases z with
        | exit id' =>
          simp only at hx
          simp only [Aa]
          cases hb : Nat.beq id' id with
          | true => rw [hb] at hx; simp only [cond_true] at hx ⊢; injection hx with hx; injection hx with q1 hx; injection hx with q2 q3; subst q1; subst q2; subst q3; exact ⟨rfl, k1, k2⟩
          | false => rw [hb] at hx; simp only [cond_false] at hx ⊢; injection hx with hx; injection hx with q1 hx; injection hx with q2 q3; subst q1; subst q2; subst q3; exact ⟨rfl, k1, k2⟩
        | normal => simp only at hx; injection hx with hx; injection hx with q1 hx; injection hx with q2 q3; subst q1; subst q2; subst q3; exact ⟨rfl, k1, k2⟩
        | goto id => simp only at hx; injection hx with hx; injection hx with q1 hx; injection hx with q2 q3; subst q1; subst q2; subst q3; exact ⟨rfl, k1, k2⟩
        | ret => simp only at hx; injection hx with hx; injection hx with q1 hx; injection hx with q2 q3; subst q1; subst q2; subst q3; exact ⟨rfl, k1, k2⟩
        | panic id => simp only at hx; injection hx with hx; injection hx with q1 hx; injection hx with q2 q3; subst q1; subst q2; subst q3; exact ⟨rfl, k1, k2⟩
        | outgrown => simp only at hx; injection hx with hx; injection hx with q1 hx; injection hx with q2 q3; subst q1; subst q2; subst q3; exact ⟨rfl, k1, k2⟩
    | loop b =>
      simp only [exec] at hx
      intro av w μ hi hra
      refine loop_of_lw ?_
      -- as often as there is fuel
      have key : ∀ m, m ≤ n → ∀ e h, (match exec M m N lv b e h with
          | some (.normal, e', h') => exec M m N lv (.loop b) e' h'
          | r => r) = some (x, e', h') → ∀ a σ, CovE a e → HCov σ h → ∀ av w μ, Inv w μ σ → RelA w μ σ N av a →
          LW P b (fun y av' w' => ∃ a2 σ2 μ2, Ev w μ σ w' μ2 σ2 ∧ Inv w' μ2 σ2 ∧ RelA w' μ2 σ2 N av' a2 ∧ (y = x ∧ CovE a2 e' ∧ HCov σ2 h')) av w := by
        intro m
        induction m with
        | zero => intro hm e h hx; simp [exec] at hx
        | succ m ihm =>
          intro hm e h hx a σ ce cv
          refine aw_loop_unfold ?_
          cases hp : exec M (m + 1) N lv b e h with
          | none => rw [hp] at hx; cases hx
          | some r =>
            obtain ⟨y, e1, h1⟩ := r
            rw [hp] at hx
            have ihb : RunOK P (exec M (m + 1)) := by
              by_cases hmn : m + 1 = n
              · rw [hmn]; exact ih
              · exact exec_ok hM (m + 1)
            refine (ihb _ _ _ _ _ _ _ _ hp a σ ce cv).mono ?_
            rintro z a' σ' ⟨rfl, k1, k2⟩
            cases z with
            | normal =>
              simp only [exec] at hx
              exact ihm (by omega) e1 h1 hx a' σ' k1 k2
            | exit id => simp only at hx; injection hx with hx; injection hx with q1 hx; injection hx with q2 q3; subst q1; subst q2; subst q3; exact ⟨rfl, k1, k2⟩
            | goto id => simp only at hx; injection hx with hx; injection hx with q1 hx; injection hx with q2 q3; subst q1; subst q2; subst q3; exact ⟨rfl, k1, k2⟩
            | ret => simp only at hx; injection hx with hx; injection hx with q1 hx; injection hx with q2 q3; subst q1; subst q2; subst q3; exact ⟨rfl, k1, k2⟩
            | panic id => simp only at hx; injection hx with hx; injection hx with q1 hx; injection hx with q2 q3; subst q1; subst q2; subst q3; exact ⟨rfl, k1, k2⟩
            | outgrown => simp only at hx; injection hx with hx; injection hx with q1 hx; injection hx with q2 q3; subst q1; subst q2; subst q3; exact ⟨rfl, k1, k2⟩
      exact key n (Nat.le_refl _) e h hx a σ ce cv av w μ hi hra
    | scope b =>
      simp only [exec] at hx
      intro av w μ hi hra
      exact scope_of_sw (jumps_ok ih n b e h x e' h' hx a σ ce cv av w μ hi hra)
    | rangeFunc f ps aa b => simp only [exec] at hx; cases hx
    | refuse why => simp only [exec] at hx; cases hx
termination_by n => n

theorem callX_ok (hM : MachOK P M) (n : Nat) : CallsOK P (callX M n) := callW_ok hM (exec_ok hM n)

def hs0 : HS := ⟨.leaf, .leaf, 0⟩
end
end Go.Ts
set_option linter.unusedVariables false
namespace Go.Ts
def tabG (t : Tr (Option TI)) (i : Nat) : Option TI := match t.get i with
  | some x => x
  | none => none
theorem tabG_fits {P : Program} {L : List (Option TI)} (h : Fits P (tab L)) : Fits P (tabG (Tr.of L)) := by
  intro t i ht
  refine h t i ?_
  unfold tabG at ht
  split at ht
  · rename_i x hx
    unfold tab; rw [Tr.get_of hx]; exact ht
  · cases ht
def namesOK : List Func → Bool
  | [] => true
  | f :: fs => !(f.name == "runtime.NumGoroutine") && namesOK fs
theorem namesOK_at : ∀ {l : List Func} {i : Nat} {f : Func}, namesOK l = true → l[i]? = some f → (f.name == "runtime.NumGoroutine") = false
  | [], i, f, _, h => by simp at h
  | g :: l, 0, f, hn, h => by
    simp at h; subst h
    simp only [namesOK, Bool.and_eq_true, Bool.not_eq_true'] at hn; exact hn.1
  | g :: l, i + 1, f, hn, h => by
    simp only [namesOK, Bool.and_eq_true] at hn
    exact namesOK_at hn.2 (by simpa using h)
theorem func_ok {P : Program} (hn : namesOK P.funcs.toList = true) (f : FuncId) (fn : Func) (h : (Tr.of P.funcs.toList).get f = some fn) : P.funcs[f]? = some fn ∧ (fn.name == "runtime.NumGoroutine") = false := by
  have h1 := Tr.get_of h
  exact ⟨by simpa using h1, namesOK_at hn h1⟩
end Go.Ts
namespace Go.Proofs.Ytemgmkoggnjgjaa
open Go.Ts
noncomputable def GT : Tr (Option TI) := Tr.of L
noncomputable def FT : Tr Func := Tr.of Try.prog.funcs.toList
noncomputable def mach (live : FuncId → Nat → Bool) (known : FuncId → Option (List T → HS → Option (T × HS))) : Mach := ⟨tabG GT, FT, live, known⟩
theorem names_ok : namesOK Try.prog.funcs.toList = true := by kernel_rfl
set_option maxRecDepth 100000 in
theorem mach_ok (live : FuncId → Nat → Bool) {known : FuncId → Option (List T → HS → Option (T × HS))} (hk : ∀ g f, known g = some f → ∀ ts h t h', f ts h = some (t, h') → ∀ σ, HCov σ h → ACalls Try.prog g ts σ (fun u σ' => u = t ∧ HCov σ' h')) :
    MachOK Try.prog (mach live known) := ⟨by kernel_rfl, tabG_fits hG, func_ok names_ok, hk⟩
def noLive (_ : FuncId) (_ : Nat) : Bool := false
end Go.Proofs.Ytemgmkoggnjgjaa
set_option linter.unusedVariables false
set_option linter.unusedSimpArgs false
namespace Go.Ts
mutual
def dataT : T → Bool
  | .ptr _ _ | .ro _ _ | .aref .. | .map (some _) | .fn _ _ | .bnd _ _ => false
  | .sl _ (.tok _) _ => false
  | .sl _ _ xs => dataTs xs
  | .agg xs => dataTs xs
  | .tup xs => dataTs xs
  | _ => true
def dataTs : List T → Bool
  | [] => true
  | x :: xs => dataT x && dataTs xs
end
theorem dataTs_get : ∀ {xs : List T} {i : Nat} {x : T}, dataTs xs = true → xs[i]? = some x → dataT x = true
  | [], i, x, _, h => by simp at h
  | y :: xs, 0, x, hd, h => by
    simp at h; subst h; simp only [dataTs, Bool.and_eq_true] at hd; exact hd.1
  | y :: xs, i + 1, x, hd, h => by
    simp only [dataTs, Bool.and_eq_true] at hd; exact dataTs_get hd.2 (by simpa using h)
theorem dataT_cells {x c : T} {j : Nat} (hd : dataT x = true) (h : x.cells[j]? = some c) : dataT c = true := by
  cases x with
  | agg cs => exact dataTs_get (show dataTs cs = true by simpa [dataT] using hd) h
  | _ =>
    cases j with
    | zero => simp [T.cells] at h; subst h; exact hd
    | succ j => simp [T.cells] at h
theorem rel_data {w w' : World} {μ μ' : Gh} {σ σ' : St} {v : Value} {t : T} (h : Rel w μ σ v t) (hd : dataT t = true) (im : ∀ b o, Imm w μ σ b o → Imm w' μ' σ' b o ∧ w'.cell? ⟨b, o, none⟩ = w.cell? ⟨b, o, none⟩) : Rel w' μ' σ' v t := by
  induction h with
  | bool b => exact .bool b
  | int k n => exact .int k n
  | flt k n => exact .flt k n
  | cplx k m n => exact .cplx k m n
  | str s => exact .str s
  | nilp => exact .nilp
  | ptr i b p o h => simp [dataT] at hd
  | ro b p o x h r ih => simp [dataT] at hd
  | nilsl => exact .nilsl
  | slnil sz own h => cases own with
    | tok k => simp [dataT] at hd
    | no => exact .slnil _ _ trivial
    | full => exact .slnil _ _ trivial
  | slz a sz own h => cases own with
    | tok k => simp [dataT] at hd
    | no => exact .slz _ _ _ trivial
    | full => exact .slz _ _ _ trivial
  | sl b p cap sz own xs n hn hc ho hs h r ih =>
    have hx : dataTs xs = true := by cases own <;> simp_all [dataT]
    refine .sl b p cap sz own xs n hn hc ?_ hs (fun i x j c hx' hj => ?_) (fun i x j c v hx' hj hv => ?_)
    · cases own with
      | tok k => simp [dataT] at hd
      | no => trivial
      | full => exact ho
    · obtain ⟨hi, v, hv⟩ := h i x j c hx' hj
      exact ⟨(im _ _ hi).1, v, (im _ _ hi).2.trans hv⟩
    · exact ih i x j c v hx' hj ((im _ _ (h i x j c hx' hj).1).2.symm.trans hv) (dataT_cells (dataTs_get hx hx') hj)
  | aref i b p o n c sz cap h hc hcap hb => simp [dataT] at hd
  | mapnil => exact .mapnil
  | map i b p h => simp [dataT] at hd
  | fn f caps vs hn r ih => simp [dataT] at hd
  | bnd f caps vs hn r ih => simp [dataT] at hd
  | nilfn => exact .nilfn
  | agg cs vs hn r ih => exact .agg cs vs hn fun j c v h1 h2 => ih j c v h1 h2 (dataTs_get (by simpa [dataT] using hd) h1)
  | tup cs vs hn r ih => exact .tup cs vs hn fun j c v h1 h2 => ih j c v h1 h2 (dataTs_get (by simpa [dataT] using hd) h1)
  | raw v => exact .raw v

section
variable {P : Program} {σ : St}
def offOf (μ : Gh) (σ : St) (b q : Nat) : Prop := σ.off b q ∨ (∃ i ob p, (i, ob) ∈ σ.L ∧ μ.loc i = some (b, p)) ∨ (∃ k f t, k ∈ σ.R ∧ μ.tok k = some (b, f, t) ∧ f ≤ q ∧ q < t)
theorem off_imm {w : World} {μ : Gh} {b o : Nat} (hx : Imm w μ σ b o) : Imm w μ ⟨[], [], offOf μ σ, none⟩ b o := by
  refine ⟨hx.lt, ?_, fun i ob p h1 => by simp at h1, fun k f t h1 => by cases h1⟩
  rintro (h1 | ⟨i, ob, p, h1, h2⟩ | ⟨k, f, t, h1, h2, h3⟩)
  · exact hx.off h1
  · exact hx.obj i ob p h1 h2
  · exact hx.room k f t h1 h2 h3
theorem off_inv {w : World} {μ : Gh} (hi : Inv w μ σ) : Inv w μ ⟨[], [], offOf μ σ, none⟩ := by
  refine ⟨fun i ts h1 => by simp at h1, fun i es h1 => by simp at h1, fun n m i j x y b p q h => by simp at h, fun k hk => absurd hk List.not_mem_nil, fun n m k l b f t g u h1 => by simp at h1, ?_, fun b o h1 => ?_, fun i ob b p h1 => by simp at h1⟩
  · obtain ⟨n, h1, _⟩ := hi.fin
    exact ⟨n, h1, fun m hm => by cases hm⟩
  · rcases h1 with h1 | ⟨i, ob, p, h1, h2⟩ | ⟨k, f, t, h1, h2, h3⟩
    · exact hi.offlt b o h1
    · exact hi.lts h1 h2
    · obtain ⟨b', f', t', r1, r2, r3⟩ := hi.room k h1
      rw [h2] at r1; injection r1 with r1; injection r1 with r1 r4; injection r4 with r4 r5
      subst r1; subst r4; subst r5
      obtain ⟨⟨c, e', r6, _⟩, _⟩ := r3 (by omega)
      exact (Array.getElem?_eq_some_iff.1 r6).1
theorem off_notlive {μ : Gh} {off : Nat → Nat → Prop} {nx : Option Nat} (b : Nat) : ¬ Live μ ⟨[], [], off, nx⟩ b := by
  rintro (⟨i, ob, p, h, _⟩ | ⟨k, f, t, h, _⟩) <;> simp at h

theorem told_inv {w w' : World} {μ μ' μ2 : Gh} {off : Nat → Nat → Prop} {R : List Nat} (hi : Inv w μ σ) (ev : Ev w μ ⟨[], [], offOf μ σ, none⟩ w' μ' ⟨[], R, off, none⟩) {σ2 : St} (hL : σ2.L = σ.L) (hloc : μ2.loc = μ.loc) (evB : Ev w μ σ w' μ2 σ2) :
    (∀ (i : Nat) (ts : List T), (i, .cells ts) ∈ σ2.L → ∃ b p c e, μ2.loc i = some (b, p) ∧ w'.heap[b]? = some (.cells c e (0, 0)) ∧ p + ts.length ≤ c.size ∧ CellsIn w' μ2 σ2 ts c p) ∧
    (∀ (i : Nat) (es : List (T × T)), (i, .map es) ∈ σ2.L → ∃ b en clock, μ2.loc i = some (b, 0) ∧ w'.heap[b]? = some (.map en clock) ∧ en.size = es.length ∧ ∀ (j : Nat) (k u : T) (e : MapEntry), es[j]? = some (k, u) → en[j]? = some e → Rel w' μ2 σ2 e.key k ∧ Rel w' μ2 σ2 e.val u) := by
  refine ⟨fun i us h1 => ?_, fun i es h1 => ?_⟩
  · rw [hL] at h1
    obtain ⟨b, p, c, e, h2, h3, h4, h5⟩ := hi.obj i us h1
    exact ⟨b, p, c, e, by rw [hloc]; exact h2, by rw [(ev.live b (hi.lts h1 h2) (off_notlive b)).2]; exact h3, h4, fun j t v h6 h7 => (h5 j t v h6 h7).ev evB⟩
  · rw [hL] at h1
    obtain ⟨b, c, e, h2, h3, h4, h5⟩ := hi.map i es h1
    exact ⟨b, c, e, by rw [hloc]; exact h2, by rw [(ev.live b (hi.lts h1 h2) (off_notlive b)).2]; exact h3, h4, fun j k u e' h6 h7 => let ⟨h8, h9⟩ := h5 j k u e' h6 h7; ⟨h8.ev evB, h9.ev evB⟩⟩

theorem Pure.told {f : FuncId} {ts : List T} {r : T} (h : Pure P f ts r) (hd : dataT r = true) : ACalls P f ts σ (fun u σ' => u = r ∧ σ' = σ) := by
  refine ⟨(h (fun _ _ => False)).1, fun vs w μ hi hs hr => ?_⟩
  have e0 : Ev0 w μ σ w μ ⟨[], [], offOf μ σ, none⟩ := ⟨fun _ _ h => h, fun _ _ h => h, fun _ _ h => h, fun b o hx => ⟨off_imm hx, rfl⟩⟩
  refine ((h (offOf μ σ)).2 vs w μ (off_inv hi) hs fun j t v h1 h2 => (hr j t v h1 h2).ev' e0).mono ?_
  rintro e w' ⟨v, t, σs, μ', rfl, ev, his', rv, rfl, rfl⟩
  have evB : Ev w μ σ w' μ σ := by
    refine ⟨ev.below, fun _ _ h => h, fun _ _ h => h, rfl, ev.shape, fun b hb hl => ⟨hl, (ev.live b hb (off_notlive b)).2⟩, fun b o hx => ?_⟩
    obtain ⟨h1, h2⟩ := ev.imm b o (off_imm hx)
    exact ⟨⟨h1.lt, hx.off, hx.obj, hx.room⟩, h2⟩
  obtain ⟨i1, i2⟩ := told_inv hi ev rfl rfl evB
  refine ⟨v, _, σ, μ, rfl, evB, ⟨i1, i2, hi.inj, fun k hk => ?_, hi.rinj, hi.fin, fun b o h1 => Nat.lt_of_lt_of_le (hi.offlt b o h1) ev.below.size, hi.offobj⟩, rel_data rv hd fun b o hx => ⟨⟨hx.lt, fun h1 => hx.off (.inl h1), fun i ob p h1 h2 => hx.off (.inr (.inl ⟨i, ob, p, h1, h2⟩)), fun k f t h1 h2 h3 => hx.off (.inr (.inr ⟨k, f, t, h1, h2, h3⟩))⟩, rfl⟩, rfl, rfl⟩
  obtain ⟨b, f, t, h1, h2, h3⟩ := hi.room k hk
  refine ⟨b, f, t, h1, h2, fun hlt => ?_⟩
  obtain ⟨⟨c, e, h4, h5⟩, h6⟩ := h3 hlt
  exact ⟨⟨c, e, by rw [(ev.live b (Array.getElem?_eq_some_iff.1 h4).1 (off_notlive b)).2]; exact h4, h5⟩, h6⟩

theorem Owns.told {f : FuncId} {ts : List T} {sz : Nat} {xs : List T} (h : Owns P f ts sz xs) (hd : dataTs xs = true) {m : Nat} (hnx : σ.nx = some m) : ACalls P f ts σ (fun u σ' => u = .sl sz (.tok m) xs ∧ σ' = σ.newT m) := by
  refine ⟨(h (fun _ _ => False)).1, fun vs w μ hi hs hr => ?_⟩
  have e0 : Ev0 w μ σ w μ ⟨[], [], offOf μ σ, none⟩ := ⟨fun _ _ h => h, fun _ _ h => h, fun _ _ h => h, fun b o hx => ⟨off_imm hx, rfl⟩⟩
  refine ((h (offOf μ σ)).2 vs w μ (off_inv hi) hs fun j t v h1 h2 => (hr j t v h1 h2).ev' e0).mono ?_
  rintro e w' ⟨v, t, σs, μ', rfl, ev, his', rv, k, rfl, rfl⟩
  obtain ⟨n, hn1, hn2⟩ := hi.fin
  obtain rfl := hn2 m hnx
  obtain ⟨hml, hmt⟩ := hn1 m (Nat.le_refl _)
  obtain ⟨b0, f0, t0, q1, q2, q3⟩ := his'.room k (by simp)
  have old : ∀ l, l ∈ σ.R → l ≠ m := by
    rintro l hl rfl
    obtain ⟨b', f', t', h1, _⟩ := hi.room l hl
    rw [hmt] at h1; cases h1
  have lv0 : f0 < t0 → Live μ' ⟨[], [k], offOf μ σ, none⟩ b0 := fun h => .inr ⟨k, f0, t0, by simp, q1, h⟩
  have foreign : ∀ b, b < w.heap.size → f0 < t0 → b ≠ b0 := by
    rintro b hb hlt rfl
    exact (ev.live b hb (off_notlive b)).1 (lv0 hlt)
  have roomlt : ∀ l b f t, l ∈ σ.R → μ.tok l = some (b, f, t) → f < t → b < w.heap.size := by
    intro l b f t h1 h2 h3
    obtain ⟨b', f', t', r1, r2, r3⟩ := hi.room l h1
    rw [h2] at r1; injection r1 with r1; injection r1 with r1 r4; injection r4 with r4 r5
    subst r1; subst r4; subst r5
    obtain ⟨⟨c, e', r6, _⟩, _⟩ := r3 h3
    exact (Array.getElem?_eq_some_iff.1 r6).1
  have evB : Ev w μ σ w' (μ.addT m (b0, f0, t0)) (σ.newT m) := by
    refine ⟨ev.below, fun _ _ h => h, addT_mono hmt, rfl, ev.shape, fun b hb hl => ⟨?_, (ev.live b hb (off_notlive b)).2⟩, fun b o hx => ?_⟩
    · rintro (h1 | ⟨l, f, t, h1, h2, h3⟩)
      · exact hl (.inl h1)
      · rcases List.mem_cons.1 h1 with rfl | h1
        · rw [Bw] at h2; injection h2 with h2; injection h2 with h2 h4; injection h4 with h4 h5
          subst h2; subst h4; subst h5
          exact foreign _ hb h3 rfl
        · rw [B1 _ (old l h1)] at h2; exact hl (.inr ⟨l, f, t, h1, h2, h3⟩)
    · obtain ⟨h1, h2⟩ := ev.imm b o (off_imm hx)
      refine ⟨⟨h1.lt, hx.off, hx.obj, fun l f t h3 h4 h5 => ?_⟩, h2⟩
      rcases List.mem_cons.1 h3 with rfl | h3
      · rw [Bw] at h4; injection h4 with h4; injection h4 with h4 h6; injection h6 with h6 h7
        subst h4; subst h6; subst h7
        exact h1.room k _ _ (by simp) q1 h5
      · rw [B1 _ (old l h3)] at h4; exact hx.room l f t h3 h4 h5
  obtain ⟨i1, i2⟩ := told_inv hi ev (σ2 := σ.newT m) (μ2 := μ.addT m (b0, f0, t0)) rfl rfl evB
  have im : ∀ b o, Imm w' μ' ⟨[], [k], offOf μ σ, none⟩ b o → Imm w' (μ.addT m (b0, f0, t0)) (σ.newT m) b o := by
    intro b o hx
    refine ⟨hx.lt, fun h1 => hx.off (.inl h1), fun i ob p h1 h2 => hx.off (.inr (.inl ⟨i, ob, p, h1, h2⟩)), fun l f t h1 h2 h3 => ?_⟩
    rcases List.mem_cons.1 h1 with rfl | h1
    · rw [Bw] at h2; injection h2 with h2; injection h2 with h2 h6; injection h6 with h6 h7
      subst h2; subst h6; subst h7
      exact hx.room k _ _ (by simp) q1 h3
    · rw [B1 _ (old l h1)] at h2; exact hx.off (.inr (.inr ⟨l, f, t, h1, h2, h3⟩))
  refine ⟨v, _, σ.newT m, μ.addT m (b0, f0, t0), rfl, evB, ⟨i1, i2, hi.inj, fun l hl => ?_, fun n1 m1 l l' b f t g u h1 h2 h3 h4 h5 h6 => ?_, ⟨m + 1, fun j hj => ⟨(hn1 j (by omega)).1, by rw [B1 _ (by omega)]; exact (hn1 j (by omega)).2⟩, fun q hq => by simp only [St.newT, Option.map_eq_some_iff] at hq; obtain ⟨_, _, hq⟩ := hq; exact hq.symm⟩, fun b o h1 => Nat.lt_of_lt_of_le (hi.offlt b o h1) ev.below.size, hi.offobj⟩, ?_, rfl, rfl⟩
  · rcases List.mem_cons.1 hl with rfl | hl
    · refine ⟨b0, f0, t0, Bw _ _, q2, fun hlt => ?_⟩
      obtain ⟨h4, h5, h6⟩ := q3 hlt
      refine ⟨h4, fun i ob p h7 h8 => ?_, fun o h7 h8 h9 => h6 o h7 h8 (.inl h9)⟩
      exact foreign b0 (hi.lts h7 h8) hlt rfl
    · obtain ⟨b, f, t, h1, h2, h3⟩ := hi.room l hl
      refine ⟨b, f, t, by rw [B1 _ (old l hl)]; exact h1, h2, fun hlt => ?_⟩
      obtain ⟨⟨c, e, h4, h5⟩, h6⟩ := h3 hlt
      exact ⟨⟨c, e, by rw [(ev.live b (Array.getElem?_eq_some_iff.1 h4).1 (off_notlive b)).2]; exact h4, h5⟩, h6⟩
  · have h1' : (m :: σ.R)[n1]? = some l := h1
    have h2' : (m :: σ.R)[m1]? = some l' := h2
    cases n1 with
    | zero =>
      simp at h1'; subst h1'
      rw [Bw] at h3; injection h3 with h3; injection h3 with h3 h7; injection h7 with h7 h8
      subst h3; subst h7; subst h8
      cases m1 with
      | zero => rfl
      | succ m1 =>
        have e2 : σ.R[m1]? = some l' := by simpa using h2'
        have hm2 := List.mem_of_getElem? e2
        rw [B1 _ (old l' hm2)] at h4
        exact absurd rfl (foreign _ (roomlt l' _ _ _ hm2 h4 h6) h5)
    | succ n1 =>
      have e1 : σ.R[n1]? = some l := by simpa using h1'
      have hm1 := List.mem_of_getElem? e1
      rw [B1 _ (old l hm1)] at h3
      cases m1 with
      | zero =>
        simp at h2'; subst h2'
        rw [Bw] at h4; injection h4 with h4; injection h4 with h4 h7; injection h7 with h7 h8
        subst h4; subst h7; subst h8
        exact absurd rfl (foreign _ (roomlt l _ _ _ hm1 h3 h5) h6)
      | succ m1 =>
        have e2 : σ.R[m1]? = some l' := by simpa using h2'
        rw [B1 _ (old l' (List.mem_of_getElem? e2))] at h4
        rw [hi.rinj n1 m1 l l' b f t g u e1 e2 h3 h4 h5 h6]
  · -- the slice
    have hown : ∀ b f t, OwnOK μ' (.tok k) b f t → OwnOK (μ.addT m (b0, f0, t0)) (.tok m) b f t := by
      rintro b f t ⟨x, h1, h2⟩
      rw [q1] at h1; injection h1 with h1; subst h1
      exact ⟨_, Bw _ _, h2⟩
    have hownn : OwnNil μ' (.tok k) → OwnNil (μ.addT m (b0, f0, t0)) (.tok m) := by
      rintro ⟨x, h1, h2⟩
      rw [q1] at h1; injection h1 with h1; subst h1
      exact ⟨_, Bw _ _, h2⟩
    cases rv with
    | slnil sz own h0 => exact .slnil _ _ (hownn h0)
    | slz a sz own h0 => exact .slz _ _ _ (hownn h0)
    | sl b p cap sz own xs n hn hc ho hs h0 r0 =>
      refine .sl b p cap sz _ xs n hn hc (hown _ _ _ ho) hs (fun i x j c hx hj => ?_) (fun i x j c v hx hj hv => ?_)
      · obtain ⟨hi', v, hv⟩ := h0 i x j c hx hj
        exact ⟨im _ _ hi', v, hv⟩
      · exact rel_data (r0 i x j c v hx hj hv) (dataT_cells (dataTs_get hd hx) hj) fun b o hx => ⟨im b o hx, rfl⟩

theorem HCov.newT {h : HS} (c : HCov σ h) : HCov (σ.newT h.nx) ⟨h.L, h.R.set h.nx (), h.nx + 1⟩ := by
  refine ⟨c.th, c.mp, fun l u hl => ?_, by simp [St.newT, c.nx]⟩
  rcases Tr.get_set (show (h.R.set h.nx ()).get l = some u from hl) with ⟨q1, _⟩ | ⟨q1, q2⟩
  · subst q1; exact List.mem_cons_self
  · exact List.mem_cons_of_mem _ (c.room l u q2)
def knowO (sz : Nat) (xs : List T) (h : HS) : Option (T × HS) := cond (dataTs xs) (some (.sl sz (.tok h.nx) xs, ⟨h.L, h.R.set h.nx (), h.nx + 1⟩)) none
theorem knowO_ok {f : FuncId} {ts : List T} {sz : Nat} {xs : List T} {t : T} {h h' : HS} (hp : Owns P f ts sz xs) (hk : knowO sz xs h = some (t, h')) (c : HCov σ h) : ACalls P f ts σ (fun u σ' => u = t ∧ HCov σ' h') := by
  unfold knowO at hk
  cases hd : dataTs xs with
  | false => rw [hd] at hk; cases hk
  | true =>
    rw [hd, cond_true] at hk
    injection hk with hk; injection hk with h1 h2; subst h1; subst h2
    exact (hp.told hd c.nx).mono fun u σ' ⟨h1, h2⟩ => ⟨h1, h2 ▸ c.newT⟩
end
end Go.Ts
namespace Go.Proofs.Ytemgmkoggnjgjaa
open Go.Ts
attribute [local irreducible] Go.Ts.AW Go.Ts.AOps Go.Ts.AL Go.Ts.AOp Go.Ts.ACalls Go.Ts.DL
def growK (ts : List T) (h : HS) : Option (T × HS) := match ts with
  | [.nilsl, .int .i64 n] => cond (decide (0 ≤ n) && decide (n ≤ 4294967296)) (knowO 1 [] h) none
  | _ => none
theorem growK_ok : ∀ ts h t h', growK ts h = some (t, h') → ∀ σ, HCov σ h → ACalls Try.prog 63 ts σ (fun u σ' => u = t ∧ HCov σ' h') := by
  intro ts h t h' hk σ c
  unfold growK at hk
  split at hk
  · rename_i n
    revert hk
    cases hc : (decide (0 ≤ n) && decide (n ≤ 4294967296)) with
    | false => intro hk; cases hk
    | true =>
      intro hk
      rw [Bool.and_eq_true, decide_eq_true_eq, decide_eq_true_eq] at hc
      exact knowO_ok (grow_nil hc) hk c
  · cases hk
theorem clone_e {own : Own} : Owns Try.prog 43 [.sl 1 own []] 1 [] := clone_b (b := []) rfl (by simp)
def cloneK (ts : List T) (h : HS) : Option (T × HS) := match ts with
  | [.sl 1 _ []] => knowO 1 [] h
  | _ => none
theorem cloneK_ok : ∀ ts h t h', cloneK ts h = some (t, h') → ∀ σ, HCov σ h → ACalls Try.prog 43 ts σ (fun u σ' => u = t ∧ HCov σ' h') := by
  intro ts h t h' hk σ c
  unfold cloneK at hk
  split at hk
  · exact knowO_ok clone_e hk c
  · cases hk
end Go.Proofs.Ytemgmkoggnjgjaa
namespace Go.Proofs.Ytemgmkoggnjgjaa
open Go.Ts
def kn2 (g : FuncId) : Option (List T → HS → Option (T × HS)) := cond (Nat.beq g 63) (some growK) (cond (Nat.beq g 43) (some cloneK) none)
theorem kn2_ok : ∀ g f, kn2 g = some f → ∀ ts h t h', f ts h = some (t, h') → ∀ σ, HCov σ h → ACalls Try.prog g ts σ (fun u σ' => u = t ∧ HCov σ' h') := by
  intro g f hg
  unfold kn2 at hg
  by_cases e : g = 63
  · subst e; simp only [Nat.beq_refl, cond_true] at hg; injection hg with hg; subst hg; exact growK_ok
  · rw [beqF e, cond_false] at hg
    by_cases e : g = 43
    · subst e; simp only [Nat.beq_refl, cond_true] at hg; injection hg with hg; subst hg; exact cloneK_ok
    · rw [beqF e] at hg; cases hg
end Go.Proofs.Ytemgmkoggnjgjaa
set_option linter.unusedVariables false
set_option linter.unusedSimpArgs false
namespace Go.Ts
section
variable {P : Program} {M : Mach}
theorem HCov.none {σ : St} {h : HS} (c : HCov σ h) : HCov σ ⟨.leaf, .leaf, h.nx⟩ :=
  ⟨fun i n zn z ov hi => by simp [Tr.get] at hi, fun i es hi => by simp [Tr.get] at hi, fun k u hk => by simp [Tr.get] at hk, c.nx⟩
theorem cold_pure {f nx : Nat} (hc : ∀ σ, HCov σ hs0 → ACalls P f [] σ (fun u σ' => u = .bool true ∧ HCov σ' ⟨.leaf, .leaf, nx⟩)) : Pure P f [] (.bool true) := by
  intro off
  have hcov : HCov ⟨[], [], off, some 0⟩ hs0 := ⟨fun i n zn z ov h => by simp [hs0, Tr.get] at h, fun i es h => by simp [hs0, Tr.get] at h, fun k u h => by simp [hs0, Tr.get] at h, rfl⟩
  obtain ⟨h1, h2⟩ := hc _ hcov
  refine ⟨h1, fun vs w μ hi hn hr => ?_⟩
  have hi' : Inv w ⟨fun _ => none, fun _ => none⟩ ⟨[], [], off, some 0⟩ := by
    refine ⟨fun i ts h => by simp at h, fun i es h => by simp at h, fun n m i j x y b p q h => by simp at h, fun k h => by simp at h, fun n m k l b f t g u h => by simp at h, ⟨0, fun i _ => ⟨rfl, rfl⟩, fun m hm => by injection hm with hm; exact hm.symm⟩, fun b o h => hi.offlt b o h, fun i ob b p h => by simp at h⟩
  refine (h2 vs w _ hi' hn (fun j t v h => by simp at h)).mono ?_
  rintro e w' ⟨v, t, σ', μ', rfl, ev, hi2, rv, rfl, _⟩
  have noL : ∀ b, ¬ Live μ ⟨[], [], off, none⟩ b := by
    rintro b (⟨i, ob, p, h, _⟩ | ⟨k, f, t, h, _⟩) <;> simp at h
  have noL' : ∀ b, ¬ Live ⟨fun _ => none, fun _ => none⟩ ⟨[], [], off, some 0⟩ b := by
    rintro b (⟨i, ob, p, h, _⟩ | ⟨k, f, t, h, _⟩) <;> simp at h
  refine ⟨v, _, ⟨[], [], off, none⟩, μ, rfl, ⟨ev.below, fun _ _ h => h, fun _ _ h => h, rfl, ev.shape, fun b hb hl => ⟨noL b, (ev.live b hb (noL' b)).2⟩, fun b o him => ?_⟩, ?_, ?_, rfl, rfl⟩
  · obtain ⟨k1, k2⟩ := ev.imm b o ⟨him.lt, him.off, fun i ob p h => by simp at h, fun k f t h => by simp at h⟩
    exact ⟨⟨k1.lt, him.off, fun i ob p h => by simp at h, fun k f t h => by simp at h⟩, k2⟩
  · obtain ⟨n, hn1, _⟩ := hi.fin
    exact ⟨fun i ts h => by simp at h, fun i es h => by simp at h, fun n m i j x y b p q h => by simp at h, fun k h => by simp at h, fun n m k l b f t g u h => by simp at h, ⟨n, hn1, fun m hm => by simp at hm⟩, fun b o h => Nat.lt_of_lt_of_le (hi.offlt b o h) ev.below.size, fun i ob b p h => by simp at h⟩
  · cases rv; exact .bool _
theorem run_pure (hM : MachOK P M) {n f nx : Nat} (h : (match callX M n f [] hs0 with | some (.bool true, h') => Nat.beq h'.nx nx | _ => false) = true) : Pure P f [] (.bool true) := by
  refine cold_pure (nx := nx) fun σ c => ?_
  revert h
  cases hx : callX M n f [] hs0 with
  | none => intro h; cases h
  | some q =>
    obtain ⟨t, h'⟩ := q
    cases t with
    | bool b => cases b with
      | true =>
        intro h
        refine (callX_ok hM n f [] hs0 _ h' hx σ c).mono ?_
        rintro u σ' ⟨rfl, k⟩
        have := k.none
        rw [Nat.eq_of_beq_eq_true h] at this
        exact ⟨rfl, this⟩
      | false => intro h; cases h
    | _ => intro h; cases h
theorem run_pure0 (hM : MachOK P M) {n f : Nat} (h : (match callX M n f [] hs0 with | some (.bool true, _) => true | _ => false) = true) : Pure P f [] (.bool true) := by
  revert h
  cases hx : callX M n f [] hs0 with
  | none => intro h; cases h
  | some q =>
    obtain ⟨t, h'⟩ := q
    cases t with
    | bool b => cases b with
      | true =>
        intro _
        refine cold_pure (nx := h'.nx) fun σ c => (callX_ok hM n f [] hs0 _ h' hx σ c).mono ?_
        rintro u σ' ⟨rfl, k⟩
        exact ⟨rfl, k.none⟩
      | false => intro h; cases h
    | _ => intro h; cases h
end
end Go.Ts
namespace Go.Ts
set_option linter.unusedSimpArgs false
set_option linter.unusedVariables false
section
variable {G : Nat → Option TI}
theorem wf_u8 {n : Int} (h : (Lit.int .u8 n).wf = true) : 0 ≤ n ∧ n < 256 := by
  simp only [Lit.wf, IntKind.min, IntKind.max, IntKind.bits, IntKind.signed, Bool.and_eq_true] at h; simp at h; omega
theorem argTy_cells {n t : Nat} {x : T} {ti : TI} (h : ArgTy G n t x) (ht : G t = some ti) (hd : ti.d.agg = false) : Ty G n t [x] := by
  have h1 := h.1
  rwa [(h.2 _ ht).2 hd] at h1
theorem ty_slice {n t e : Nat} {cs : List T} {ti : TI} (h : Ty G (n + 1) t cs) (ht : G t = some ti) (htd : ti.d = .slice e) :
    ∃ xs, cs = [.sl ((sizeT G e).getD 0) .no xs] ∧ xs.length ≤ bigLen ∧ ∀ y ∈ xs, Ty G n e y.cells ∧ AggOK G e y := by
  simpa only [Ty, ht, htd] using h
theorem bytes_of_ty {n e : Nat} {ie : TI} (he : G e = some ie) (hed : ie.d = .int .u8) : ∀ (xs : List T), (∀ y ∈ xs, Ty G (n + 1) e y.cells ∧ AggOK G e y) → ∃ b : List UInt8, xs = b.map bT
  | [], _ => ⟨[], rfl⟩
  | x :: xs, h => by
    obtain ⟨b, hb⟩ := bytes_of_ty he hed xs (fun y hy => h y (List.mem_cons_of_mem _ hy))
    obtain ⟨h1, h2⟩ := h x List.mem_cons_self
    simp only [Ty, he, hed] at h1
    obtain ⟨v, hv, hw⟩ := h1
    obtain ⟨l, u⟩ := wf_u8 hw
    refine ⟨UInt8.ofNat v.toNat :: b, ?_⟩
    have : x = .int .u8 v := by
      have h5 := (h2 _ he).2 (by rw [hed]; rfl)
      rw [h5] at hv; injection hv
    subst this
    rw [hb, List.map_cons]
    congr 1
    unfold bT
    have : (UInt8.ofNat v.toNat).toNat = v.toNat := by simp [UInt8.toNat_ofNat]; omega
    rw [this]; congr 1; omega
theorem ty_bytes {n t e : Nat} {cs : List T} {ti ie : TI} (h : Ty G (n + 2) t cs) (ht : G t = some ti) (htd : ti.d = .slice e) (he : G e = some ie) (hed : ie.d = .int .u8) (hs : ie.size = 1) : ∃ b : List UInt8, cs = [sT b] ∧ b.length ≤ bigLen := by
  obtain ⟨xs, h1, h2, h3⟩ := ty_slice h ht htd
  obtain ⟨b, rfl⟩ := bytes_of_ty he hed xs h3
  exact ⟨b, by rw [h1]; simp [sizeT, he, hs, sT], by simpa using h2⟩
theorem argTy_bytes {n t e : Nat} {x : T} {ti ie : TI} (h : ArgTy G (n + 2) t x) (ht : G t = some ti) (htd : ti.d = .slice e) (he : G e = some ie) (hed : ie.d = .int .u8) (hs : ie.size = 1) : ∃ b : List UInt8, x = sT b ∧ b.length ≤ bigLen := by
  obtain ⟨b, h1, h2⟩ := ty_bytes (argTy_cells h ht (by rw [htd]; rfl)) ht htd he hed hs
  injection h1 with h1
  exact ⟨b, h1, h2⟩
end
end Go.Ts
namespace Go.Proofs.Ytemgmkoggnjgjaa
open Go.Ts Go.Sets
set_option linter.unusedSimpArgs false
set_option linter.unusedVariables false
attribute [local irreducible] Go.Ts.AW Go.Ts.AOps Go.Ts.AL Go.Ts.AOp Go.Ts.ACalls Go.Ts.DL Go.Ts.DQ Go.Ts.EL
def zT (x : Int) : T := .int .i64 x
instance : Enc zT 1 := ⟨fun x c h => by simp [zT, T.cells] at h; subst h; rfl, fun x => rfl⟩
end Go.Proofs.Ytemgmkoggnjgjaa
namespace Go.Ts
section
variable {P : Program} {G : Nat → Option TI} {σ : St} {N : Nat} {a : Env}
def Mut (P : Program) (g : FuncId) (ts : List T) (cs : List T) (R : T → List T → Prop) : Prop :=
  ∀ off i, ACalls P g (.ptr i 0 :: ts) ⟨[(i, .cells cs)], [], off, none⟩ (fun u σ' => ∃ cs', σ' = ⟨[(i, .cells cs')], [], off, none⟩ ∧ R u cs')
theorem Mut.mono {g : FuncId} {ts cs : List T} {R R' : T → List T → Prop} (h : Mut P g ts cs R) (k : ∀ u cs', R u cs' → R' u cs') : Mut P g ts cs R' :=
  fun off i => (h off i).mono fun u σ' ⟨cs', h1, h2⟩ => ⟨cs', h1, k _ _ h2⟩
theorem Mut.calls {g : FuncId} {ts cs : List T} {R : T → List T → Prop} {i : Nat} {Lf : List (Nat × Ob)} (h : Mut P g ts cs R) (hnx : σ.nx = none) (hL : σ.L.Perm ((i, .cells cs) :: Lf)) {K : T → St → Prop}
    (k : ∀ u cs', R u cs' → K u { σ with L := (i, .cells cs') :: Lf }) : ACalls P g (.ptr i 0 :: ts) σ K := by
  refine (frame (Ls := [(i, .cells cs)]) (Lf := Lf) hL (R := fun u L R' => ∃ cs', L = [(i, .cells cs')] ∧ R' = [] ∧ R u cs') hnx fun off => (h off i).mono fun u σ' ⟨cs', h1, h2⟩ => by subst h1; exact ⟨rfl, cs', rfl, rfl, h2⟩).mono ?_
  rintro u σ' ⟨L', R', ⟨cs', rfl, rfl, hR⟩, rfl⟩
  obtain ⟨L, R1, off, nx⟩ := σ
  simp only at hnx; subst hnx
  exact k u cs' hR
theorem r_mut {K : Env → St → Prop} {f : Operand} {args : Array Operand} {tys : Array TypeId} {g : FuncId} {ts us cs : List T} {R : T → List T → Prop} {i : Nat} {Lf : List (Nat × Ob)} {d : Tmp} {ty : TypeId} {pos : String} {af : Array Edge} {gd : Option (Nat × Bool)}
    (hf : A0 a f = some (.fn (.func g) [])) (ha : argsT a args.toList = some us) (hu : us = .ptr i 0 :: ts) (hd : A6 N (some d) = true) (hnx : σ.nx = none) (hL : σ.L.Perm ((i, .cells cs) :: Lf))
    (h : Mut P g ts cs R) (k : ∀ r cs', R r cs' → K (put a (some d) r) { σ with L := (i, .cells cs') :: Lf }) : AOp P N ⟨some d, .call ⟨.value f, args, tys⟩, ty, pos, af, gd⟩ a σ K := by
  subst hu
  refine op_call rfl hf ha rfl hd ?_
  rw [List.append_nil]
  exact h.calls hnx hL k
theorem ret_mut (n : Nat) {rs : List ResultVar} {ts cs : List T} {r : T} {i : Nat} {R : T → List T → Prop} (h : ResRs G a σ rs ts) (hn : σ.L[n]? = some (i, .cells cs)) (hw : Wk (tup1 ts) r) (hnx : σ.nx = none) (hR : R r cs) :
    retA G rs (fun u σ' => ∃ cs', σ' = ⟨[(i, .cells cs')], [], σ.off, none⟩ ∧ R u cs') .ret a σ := by
  refine ⟨ts, h, ((conv_drop (L' := [(i, .cells cs)]) (R' := []) (List.singleton_sublist.2 (List.mem_of_getElem? hn)) (List.nil_sublist _) hw).cr ⟨cs, ?_, hR⟩)⟩
  rw [hnx]
def Mut2 (P : Program) (g : FuncId) (ts : List T) (cs ds : List T) (R : T → List T → List T → Prop) : Prop :=
  ∀ off i j, ACalls P g (.ptr i 0 :: .ptr j 0 :: ts) ⟨[(i, .cells cs), (j, .cells ds)], [], off, none⟩ (fun u σ' => ∃ cs' ds', σ' = ⟨[(i, .cells cs'), (j, .cells ds')], [], off, none⟩ ∧ R u cs' ds')
theorem Mut2.calls {g : FuncId} {ts cs ds : List T} {R : T → List T → List T → Prop} {i j : Nat} {Lf : List (Nat × Ob)} (h : Mut2 P g ts cs ds R) (hnx : σ.nx = none) (hL : σ.L.Perm ((i, .cells cs) :: (j, .cells ds) :: Lf)) {K : T → St → Prop}
    (k : ∀ u cs' ds', R u cs' ds' → K u { σ with L := (i, .cells cs') :: (j, .cells ds') :: Lf }) : ACalls P g (.ptr i 0 :: .ptr j 0 :: ts) σ K := by
  refine (frame (Ls := [(i, .cells cs), (j, .cells ds)]) (Lf := Lf) hL (R := fun u L R' => ∃ cs' ds', L = [(i, .cells cs'), (j, .cells ds')] ∧ R' = [] ∧ R u cs' ds') hnx fun off => (h off i j).mono fun u σ' ⟨cs', ds', h1, h2⟩ => by subst h1; exact ⟨rfl, cs', ds', rfl, rfl, h2⟩).mono ?_
  rintro u σ' ⟨L', R', ⟨cs', ds', rfl, rfl, hR⟩, rfl⟩
  obtain ⟨L, R1, off, nx⟩ := σ
  simp only at hnx; subst hnx
  exact k u cs' ds' hR
theorem r_mut2 {K : Env → St → Prop} {f : Operand} {args : Array Operand} {tys : Array TypeId} {g : FuncId} {ts us cs ds : List T} {R : T → List T → List T → Prop} {i j : Nat} {Lf : List (Nat × Ob)} {d : Tmp} {ty : TypeId} {pos : String} {af : Array Edge} {gd : Option (Nat × Bool)}
    (hf : A0 a f = some (.fn (.func g) [])) (ha : argsT a args.toList = some us) (hu : us = .ptr i 0 :: .ptr j 0 :: ts) (hd : A6 N (some d) = true) (hnx : σ.nx = none) (hL : σ.L.Perm ((i, .cells cs) :: (j, .cells ds) :: Lf))
    (h : Mut2 P g ts cs ds R) (k : ∀ r cs' ds', R r cs' ds' → K (put a (some d) r) { σ with L := (i, .cells cs') :: (j, .cells ds') :: Lf }) : AOp P N ⟨some d, .call ⟨.value f, args, tys⟩, ty, pos, af, gd⟩ a σ K := by
  subst hu
  refine op_call rfl hf ha rfl hd ?_
  rw [List.append_nil]
  exact h.calls hnx hL k
theorem ret_mut2 {rs : List ResultVar} {ts cs ds : List T} {r : T} {i j : Nat} {R : T → List T → List T → Prop} (h : ResRs G a σ rs ts) (hn : List.Sublist [(i, .cells cs), (j, .cells ds)] σ.L) (hw : Wk (tup1 ts) r) (hnx : σ.nx = none) (hR : R r cs ds) :
    retA G rs (fun u σ' => ∃ cs' ds', σ' = ⟨[(i, .cells cs'), (j, .cells ds')], [], σ.off, none⟩ ∧ R u cs' ds') .ret a σ := by
  refine ⟨ts, h, ((conv_drop (L' := [(i, .cells cs), (j, .cells ds)]) (R' := []) hn (List.nil_sublist _) hw).cr ⟨cs, ds, ?_, hR⟩)⟩
  rw [hnx]
theorem ret_mutE (n : Nat) {rs : List ResultVar} {ts cs : List T} {r : T} {i : Nat} {R : T → List T → Prop} (h : ResRs G a σ rs ts) (hn : σ.L[n]? = some (i, .cells cs)) (hw : Wk (tup1 ts) r) (hnx : σ.nx = none) (hR : R r cs) :
    retA G rs (fun u σ' => ∃ cs', σ' = ⟨[(i, .cells cs')], [], σ.off, none⟩ ∧ R u cs') .normal a σ := ret_mut n h hn hw hnx hR
theorem B3 {rs : List ResultVar} {ts cs ds : List T} {r : T} {i j : Nat} {R : T → List T → List T → Prop} (h : ResRs G a σ rs ts) (hn : List.Sublist [(i, .cells cs), (j, .cells ds)] σ.L) (hw : Wk (tup1 ts) r) (hnx : σ.nx = none) (hR : R r cs ds) :
    retA G rs (fun u σ' => ∃ cs' ds', σ' = ⟨[(i, .cells cs'), (j, .cells ds')], [], σ.off, none⟩ ∧ R u cs' ds') .normal a σ := ret_mut2 h hn hw hnx hR
end
end Go.Ts
namespace Go.Proofs.Ytemgmkoggnjgjaa
open Go.Ts
set_option linter.unusedSimpArgs false
set_option linter.unusedVariables false
attribute [local irreducible] Go.Ts.AW Go.Ts.AOps Go.Ts.AL Go.Ts.AOp Go.Ts.ACalls Go.Ts.DL Go.Ts.DQ Go.Ts.EL
def tlT (r : TL) : T := .tup [.agg [bT r.df, .sl 2 .no (r.ps.map pT)], .int .i64 r.n, .int .i64 r.e]
structure LtX (b : List UInt8) where
  left : Nat
  h256 : left < 256
  acc : List PR
  p : Nat
  q : Nat
  h2 : ¬ b.length < 2
  hp : p ≤ b.length
  hr : takeP b left acc p = takeP b (b.getD 1 default).toNat [] 2
  k : Option Nat
  hk : k = none → acc = []
  hacc : acc.length + left = (b.getD 1 default).toNat
set_option maxHeartbeats 2000000 in
theorem lcode_Take {x : T} {b : List UInt8} (hx : bytesT x = some b) (hl : b.length ≤ 4294967296) : Ts.Pure Try.prog 57 [x] (tlT (Bl b)) := by
  refine Pure.weak (us := [sT b]) ?_ (wk1 (bytesT_wk hx))
  intro off
  refine A5 (N := 59) (rs := [.cell 2 27, .tmp 3, .tmp 4]) hG Try.func57 rfl rfl rfl rfl rfl ?_
  repeat' (first
    | ((first | (show AL _ _ _ _ _ _ _ _; refine Ac Y ?_) | (show DL _ _ _ _ _ _ _; refine' Be Y Y (fun K kk => ?_) ?_; try (show Go.Ts.T; rotate_left))); (first
      | (show AOp _ _ ⟨_, .move _, _, _, _, _⟩ _ _ _; refine Ao hG Y Y ?_)
      | (show AOp _ _ ⟨_, .assign _, _, _, _, _⟩ _ _ _; refine A1 hG Y Y ?_)
      | (show AOp _ _ ⟨_, .call ⟨.builtin .len, _, _⟩, _, _, _, _⟩ _ _ _; first | refine Bb hG Y Y Y Y ?_ | refine Bi hG Y Y Y Y Y ?_)
      | (show AOp _ _ ⟨_, .binOp .add _ _ _ _, _, _, _, _⟩ _ _ _; first | refine Az hG Y Y Y Y Y (by omega) ?_)
      | (show AOp _ _ ⟨_, .binOp .sub _ _ _ _, _, _, _, _⟩ _ _ _; first | refine Az hG Y Y Y Y Y (by omega) ?_)
      | (show AOp _ _ ⟨_, .binOp _ _ _ _ _, _, _, _, _⟩ _ _ _; first | refine Au hG Y Y Y Y Y (by omega) ?_ | refine As hG Y Y Y Y Y (by omega) ?_ | ((fail_if_success have := kk); refine Aq hG Y Y Y Y Y (fun h => ?_) (fun h => ?_)))
      | (show AOp _ _ ⟨_, .load _ _, _, _, _, _⟩ _ _ _; first | refine Bo hG Y Y Y ?_ | refine Aj 0 hG Y Y Y Y ?_ | refine Aj 1 hG Y Y Y Y ?_)
      | (show AOp _ _ ⟨_, .indexAddr _ _ _, _, _, _, _⟩ _ _ _; first | refine r_idx0 hG Y Y Y Y Y Y Y ?_ | refine Bn hG Y Y Y Y Y Y Y (by omega) ?_ | refine Bp hG Y Y Y Y Y Y Y (by omega) ?_ | refine r_idx hG Y Y ?_)
      | (show AOp _ _ ⟨_, .convert _ _ _, _, _, _, _⟩ _ _ _; first | refine r_cv8 hG Y Y Y Y Y Y ?_ | refine A4 hG Y Y Y Y Y (by omega) ?_ | refine B5 hG Y Y Y Y Y (by omega) ?_ | refine Bc hG Y Y Y Y Y ?_)
      | (show AOp _ _ ⟨_, .slice _ _ _ _ _, _, _, _, _⟩ _ _ _; first | refine B2 hG Y Y Y Y Y Y Y (by omega) ?_ | refine r_sl_lo hG Y Y Y Y Y Y Y (by omega) ?_ | refine r_sl hG Y Y ?_)
      | (show AOp _ _ ⟨_, .unOp _ _ _, _, _, _, _⟩ _ _ _; refine r_not hG Y Y Y ?_)
      | (show AOp _ _ ⟨_, .buildSlice _ _ _, _, _, _, _⟩ _ _ _; first | refine r_mk (sz := 2) hG Y Y Y Y Y Y Y ?_)
      | (show AOp _ _ ⟨_, .build _ _, _, _, _, _⟩ _ _ _; refine B0 hG Y Y Y Y Y ?_)
      | (show AOp _ _ ⟨_, .alloc _, _, _, _, _⟩ _ _ _; refine Bg hG Y Y (fun i => ?_))
      | (show AOp _ _ ⟨_, .store _ _ _, _, _, _, _⟩ _ _ _; first | refine Ax 0 hG Y Y Y Y Y Y Y ?_ | refine Ax 1 hG Y Y Y Y Y Y Y ?_)
      | (show AOp _ _ ⟨_, .call ⟨.builtin .append, _, _⟩, _, _, _, _⟩ _ _ _; first | refine Bq (sz := 1) (xs := []) hG Y Y Y Y Y Y Y ⟨_, Y⟩ Y Y Y Y Y Y Y (by first | omega | (simp; omega)) (fun k => ?_) | refine Bv 0 hG Y Y Y Y Y Y Y ⟨_, Y⟩ Y Y Y Y Y (by first | omega | (simp only [List.length_append, List.length_cons, List.length_nil]; omega)) (fun k => ?_) | fail)
      | refine r_q hG Y Y Y ?_); try exact kk)
    | (show AL _ _ _ _ _ _ _ _; first | refine Bd Y Y Y ?_ | (refine Al ?_; first | show AW _ _ _ _ _ _ | show ∃ x', _ < _ ∧ _)) | (show AW _ _ (.seq _ _) _ _ _; refine Af ?_; intro Q1) | (show AW _ _ (.region _ _ false) _ _ _; refine Ad ?_; intro O1) | (show AW _ _ (.cond _ _ _) _ _ _; first | refine Ai Y ?_ | refine Ah Y ?_) | (show AW _ _ (.skip) _ _ _; refine Ag ?_; first | show AW _ _ _ _ _ _ | show ∃ x', _ < _ ∧ _) | (show AW _ _ (.goto _) _ _ _; refine Bz ?_; try dsimp only [Ar, Aa, Ap, Ab]) | (show AW _ _ (.ret) _ _ _; refine Av ?_; try dsimp only [Ar, Aa, Ap, Ab])
    | (show DL _ _ _ _ _ _ _; refine dl_d Y Y (fun K kt kf => Aq hG Y Y Y Y Y kt kf) (fun h => ?_) (fun h => ?_))
    | (show DL _ _ _ _ _ _ _; refine dl_s Y Y Y ?_) | (show DL _ _ _ _ _ _ _; refine Bk ?_; first | show AW _ _ _ _ _ _ | show ∃ x', _ < _ ∧ _) | (show AW _ _ (.region _ _ true) _ _ _; refine A8 mix (by kernel_rfl) ?_; intro O1) | fail)
  refine aw_scope' 0 rfl (X := LtX b) (fun x => [(0, sT b), (2, .ptr x.q 0), (3, .int .i64 x.p), (5, .int .i64 x.left)])
    (fun x => match x.k with
      | none => ⟨[(x.q, .cells [bT (b.getD 0 default), .nilsl])], [], off, none⟩
      | some k => ⟨[(x.q, .cells [bT (b.getD 0 default), .sl 2 (.tok k) (x.acc.map pT)])], [k], off, none⟩) (fun x => x.left) ?_ ?_
  · rintro ⟨left, h256, acc, p, q, h2, hp, hr, k, hk, hacc⟩
    dsimp only
    have hu8 := (b.getD 1 default).toNat_lt
    have hT : Bl b = match takeP b left acc p with
      | none => ⟨0, [], 0, 3⟩
      | some (l, q) => if mayLab (b.getD 0 default) l then ⟨b.getD 0 default, l, q, 0⟩ else ⟨0, [], 0, 2⟩ := by rw [Bl, if_neg h2, ← hr]; rfl
    by_cases hlft : left = 0
    · subst hlft
      rw [takeP] at hT
      dsimp only at hT
      have hM := label_May (df := b.getD 0 default) (l := acc) (by omega)
      cases k with
      | none =>
        obtain rfl := hk rfl
        have hM1 := Pure.weak hM (ts := [.agg [bT (b.getD 0 default), .nilsl]]) (wk1 (Wk.aggL (wk2 (.refl _) (.nil 2))))
        cases hm : mayLab (b.getD 0 default) [] <;> rw [hm] at hM1 hT
        · rw [if_neg Bool.false_ne_true] at hT
          repeat' (first
    | ((first | (show AL _ _ _ _ _ _ _ _; refine Ac Y ?_) | (show DL _ _ _ _ _ _ _; refine' Be Y Y (fun K kk => ?_) ?_; try (show Go.Ts.T; rotate_left))); (first
      | (show AOp _ _ ⟨_, .move _, _, _, _, _⟩ _ _ _; refine Ao hG Y Y ?_)
      | (show AOp _ _ ⟨_, .assign _, _, _, _, _⟩ _ _ _; refine A1 hG Y Y ?_)
      | (show AOp _ _ ⟨_, .call ⟨.builtin .len, _, _⟩, _, _, _, _⟩ _ _ _; first | refine Bb hG Y Y Y Y ?_ | refine Bi hG Y Y Y Y Y ?_)
      | (show AOp _ _ ⟨_, .binOp .add _ _ _ _, _, _, _, _⟩ _ _ _; first | refine Az hG Y Y Y Y Y (by omega) ?_)
      | (show AOp _ _ ⟨_, .binOp .sub _ _ _ _, _, _, _, _⟩ _ _ _; first | refine Az hG Y Y Y Y Y (by omega) ?_)
      | (show AOp _ _ ⟨_, .binOp _ _ _ _ _, _, _, _, _⟩ _ _ _; first | refine Au hG Y Y Y Y Y (by omega) ?_ | refine As hG Y Y Y Y Y (by omega) ?_ | ((fail_if_success have := kk); refine Aq hG Y Y Y Y Y (fun h => ?_) (fun h => ?_)))
      | (show AOp _ _ ⟨_, .load _ _, _, _, _, _⟩ _ _ _; first | refine Bo hG Y Y Y ?_ | refine Aj 0 hG Y Y Y Y ?_ | refine Aj 1 hG Y Y Y Y ?_)
      | (show AOp _ _ ⟨_, .indexAddr _ _ _, _, _, _, _⟩ _ _ _; first | refine r_idx0 hG Y Y Y Y Y Y Y ?_ | refine Bn hG Y Y Y Y Y Y Y (by omega) ?_ | refine Bp hG Y Y Y Y Y Y Y (by omega) ?_ | refine r_idx hG Y Y ?_)
      | (show AOp _ _ ⟨_, .convert _ _ _, _, _, _, _⟩ _ _ _; first | refine r_cv8 hG Y Y Y Y Y Y ?_ | refine A4 hG Y Y Y Y Y (by omega) ?_ | refine B5 hG Y Y Y Y Y (by omega) ?_ | refine Bc hG Y Y Y Y Y ?_)
      | (show AOp _ _ ⟨_, .slice _ _ _ _ _, _, _, _, _⟩ _ _ _; first | refine B2 hG Y Y Y Y Y Y Y (by omega) ?_ | refine r_sl_lo hG Y Y Y Y Y Y Y (by omega) ?_ | refine r_sl hG Y Y ?_)
      | (show AOp _ _ ⟨_, .unOp _ _ _, _, _, _, _⟩ _ _ _; refine r_not hG Y Y Y ?_)
      | (show AOp _ _ ⟨_, .buildSlice _ _ _, _, _, _, _⟩ _ _ _; first | refine r_mk (sz := 2) hG Y Y Y Y Y Y Y ?_)
      | (show AOp _ _ ⟨_, .build _ _, _, _, _, _⟩ _ _ _; refine B0 hG Y Y Y Y Y ?_)
      | (show AOp _ _ ⟨_, .alloc _, _, _, _, _⟩ _ _ _; refine Bg hG Y Y (fun i => ?_))
      | (show AOp _ _ ⟨_, .store _ _ _, _, _, _, _⟩ _ _ _; first | refine Ax 0 hG Y Y Y Y Y Y Y ?_ | refine Ax 1 hG Y Y Y Y Y Y Y ?_)
      | (show AOp _ _ ⟨_, .call ⟨.builtin .append, _, _⟩, _, _, _, _⟩ _ _ _; first | refine Bq (sz := 1) (xs := []) hG Y Y Y Y Y Y Y ⟨_, Y⟩ Y Y Y Y Y Y Y (by first | omega | (simp; omega)) (fun k => ?_) | refine Bv 0 hG Y Y Y Y Y Y Y ⟨_, Y⟩ Y Y Y Y Y (by first | omega | (simp only [List.length_append, List.length_cons, List.length_nil]; omega)) (fun k => ?_) | fail)
      | (show AOp _ _ ⟨_, .call ⟨.value _, _, _⟩, _, _, _, _⟩ _ _ _; first | refine A7 Y Y Y Y Y (by apply hM1 <;> (first | assumption | omega | exact Ae _ _ | exact Ak _ | exact Am _ _ | exact Ay _ | rfl | (simp; omega))) ?_ | fail)
      | refine r_q hG Y Y Y ?_); try exact kk)
    | (show AL _ _ _ _ _ _ _ _; first | refine Bd Y Y Y ?_ | (refine Al ?_; first | show AW _ _ _ _ _ _ | show ∃ x', _ < _ ∧ _)) | (show AW _ _ (.seq _ _) _ _ _; refine Af ?_; intro Q1) | (show AW _ _ (.region _ _ false) _ _ _; refine Ad ?_; intro O1) | (show AW _ _ (.cond _ _ _) _ _ _; first | refine Ai Y ?_ | refine Ah Y ?_) | (show AW _ _ (.skip) _ _ _; refine Ag ?_; first | show AW _ _ _ _ _ _ | show ∃ x', _ < _ ∧ _) | (show AW _ _ (.goto _) _ _ _; refine Bz ?_; try dsimp only [Ar, Aa, Ap, Ab]) | (show AW _ _ (.ret) _ _ _; refine Av ?_; try dsimp only [Ar, Aa, Ap, Ab])
    | (show DL _ _ _ _ _ _ _; refine dl_d Y Y (fun K kt kf => Aq hG Y Y Y Y Y kt kf) (fun h => ?_) (fun h => ?_))
    | (show DL _ _ _ _ _ _ _; refine dl_s Y Y Y ?_) | (show DL _ _ _ _ _ _ _; refine Bk ?_; first | show AW _ _ _ _ _ _ | show ∃ x', _ < _ ∧ _) | (show AW _ _ (.region _ _ true) _ _ _; refine A8 mix (by kernel_rfl) ?_; intro O1) | fail)
          refine A9 (res_cell 0 rfl rfl rfl (A2 rfl (A2 rfl A3))) ?_ rfl
          rw [hT]
          exact Wk.tupL (wk3 (Wk.aggL (wk2 (.refl _) (.nil 2))) (.refl _) (.refl _))
        · rw [if_pos rfl] at hT
          repeat' (first
    | ((first | (show AL _ _ _ _ _ _ _ _; refine Ac Y ?_) | (show DL _ _ _ _ _ _ _; refine' Be Y Y (fun K kk => ?_) ?_; try (show Go.Ts.T; rotate_left))); (first
      | (show AOp _ _ ⟨_, .move _, _, _, _, _⟩ _ _ _; refine Ao hG Y Y ?_)
      | (show AOp _ _ ⟨_, .assign _, _, _, _, _⟩ _ _ _; refine A1 hG Y Y ?_)
      | (show AOp _ _ ⟨_, .call ⟨.builtin .len, _, _⟩, _, _, _, _⟩ _ _ _; first | refine Bb hG Y Y Y Y ?_ | refine Bi hG Y Y Y Y Y ?_)
      | (show AOp _ _ ⟨_, .binOp .add _ _ _ _, _, _, _, _⟩ _ _ _; first | refine Az hG Y Y Y Y Y (by omega) ?_)
      | (show AOp _ _ ⟨_, .binOp .sub _ _ _ _, _, _, _, _⟩ _ _ _; first | refine Az hG Y Y Y Y Y (by omega) ?_)
      | (show AOp _ _ ⟨_, .binOp _ _ _ _ _, _, _, _, _⟩ _ _ _; first | refine Au hG Y Y Y Y Y (by omega) ?_ | refine As hG Y Y Y Y Y (by omega) ?_ | ((fail_if_success have := kk); refine Aq hG Y Y Y Y Y (fun h => ?_) (fun h => ?_)))
      | (show AOp _ _ ⟨_, .load _ _, _, _, _, _⟩ _ _ _; first | refine Bo hG Y Y Y ?_ | refine Aj 0 hG Y Y Y Y ?_ | refine Aj 1 hG Y Y Y Y ?_)
      | (show AOp _ _ ⟨_, .indexAddr _ _ _, _, _, _, _⟩ _ _ _; first | refine r_idx0 hG Y Y Y Y Y Y Y ?_ | refine Bn hG Y Y Y Y Y Y Y (by omega) ?_ | refine Bp hG Y Y Y Y Y Y Y (by omega) ?_ | refine r_idx hG Y Y ?_)
      | (show AOp _ _ ⟨_, .convert _ _ _, _, _, _, _⟩ _ _ _; first | refine r_cv8 hG Y Y Y Y Y Y ?_ | refine A4 hG Y Y Y Y Y (by omega) ?_ | refine B5 hG Y Y Y Y Y (by omega) ?_ | refine Bc hG Y Y Y Y Y ?_)
      | (show AOp _ _ ⟨_, .slice _ _ _ _ _, _, _, _, _⟩ _ _ _; first | refine B2 hG Y Y Y Y Y Y Y (by omega) ?_ | refine r_sl_lo hG Y Y Y Y Y Y Y (by omega) ?_ | refine r_sl hG Y Y ?_)
      | (show AOp _ _ ⟨_, .unOp _ _ _, _, _, _, _⟩ _ _ _; refine r_not hG Y Y Y ?_)
      | (show AOp _ _ ⟨_, .buildSlice _ _ _, _, _, _, _⟩ _ _ _; first | refine r_mk (sz := 2) hG Y Y Y Y Y Y Y ?_)
      | (show AOp _ _ ⟨_, .build _ _, _, _, _, _⟩ _ _ _; refine B0 hG Y Y Y Y Y ?_)
      | (show AOp _ _ ⟨_, .alloc _, _, _, _, _⟩ _ _ _; refine Bg hG Y Y (fun i => ?_))
      | (show AOp _ _ ⟨_, .store _ _ _, _, _, _, _⟩ _ _ _; first | refine Ax 0 hG Y Y Y Y Y Y Y ?_ | refine Ax 1 hG Y Y Y Y Y Y Y ?_)
      | (show AOp _ _ ⟨_, .call ⟨.builtin .append, _, _⟩, _, _, _, _⟩ _ _ _; first | refine Bq (sz := 1) (xs := []) hG Y Y Y Y Y Y Y ⟨_, Y⟩ Y Y Y Y Y Y Y (by first | omega | (simp; omega)) (fun k => ?_) | refine Bv 0 hG Y Y Y Y Y Y Y ⟨_, Y⟩ Y Y Y Y Y (by first | omega | (simp only [List.length_append, List.length_cons, List.length_nil]; omega)) (fun k => ?_) | fail)
      | (show AOp _ _ ⟨_, .call ⟨.value _, _, _⟩, _, _, _, _⟩ _ _ _; first | refine A7 Y Y Y Y Y (by apply hM1 <;> (first | assumption | omega | exact Ae _ _ | exact Ak _ | exact Am _ _ | exact Ay _ | rfl | (simp; omega))) ?_ | fail)
      | refine r_q hG Y Y Y ?_); try exact kk)
    | (show AL _ _ _ _ _ _ _ _; first | refine Bd Y Y Y ?_ | (refine Al ?_; first | show AW _ _ _ _ _ _ | show ∃ x', _ < _ ∧ _)) | (show AW _ _ (.seq _ _) _ _ _; refine Af ?_; intro Q1) | (show AW _ _ (.region _ _ false) _ _ _; refine Ad ?_; intro O1) | (show AW _ _ (.cond _ _ _) _ _ _; first | refine Ai Y ?_ | refine Ah Y ?_) | (show AW _ _ (.skip) _ _ _; refine Ag ?_; first | show AW _ _ _ _ _ _ | show ∃ x', _ < _ ∧ _) | (show AW _ _ (.goto _) _ _ _; refine Bz ?_; try dsimp only [Ar, Aa, Ap, Ab]) | (show AW _ _ (.ret) _ _ _; refine Av ?_; try dsimp only [Ar, Aa, Ap, Ab])
    | (show DL _ _ _ _ _ _ _; refine dl_d Y Y (fun K kt kf => Aq hG Y Y Y Y Y kt kf) (fun h => ?_) (fun h => ?_))
    | (show DL _ _ _ _ _ _ _; refine dl_s Y Y Y ?_) | (show DL _ _ _ _ _ _ _; refine Bk ?_; first | show AW _ _ _ _ _ _ | show ∃ x', _ < _ ∧ _) | (show AW _ _ (.region _ _ true) _ _ _; refine A8 mix (by kernel_rfl) ?_; intro O1) | fail)
          refine A9 (res_cell 0 rfl rfl rfl (A2 rfl (A2 rfl A3))) ?_ rfl
          rw [hT]
          exact Wk.tupL (wk3 (Wk.aggL (wk2 (.refl _) (.nil 2))) (.refl _) (.refl _))
      | some k =>
        have hM1 := Pure.weak hM (ts := [.agg [bT (b.getD 0 default), .sl 2 (.tok k) (acc.map pT)]]) (wk1 (Wk.aggL (wk2 (.refl _) (Wk.own _ _ _))))
        cases hm : mayLab (b.getD 0 default) acc <;> rw [hm] at hM1 hT
        · rw [if_neg Bool.false_ne_true] at hT
          repeat' (first
    | ((first | (show AL _ _ _ _ _ _ _ _; refine Ac Y ?_) | (show DL _ _ _ _ _ _ _; refine' Be Y Y (fun K kk => ?_) ?_; try (show Go.Ts.T; rotate_left))); (first
      | (show AOp _ _ ⟨_, .move _, _, _, _, _⟩ _ _ _; refine Ao hG Y Y ?_)
      | (show AOp _ _ ⟨_, .assign _, _, _, _, _⟩ _ _ _; refine A1 hG Y Y ?_)
      | (show AOp _ _ ⟨_, .call ⟨.builtin .len, _, _⟩, _, _, _, _⟩ _ _ _; first | refine Bb hG Y Y Y Y ?_ | refine Bi hG Y Y Y Y Y ?_)
      | (show AOp _ _ ⟨_, .binOp .add _ _ _ _, _, _, _, _⟩ _ _ _; first | refine Az hG Y Y Y Y Y (by omega) ?_)
      | (show AOp _ _ ⟨_, .binOp .sub _ _ _ _, _, _, _, _⟩ _ _ _; first | refine Az hG Y Y Y Y Y (by omega) ?_)
      | (show AOp _ _ ⟨_, .binOp _ _ _ _ _, _, _, _, _⟩ _ _ _; first | refine Au hG Y Y Y Y Y (by omega) ?_ | refine As hG Y Y Y Y Y (by omega) ?_ | ((fail_if_success have := kk); refine Aq hG Y Y Y Y Y (fun h => ?_) (fun h => ?_)))
      | (show AOp _ _ ⟨_, .load _ _, _, _, _, _⟩ _ _ _; first | refine Bo hG Y Y Y ?_ | refine Aj 0 hG Y Y Y Y ?_ | refine Aj 1 hG Y Y Y Y ?_)
      | (show AOp _ _ ⟨_, .indexAddr _ _ _, _, _, _, _⟩ _ _ _; first | refine r_idx0 hG Y Y Y Y Y Y Y ?_ | refine Bn hG Y Y Y Y Y Y Y (by omega) ?_ | refine Bp hG Y Y Y Y Y Y Y (by omega) ?_ | refine r_idx hG Y Y ?_)
      | (show AOp _ _ ⟨_, .convert _ _ _, _, _, _, _⟩ _ _ _; first | refine r_cv8 hG Y Y Y Y Y Y ?_ | refine A4 hG Y Y Y Y Y (by omega) ?_ | refine B5 hG Y Y Y Y Y (by omega) ?_ | refine Bc hG Y Y Y Y Y ?_)
      | (show AOp _ _ ⟨_, .slice _ _ _ _ _, _, _, _, _⟩ _ _ _; first | refine B2 hG Y Y Y Y Y Y Y (by omega) ?_ | refine r_sl_lo hG Y Y Y Y Y Y Y (by omega) ?_ | refine r_sl hG Y Y ?_)
      | (show AOp _ _ ⟨_, .unOp _ _ _, _, _, _, _⟩ _ _ _; refine r_not hG Y Y Y ?_)
      | (show AOp _ _ ⟨_, .buildSlice _ _ _, _, _, _, _⟩ _ _ _; first | refine r_mk (sz := 2) hG Y Y Y Y Y Y Y ?_)
      | (show AOp _ _ ⟨_, .build _ _, _, _, _, _⟩ _ _ _; refine B0 hG Y Y Y Y Y ?_)
      | (show AOp _ _ ⟨_, .alloc _, _, _, _, _⟩ _ _ _; refine Bg hG Y Y (fun i => ?_))
      | (show AOp _ _ ⟨_, .store _ _ _, _, _, _, _⟩ _ _ _; first | refine Ax 0 hG Y Y Y Y Y Y Y ?_ | refine Ax 1 hG Y Y Y Y Y Y Y ?_)
      | (show AOp _ _ ⟨_, .call ⟨.builtin .append, _, _⟩, _, _, _, _⟩ _ _ _; first | refine Bq (sz := 1) (xs := []) hG Y Y Y Y Y Y Y ⟨_, Y⟩ Y Y Y Y Y Y Y (by first | omega | (simp; omega)) (fun k => ?_) | refine Bv 0 hG Y Y Y Y Y Y Y ⟨_, Y⟩ Y Y Y Y Y (by first | omega | (simp only [List.length_append, List.length_cons, List.length_nil]; omega)) (fun k => ?_) | fail)
      | (show AOp _ _ ⟨_, .call ⟨.value _, _, _⟩, _, _, _, _⟩ _ _ _; first | refine A7 Y Y Y Y Y (by apply hM1 <;> (first | assumption | omega | exact Ae _ _ | exact Ak _ | exact Am _ _ | exact Ay _ | rfl | (simp; omega))) ?_ | fail)
      | refine r_q hG Y Y Y ?_); try exact kk)
    | (show AL _ _ _ _ _ _ _ _; first | refine Bd Y Y Y ?_ | (refine Al ?_; first | show AW _ _ _ _ _ _ | show ∃ x', _ < _ ∧ _)) | (show AW _ _ (.seq _ _) _ _ _; refine Af ?_; intro Q1) | (show AW _ _ (.region _ _ false) _ _ _; refine Ad ?_; intro O1) | (show AW _ _ (.cond _ _ _) _ _ _; first | refine Ai Y ?_ | refine Ah Y ?_) | (show AW _ _ (.skip) _ _ _; refine Ag ?_; first | show AW _ _ _ _ _ _ | show ∃ x', _ < _ ∧ _) | (show AW _ _ (.goto _) _ _ _; refine Bz ?_; try dsimp only [Ar, Aa, Ap, Ab]) | (show AW _ _ (.ret) _ _ _; refine Av ?_; try dsimp only [Ar, Aa, Ap, Ab])
    | (show DL _ _ _ _ _ _ _; refine dl_d Y Y (fun K kt kf => Aq hG Y Y Y Y Y kt kf) (fun h => ?_) (fun h => ?_))
    | (show DL _ _ _ _ _ _ _; refine dl_s Y Y Y ?_) | (show DL _ _ _ _ _ _ _; refine Bk ?_; first | show AW _ _ _ _ _ _ | show ∃ x', _ < _ ∧ _) | (show AW _ _ (.region _ _ true) _ _ _; refine A8 mix (by kernel_rfl) ?_; intro O1) | fail)
          refine A9 (res_cell 0 rfl rfl rfl (A2 rfl (A2 rfl A3))) ?_ rfl
          rw [hT]
          exact Wk.tupL (wk3 (Wk.aggL (wk2 (.refl _) (.nil 2))) (.refl _) (.refl _))
        · rw [if_pos rfl] at hT
          repeat' (first
    | ((first | (show AL _ _ _ _ _ _ _ _; refine Ac Y ?_) | (show DL _ _ _ _ _ _ _; refine' Be Y Y (fun K kk => ?_) ?_; try (show Go.Ts.T; rotate_left))); (first
      | (show AOp _ _ ⟨_, .move _, _, _, _, _⟩ _ _ _; refine Ao hG Y Y ?_)
      | (show AOp _ _ ⟨_, .assign _, _, _, _, _⟩ _ _ _; refine A1 hG Y Y ?_)
      | (show AOp _ _ ⟨_, .call ⟨.builtin .len, _, _⟩, _, _, _, _⟩ _ _ _; first | refine Bb hG Y Y Y Y ?_ | refine Bi hG Y Y Y Y Y ?_)
      | (show AOp _ _ ⟨_, .binOp .add _ _ _ _, _, _, _, _⟩ _ _ _; first | refine Az hG Y Y Y Y Y (by omega) ?_)
      | (show AOp _ _ ⟨_, .binOp .sub _ _ _ _, _, _, _, _⟩ _ _ _; first | refine Az hG Y Y Y Y Y (by omega) ?_)
      | (show AOp _ _ ⟨_, .binOp _ _ _ _ _, _, _, _, _⟩ _ _ _; first | refine Au hG Y Y Y Y Y (by omega) ?_ | refine As hG Y Y Y Y Y (by omega) ?_ | ((fail_if_success have := kk); refine Aq hG Y Y Y Y Y (fun h => ?_) (fun h => ?_)))
      | (show AOp _ _ ⟨_, .load _ _, _, _, _, _⟩ _ _ _; first | refine Bo hG Y Y Y ?_ | refine Aj 0 hG Y Y Y Y ?_ | refine Aj 1 hG Y Y Y Y ?_)
      | (show AOp _ _ ⟨_, .indexAddr _ _ _, _, _, _, _⟩ _ _ _; first | refine r_idx0 hG Y Y Y Y Y Y Y ?_ | refine Bn hG Y Y Y Y Y Y Y (by omega) ?_ | refine Bp hG Y Y Y Y Y Y Y (by omega) ?_ | refine r_idx hG Y Y ?_)
      | (show AOp _ _ ⟨_, .convert _ _ _, _, _, _, _⟩ _ _ _; first | refine r_cv8 hG Y Y Y Y Y Y ?_ | refine A4 hG Y Y Y Y Y (by omega) ?_ | refine B5 hG Y Y Y Y Y (by omega) ?_ | refine Bc hG Y Y Y Y Y ?_)
      | (show AOp _ _ ⟨_, .slice _ _ _ _ _, _, _, _, _⟩ _ _ _; first | refine B2 hG Y Y Y Y Y Y Y (by omega) ?_ | refine r_sl_lo hG Y Y Y Y Y Y Y (by omega) ?_ | refine r_sl hG Y Y ?_)
      | (show AOp _ _ ⟨_, .unOp _ _ _, _, _, _, _⟩ _ _ _; refine r_not hG Y Y Y ?_)
      | (show AOp _ _ ⟨_, .buildSlice _ _ _, _, _, _, _⟩ _ _ _; first | refine r_mk (sz := 2) hG Y Y Y Y Y Y Y ?_)
      | (show AOp _ _ ⟨_, .build _ _, _, _, _, _⟩ _ _ _; refine B0 hG Y Y Y Y Y ?_)
      | (show AOp _ _ ⟨_, .alloc _, _, _, _, _⟩ _ _ _; refine Bg hG Y Y (fun i => ?_))
      | (show AOp _ _ ⟨_, .store _ _ _, _, _, _, _⟩ _ _ _; first | refine Ax 0 hG Y Y Y Y Y Y Y ?_ | refine Ax 1 hG Y Y Y Y Y Y Y ?_)
      | (show AOp _ _ ⟨_, .call ⟨.builtin .append, _, _⟩, _, _, _, _⟩ _ _ _; first | refine Bq (sz := 1) (xs := []) hG Y Y Y Y Y Y Y ⟨_, Y⟩ Y Y Y Y Y Y Y (by first | omega | (simp; omega)) (fun k => ?_) | refine Bv 0 hG Y Y Y Y Y Y Y ⟨_, Y⟩ Y Y Y Y Y (by first | omega | (simp only [List.length_append, List.length_cons, List.length_nil]; omega)) (fun k => ?_) | fail)
      | (show AOp _ _ ⟨_, .call ⟨.value _, _, _⟩, _, _, _, _⟩ _ _ _; first | refine A7 Y Y Y Y Y (by apply hM1 <;> (first | assumption | omega | exact Ae _ _ | exact Ak _ | exact Am _ _ | exact Ay _ | rfl | (simp; omega))) ?_ | fail)
      | refine r_q hG Y Y Y ?_); try exact kk)
    | (show AL _ _ _ _ _ _ _ _; first | refine Bd Y Y Y ?_ | (refine Al ?_; first | show AW _ _ _ _ _ _ | show ∃ x', _ < _ ∧ _)) | (show AW _ _ (.seq _ _) _ _ _; refine Af ?_; intro Q1) | (show AW _ _ (.region _ _ false) _ _ _; refine Ad ?_; intro O1) | (show AW _ _ (.cond _ _ _) _ _ _; first | refine Ai Y ?_ | refine Ah Y ?_) | (show AW _ _ (.skip) _ _ _; refine Ag ?_; first | show AW _ _ _ _ _ _ | show ∃ x', _ < _ ∧ _) | (show AW _ _ (.goto _) _ _ _; refine Bz ?_; try dsimp only [Ar, Aa, Ap, Ab]) | (show AW _ _ (.ret) _ _ _; refine Av ?_; try dsimp only [Ar, Aa, Ap, Ab])
    | (show DL _ _ _ _ _ _ _; refine dl_d Y Y (fun K kt kf => Aq hG Y Y Y Y Y kt kf) (fun h => ?_) (fun h => ?_))
    | (show DL _ _ _ _ _ _ _; refine dl_s Y Y Y ?_) | (show DL _ _ _ _ _ _ _; refine Bk ?_; first | show AW _ _ _ _ _ _ | show ∃ x', _ < _ ∧ _) | (show AW _ _ (.region _ _ true) _ _ _; refine A8 mix (by kernel_rfl) ?_; intro O1) | fail)
          refine A9 (res_cell 0 rfl rfl rfl (A2 rfl (A2 rfl A3))) ?_ rfl
          rw [hT]
          exact Wk.tupL (wk3 (Wk.aggL (wk2 (.refl _) (Wk.own _ _ _))) (.refl _) (.refl _))
    · obtain ⟨m, rfl⟩ : ∃ m, left = m + 1 := ⟨left - 1, by omega⟩
      by_cases h3 : b.length - p < 3
      · have hT3 : Bl b = ⟨0, [], 0, 3⟩ := by rw [hT, takeP, if_pos h3]
        cases k with
        | none =>
          repeat' (first
    | ((first | (show AL _ _ _ _ _ _ _ _; refine Ac Y ?_) | (show DL _ _ _ _ _ _ _; refine' Be Y Y (fun K kk => ?_) ?_; try (show Go.Ts.T; rotate_left))); (first
      | (show AOp _ _ ⟨_, .move _, _, _, _, _⟩ _ _ _; refine Ao hG Y Y ?_)
      | (show AOp _ _ ⟨_, .assign _, _, _, _, _⟩ _ _ _; refine A1 hG Y Y ?_)
      | (show AOp _ _ ⟨_, .call ⟨.builtin .len, _, _⟩, _, _, _, _⟩ _ _ _; first | refine Bb hG Y Y Y Y ?_ | refine Bi hG Y Y Y Y Y ?_)
      | (show AOp _ _ ⟨_, .binOp .add _ _ _ _, _, _, _, _⟩ _ _ _; first | refine Az hG Y Y Y Y Y (by omega) ?_)
      | (show AOp _ _ ⟨_, .binOp .sub _ _ _ _, _, _, _, _⟩ _ _ _; first | refine Az hG Y Y Y Y Y (by omega) ?_)
      | (show AOp _ _ ⟨_, .binOp _ _ _ _ _, _, _, _, _⟩ _ _ _; first | refine Au hG Y Y Y Y Y (by omega) ?_ | refine As hG Y Y Y Y Y (by omega) ?_ | ((fail_if_success have := kk); refine Aq hG Y Y Y Y Y (fun h => ?_) (fun h => ?_)))
      | (show AOp _ _ ⟨_, .load _ _, _, _, _, _⟩ _ _ _; first | refine Bo hG Y Y Y ?_ | refine Aj 0 hG Y Y Y Y ?_ | refine Aj 1 hG Y Y Y Y ?_)
      | (show AOp _ _ ⟨_, .indexAddr _ _ _, _, _, _, _⟩ _ _ _; first | refine r_idx0 hG Y Y Y Y Y Y Y ?_ | refine Bn hG Y Y Y Y Y Y Y (by omega) ?_ | refine Bp hG Y Y Y Y Y Y Y (by omega) ?_ | refine r_idx hG Y Y ?_)
      | (show AOp _ _ ⟨_, .convert _ _ _, _, _, _, _⟩ _ _ _; first | refine r_cv8 hG Y Y Y Y Y Y ?_ | refine A4 hG Y Y Y Y Y (by omega) ?_ | refine B5 hG Y Y Y Y Y (by omega) ?_ | refine Bc hG Y Y Y Y Y ?_)
      | (show AOp _ _ ⟨_, .slice _ _ _ _ _, _, _, _, _⟩ _ _ _; first | refine B2 hG Y Y Y Y Y Y Y (by omega) ?_ | refine r_sl_lo hG Y Y Y Y Y Y Y (by omega) ?_ | refine r_sl hG Y Y ?_)
      | (show AOp _ _ ⟨_, .unOp _ _ _, _, _, _, _⟩ _ _ _; refine r_not hG Y Y Y ?_)
      | (show AOp _ _ ⟨_, .buildSlice _ _ _, _, _, _, _⟩ _ _ _; first | refine r_mk (sz := 2) hG Y Y Y Y Y Y Y ?_)
      | (show AOp _ _ ⟨_, .build _ _, _, _, _, _⟩ _ _ _; refine B0 hG Y Y Y Y Y ?_)
      | (show AOp _ _ ⟨_, .alloc _, _, _, _, _⟩ _ _ _; refine Bg hG Y Y (fun i => ?_))
      | (show AOp _ _ ⟨_, .store _ _ _, _, _, _, _⟩ _ _ _; first | refine Ax 0 hG Y Y Y Y Y Y Y ?_ | refine Ax 1 hG Y Y Y Y Y Y Y ?_)
      | (show AOp _ _ ⟨_, .call ⟨.builtin .append, _, _⟩, _, _, _, _⟩ _ _ _; first | refine Bq (sz := 1) (xs := []) hG Y Y Y Y Y Y Y ⟨_, Y⟩ Y Y Y Y Y Y Y (by first | omega | (simp; omega)) (fun k => ?_) | refine Bv 0 hG Y Y Y Y Y Y Y ⟨_, Y⟩ Y Y Y Y Y (by first | omega | (simp only [List.length_append, List.length_cons, List.length_nil]; omega)) (fun k => ?_) | fail)
      | refine r_q hG Y Y Y ?_); try exact kk)
    | (show AL _ _ _ _ _ _ _ _; first | refine Bd Y Y Y ?_ | (refine Al ?_; first | show AW _ _ _ _ _ _ | show ∃ x', _ < _ ∧ _)) | (show AW _ _ (.seq _ _) _ _ _; refine Af ?_; intro Q1) | (show AW _ _ (.region _ _ false) _ _ _; refine Ad ?_; intro O1) | (show AW _ _ (.cond _ _ _) _ _ _; first | refine Ai Y ?_ | refine Ah Y ?_) | (show AW _ _ (.skip) _ _ _; refine Ag ?_; first | show AW _ _ _ _ _ _ | show ∃ x', _ < _ ∧ _) | (show AW _ _ (.goto _) _ _ _; refine Bz ?_; try dsimp only [Ar, Aa, Ap, Ab]) | (show AW _ _ (.ret) _ _ _; refine Av ?_; try dsimp only [Ar, Aa, Ap, Ab])
    | (show DL _ _ _ _ _ _ _; refine dl_d Y Y (fun K kt kf => Aq hG Y Y Y Y Y kt kf) (fun h => ?_) (fun h => ?_))
    | (show DL _ _ _ _ _ _ _; refine dl_s Y Y Y ?_) | (show DL _ _ _ _ _ _ _; refine Bk ?_; first | show AW _ _ _ _ _ _ | show ∃ x', _ < _ ∧ _) | (show AW _ _ (.region _ _ true) _ _ _; refine A8 mix (by kernel_rfl) ?_; intro O1) | fail)
          refine A9 (res_cell 0 rfl rfl rfl (A2 rfl (A2 rfl A3))) ?_ rfl
          rw [hT3]
          exact Wk.tupL (wk3 (Wk.aggL (wk2 (.refl _) (.nil 2))) (.refl _) (.refl _))
        | some k =>
          repeat' (first
    | ((first | (show AL _ _ _ _ _ _ _ _; refine Ac Y ?_) | (show DL _ _ _ _ _ _ _; refine' Be Y Y (fun K kk => ?_) ?_; try (show Go.Ts.T; rotate_left))); (first
      | (show AOp _ _ ⟨_, .move _, _, _, _, _⟩ _ _ _; refine Ao hG Y Y ?_)
      | (show AOp _ _ ⟨_, .assign _, _, _, _, _⟩ _ _ _; refine A1 hG Y Y ?_)
      | (show AOp _ _ ⟨_, .call ⟨.builtin .len, _, _⟩, _, _, _, _⟩ _ _ _; first | refine Bb hG Y Y Y Y ?_ | refine Bi hG Y Y Y Y Y ?_)
      | (show AOp _ _ ⟨_, .binOp .add _ _ _ _, _, _, _, _⟩ _ _ _; first | refine Az hG Y Y Y Y Y (by omega) ?_)
      | (show AOp _ _ ⟨_, .binOp .sub _ _ _ _, _, _, _, _⟩ _ _ _; first | refine Az hG Y Y Y Y Y (by omega) ?_)
      | (show AOp _ _ ⟨_, .binOp _ _ _ _ _, _, _, _, _⟩ _ _ _; first | refine Au hG Y Y Y Y Y (by omega) ?_ | refine As hG Y Y Y Y Y (by omega) ?_ | ((fail_if_success have := kk); refine Aq hG Y Y Y Y Y (fun h => ?_) (fun h => ?_)))
      | (show AOp _ _ ⟨_, .load _ _, _, _, _, _⟩ _ _ _; first | refine Bo hG Y Y Y ?_ | refine Aj 0 hG Y Y Y Y ?_ | refine Aj 1 hG Y Y Y Y ?_)
      | (show AOp _ _ ⟨_, .indexAddr _ _ _, _, _, _, _⟩ _ _ _; first | refine r_idx0 hG Y Y Y Y Y Y Y ?_ | refine Bn hG Y Y Y Y Y Y Y (by omega) ?_ | refine Bp hG Y Y Y Y Y Y Y (by omega) ?_ | refine r_idx hG Y Y ?_)
      | (show AOp _ _ ⟨_, .convert _ _ _, _, _, _, _⟩ _ _ _; first | refine r_cv8 hG Y Y Y Y Y Y ?_ | refine A4 hG Y Y Y Y Y (by omega) ?_ | refine B5 hG Y Y Y Y Y (by omega) ?_ | refine Bc hG Y Y Y Y Y ?_)
      | (show AOp _ _ ⟨_, .slice _ _ _ _ _, _, _, _, _⟩ _ _ _; first | refine B2 hG Y Y Y Y Y Y Y (by omega) ?_ | refine r_sl_lo hG Y Y Y Y Y Y Y (by omega) ?_ | refine r_sl hG Y Y ?_)
      | (show AOp _ _ ⟨_, .unOp _ _ _, _, _, _, _⟩ _ _ _; refine r_not hG Y Y Y ?_)
      | (show AOp _ _ ⟨_, .buildSlice _ _ _, _, _, _, _⟩ _ _ _; first | refine r_mk (sz := 2) hG Y Y Y Y Y Y Y ?_)
      | (show AOp _ _ ⟨_, .build _ _, _, _, _, _⟩ _ _ _; refine B0 hG Y Y Y Y Y ?_)
      | (show AOp _ _ ⟨_, .alloc _, _, _, _, _⟩ _ _ _; refine Bg hG Y Y (fun i => ?_))
      | (show AOp _ _ ⟨_, .store _ _ _, _, _, _, _⟩ _ _ _; first | refine Ax 0 hG Y Y Y Y Y Y Y ?_ | refine Ax 1 hG Y Y Y Y Y Y Y ?_)
      | (show AOp _ _ ⟨_, .call ⟨.builtin .append, _, _⟩, _, _, _, _⟩ _ _ _; first | refine Bq (sz := 1) (xs := []) hG Y Y Y Y Y Y Y ⟨_, Y⟩ Y Y Y Y Y Y Y (by first | omega | (simp; omega)) (fun k => ?_) | refine Bv 0 hG Y Y Y Y Y Y Y ⟨_, Y⟩ Y Y Y Y Y (by first | omega | (simp only [List.length_append, List.length_cons, List.length_nil]; omega)) (fun k => ?_) | fail)
      | refine r_q hG Y Y Y ?_); try exact kk)
    | (show AL _ _ _ _ _ _ _ _; first | refine Bd Y Y Y ?_ | (refine Al ?_; first | show AW _ _ _ _ _ _ | show ∃ x', _ < _ ∧ _)) | (show AW _ _ (.seq _ _) _ _ _; refine Af ?_; intro Q1) | (show AW _ _ (.region _ _ false) _ _ _; refine Ad ?_; intro O1) | (show AW _ _ (.cond _ _ _) _ _ _; first | refine Ai Y ?_ | refine Ah Y ?_) | (show AW _ _ (.skip) _ _ _; refine Ag ?_; first | show AW _ _ _ _ _ _ | show ∃ x', _ < _ ∧ _) | (show AW _ _ (.goto _) _ _ _; refine Bz ?_; try dsimp only [Ar, Aa, Ap, Ab]) | (show AW _ _ (.ret) _ _ _; refine Av ?_; try dsimp only [Ar, Aa, Ap, Ab])
    | (show DL _ _ _ _ _ _ _; refine dl_d Y Y (fun K kt kf => Aq hG Y Y Y Y Y kt kf) (fun h => ?_) (fun h => ?_))
    | (show DL _ _ _ _ _ _ _; refine dl_s Y Y Y ?_) | (show DL _ _ _ _ _ _ _; refine Bk ?_; first | show AW _ _ _ _ _ _ | show ∃ x', _ < _ ∧ _) | (show AW _ _ (.region _ _ true) _ _ _; refine A8 mix (by kernel_rfl) ?_; intro O1) | fail)
          refine A9 (res_cell 0 rfl rfl rfl (A2 rfl (A2 rfl A3))) ?_ rfl
          rw [hT3]
          exact Wk.tupL (wk3 (Wk.aggL (wk2 (.refl _) (.nil 2))) (.refl _) (.refl _))
      · have hd : (b.drop p).length = b.length - p := List.length_drop
        have hE := takeE2 (b.drop p)
        rw [if_neg (by omega)] at hE
        have hc := num_Take_is (x := .sl 1 .no ((b.drop p).map bT)) (Ae _ _) hE
        have hv := beV2 (b.drop p) (by omega)
        have e2 : ((p : Int) + 3 - 1).toNat = p + 2 := by omega
        have hr2 : takeP b m (acc ++ [(UInt16.ofNat (beV ((b.drop p).take 2)), b.getD (p + 2) default)]) (p + 3) = takeP b (b.getD 1 default).toNat [] 2 := by rw [← hr, takeP, if_neg h3]
        generalize hvv : beV ((b.drop p).take 2) = v at *
        have ht := hT_of v hv
        cases k with
        | none =>
          obtain rfl := hk rfl
          repeat' (first
    | ((first | (show AL _ _ _ _ _ _ _ _; refine Ac Y ?_) | (show DL _ _ _ _ _ _ _; refine' Be Y Y (fun K kk => ?_) ?_; try (show Go.Ts.T; rotate_left))); (first
      | (show AOp _ _ ⟨_, .move _, _, _, _, _⟩ _ _ _; refine Ao hG Y Y ?_)
      | (show AOp _ _ ⟨_, .assign _, _, _, _, _⟩ _ _ _; refine A1 hG Y Y ?_)
      | (show AOp _ _ ⟨_, .call ⟨.builtin .len, _, _⟩, _, _, _, _⟩ _ _ _; first | refine Bb hG Y Y Y Y ?_ | refine Bi hG Y Y Y Y Y ?_)
      | (show AOp _ _ ⟨_, .binOp .add _ _ _ _, _, _, _, _⟩ _ _ _; first | refine Az hG Y Y Y Y Y (by omega) ?_)
      | (show AOp _ _ ⟨_, .binOp .sub _ _ _ _, _, _, _, _⟩ _ _ _; first | refine Az hG Y Y Y Y Y (by omega) ?_)
      | (show AOp _ _ ⟨_, .binOp _ _ _ _ _, _, _, _, _⟩ _ _ _; first | refine Au hG Y Y Y Y Y (by omega) ?_ | refine As hG Y Y Y Y Y (by omega) ?_ | ((fail_if_success have := kk); refine Aq hG Y Y Y Y Y (fun h => ?_) (fun h => ?_)))
      | (show AOp _ _ ⟨_, .load _ _, _, _, _, _⟩ _ _ _; first | refine Bo hG Y Y Y ?_ | refine Aj 0 hG Y Y Y Y ?_ | refine Aj 1 hG Y Y Y Y ?_)
      | (show AOp _ _ ⟨_, .indexAddr _ _ _, _, _, _, _⟩ _ _ _; first | refine r_idx0 hG Y Y Y Y Y Y Y ?_ | refine Bn hG Y Y Y Y Y Y Y (by omega) ?_ | refine Bp hG Y Y Y Y Y Y Y (by omega) ?_ | refine r_idx hG Y Y ?_)
      | (show AOp _ _ ⟨_, .convert _ _ _, _, _, _, _⟩ _ _ _; first | refine r_cv8 hG Y Y Y Y Y Y ?_ | refine A4 hG Y Y Y Y Y (by omega) ?_ | refine B5 hG Y Y Y Y Y (by omega) ?_ | refine Bc hG Y Y Y Y Y ?_)
      | (show AOp _ _ ⟨_, .slice _ _ _ _ _, _, _, _, _⟩ _ _ _; first | refine B2 hG Y Y Y Y Y Y Y (by omega) ?_ | refine r_sl_lo hG Y Y Y Y Y Y Y (by omega) ?_ | refine r_sl hG Y Y ?_)
      | (show AOp _ _ ⟨_, .unOp _ _ _, _, _, _, _⟩ _ _ _; refine r_not hG Y Y Y ?_)
      | (show AOp _ _ ⟨_, .buildSlice _ _ _, _, _, _, _⟩ _ _ _; first | refine r_mk (sz := 2) hG Y Y Y Y Y Y Y ?_)
      | (show AOp _ _ ⟨_, .build _ _, _, _, _, _⟩ _ _ _; refine B0 hG Y Y Y Y Y ?_)
      | (show AOp _ _ ⟨_, .alloc _, _, _, _, _⟩ _ _ _; refine Bg hG Y Y (fun i => ?_))
      | (show AOp _ _ ⟨_, .store _ _ _, _, _, _, _⟩ _ _ _; first | refine Ax 0 hG Y Y Y Y Y Y Y ?_ | refine Ax 1 hG Y Y Y Y Y Y Y ?_)
      | (show AOp _ _ ⟨_, .call ⟨.builtin .append, _, _⟩, _, _, _, _⟩ _ _ _; first | refine Bq (sz := 1) (xs := []) hG Y Y Y Y Y Y Y ⟨_, Y⟩ Y Y Y Y Y Y Y (by first | omega | (simp; omega)) (fun k => ?_) | refine Bv 0 hG Y Y Y Y Y Y Y ⟨_, Y⟩ Y Y Y Y Y (by first | omega | (simp only [List.length_append, List.length_cons, List.length_nil]; omega)) (fun k => ?_) | fail)
      | (show AOp _ _ ⟨_, .call ⟨.value _, _, _⟩, _, _, _, _⟩ _ _ _; first | refine A7 Y Y Y Y Y (by apply hc <;> (first | assumption | omega | exact Ae _ _ | exact Ak _ | exact Am _ _ | exact Ay _ | rfl | (simp; omega))) ?_ | fail)
      | refine r_q hG Y Y Y ?_); try exact kk)
    | (show AL _ _ _ _ _ _ _ _; first | refine Bd Y Y Y ?_ | (refine Al ?_; first | show AW _ _ _ _ _ _ | show ∃ x', _ < _ ∧ _)) | (show AW _ _ (.seq _ _) _ _ _; refine Af ?_; intro Q1) | (show AW _ _ (.region _ _ false) _ _ _; refine Ad ?_; intro O1) | (show AW _ _ (.cond _ _ _) _ _ _; first | refine Ai Y ?_ | refine Ah Y ?_) | (show AW _ _ (.skip) _ _ _; refine Ag ?_; first | show AW _ _ _ _ _ _ | show ∃ x', _ < _ ∧ _) | (show AW _ _ (.goto _) _ _ _; refine Bz ?_; try dsimp only [Ar, Aa, Ap, Ab]) | (show AW _ _ (.ret) _ _ _; refine Av ?_; try dsimp only [Ar, Aa, Ap, Ab])
    | (show DL _ _ _ _ _ _ _; refine dl_d Y Y (fun K kt kf => Aq hG Y Y Y Y Y kt kf) (fun h => ?_) (fun h => ?_))
    | (show DL _ _ _ _ _ _ _; refine dl_s Y Y Y ?_) | (show DL _ _ _ _ _ _ _; refine Bk ?_; first | show AW _ _ _ _ _ _ | show ∃ x', _ < _ ∧ _) | (show AW _ _ (.region _ _ true) _ _ _; (fail_if_success show AW _ _ (.region 9 _ _) _ _ _); refine A8 mix (by kernel_rfl) ?_; intro O1) | fail)
          refine aw_drawE' (m := 15) [1, 12, 14] (fun σ => ∃ x : List T × List Nat, σ = ⟨[(q, .cells x.1)], x.2, off, none⟩) mix rfl (by repeat (first | exact Sp.zero _ | apply Sp.succ)) ?_; intro O1 F1 Z1 Q2
          repeat' (first
    | (refine' dq_cons Y Y Y (fun σ hσ K kk => ?_) ?_; (try (show Go.Ts.T; rotate_left)); (obtain ⟨R, rfl⟩ := hσ); (first
      | (show AOp _ _ ⟨_, .move _, _, _, _, _⟩ _ _ _; refine Ao hG Y Y ?_)
      | (show AOp _ _ ⟨_, .assign _, _, _, _, _⟩ _ _ _; refine A1 hG Y Y ?_)
      | (show AOp _ _ ⟨_, .call ⟨.builtin .len, _, _⟩, _, _, _, _⟩ _ _ _; first | refine Bb hG Y Y Y Y ?_ | refine Bi hG Y Y Y Y Y ?_)
      | (show AOp _ _ ⟨_, .binOp .add _ _ _ _, _, _, _, _⟩ _ _ _; first | refine Az hG Y Y Y Y Y (by omega) ?_)
      | (show AOp _ _ ⟨_, .binOp .sub _ _ _ _, _, _, _, _⟩ _ _ _; first | refine Az hG Y Y Y Y Y (by omega) ?_)
      | (show AOp _ _ ⟨_, .binOp _ _ _ _ _, _, _, _, _⟩ _ _ _; first | refine Au hG Y Y Y Y Y (by omega) ?_ | refine As hG Y Y Y Y Y (by omega) ?_)
      | (show AOp _ _ ⟨_, .load _ _, _, _, _, _⟩ _ _ _; first | refine Bo hG Y Y Y ?_ | refine Aj 0 hG Y Y Y Y ?_ | refine Aj 1 hG Y Y Y Y ?_)
      | (show AOp _ _ ⟨_, .indexAddr _ _ _, _, _, _, _⟩ _ _ _; first | refine r_idx0 hG Y Y Y Y Y Y Y ?_ | refine Bn hG Y Y Y Y Y Y Y (by omega) ?_ | refine Bp hG Y Y Y Y Y Y Y (by omega) ?_ | refine r_idx hG Y Y ?_)
      | (show AOp _ _ ⟨_, .convert _ _ _, _, _, _, _⟩ _ _ _; first | refine r_cv8 hG Y Y Y Y Y Y ?_ | refine A4 hG Y Y Y Y Y (by omega) ?_ | refine B5 hG Y Y Y Y Y (by omega) ?_ | refine Bc hG Y Y Y Y Y ?_)
      | (show AOp _ _ ⟨_, .slice _ _ _ _ _, _, _, _, _⟩ _ _ _; first | refine B2 hG Y Y Y Y Y Y Y (by omega) ?_ | refine r_sl_lo hG Y Y Y Y Y Y Y (by omega) ?_ | refine r_sl hG Y Y ?_)
      | (show AOp _ _ ⟨_, .unOp _ _ _, _, _, _, _⟩ _ _ _; refine r_not hG Y Y Y ?_)
      | (show AOp _ _ ⟨_, .buildSlice _ _ _, _, _, _, _⟩ _ _ _; first | refine r_mk (sz := 2) hG Y Y Y Y Y Y Y ?_)
      | (show AOp _ _ ⟨_, .build _ _, _, _, _, _⟩ _ _ _; refine B0 hG Y Y Y Y Y ?_)
      | (show AOp _ _ ⟨_, .alloc _, _, _, _, _⟩ _ _ _; refine Bg hG Y Y (fun i => ?_))
      | (show AOp _ _ ⟨_, .store _ _ _, _, _, _, _⟩ _ _ _; first | refine Ax 0 hG Y Y Y Y Y Y Y ?_ | refine Ax 1 hG Y Y Y Y Y Y Y ?_)
      | (show AOp _ _ ⟨_, .call ⟨.builtin .append, _, _⟩, _, _, _, _⟩ _ _ _; first | refine Bq (sz := 1) (xs := []) hG Y Y Y Y Y Y Y ⟨_, Y⟩ Y Y Y Y Y Y Y (by first | omega | (simp; omega)) (fun k => ?_) | refine Bv 0 hG Y Y Y Y Y Y Y ⟨_, Y⟩ Y Y Y Y Y (by first | omega | (simp only [List.length_append, List.length_cons, List.length_nil]; omega)) (fun k => ?_) | fail)
      | refine r_q hG Y Y Y ?_); exact kk)
    | refine dq_d Y Y Y (fun σ hσ K kt kf => by obtain ⟨R, rfl⟩ := hσ; exact Aq hG Y Y Y Y Y kt kf) (fun h => ?_) (fun h => ?_)
    | refine dq_d Y Y Y (fun σ hσ K kt kf => by obtain ⟨R, rfl⟩ := hσ; exact r_str hG Y Y Y Y kt kf) (fun h => ?_) (fun h => ?_)
    | refine dq_s Y Y Y Y ?_ | refine dq_e Y ?_ | (refine dq_nil ?_; show EL _ _ _ _ _ _ _ _ _) | refine el_s ⟨_, Y⟩ Y Y Y Y ?_
    | ((first | refine el_cons ⟨_, Y⟩ Y Y Y (fun K ke => ?_) | refine el_consN ⟨_, Y⟩ Y Y Y (fun K ke => ?_)); (first
      | (show AOp _ _ ⟨_, .move _, _, _, _, _⟩ _ _ _; refine Ao hG Y Y ?_)
      | (show AOp _ _ ⟨_, .assign _, _, _, _, _⟩ _ _ _; refine A1 hG Y Y ?_)
      | (show AOp _ _ ⟨_, .call ⟨.builtin .len, _, _⟩, _, _, _, _⟩ _ _ _; first | refine Bb hG Y Y Y Y ?_ | refine Bi hG Y Y Y Y Y ?_)
      | (show AOp _ _ ⟨_, .binOp .add _ _ _ _, _, _, _, _⟩ _ _ _; first | refine Az hG Y Y Y Y Y (by omega) ?_)
      | (show AOp _ _ ⟨_, .binOp .sub _ _ _ _, _, _, _, _⟩ _ _ _; first | refine Az hG Y Y Y Y Y (by omega) ?_)
      | (show AOp _ _ ⟨_, .binOp _ _ _ _ _, _, _, _, _⟩ _ _ _; first | refine Au hG Y Y Y Y Y (by omega) ?_ | refine As hG Y Y Y Y Y (by omega) ?_)
      | (show AOp _ _ ⟨_, .load _ _, _, _, _, _⟩ _ _ _; first | refine Bo hG Y Y Y ?_ | refine Aj 0 hG Y Y Y Y ?_ | refine Aj 1 hG Y Y Y Y ?_)
      | (show AOp _ _ ⟨_, .indexAddr _ _ _, _, _, _, _⟩ _ _ _; first | refine r_idx0 hG Y Y Y Y Y Y Y ?_ | refine Bn hG Y Y Y Y Y Y Y (by omega) ?_ | refine Bp hG Y Y Y Y Y Y Y (by omega) ?_ | refine r_idx hG Y Y ?_)
      | (show AOp _ _ ⟨_, .convert _ _ _, _, _, _, _⟩ _ _ _; first | refine r_cv8 hG Y Y Y Y Y Y ?_ | refine A4 hG Y Y Y Y Y (by omega) ?_ | refine B5 hG Y Y Y Y Y (by omega) ?_ | refine Bc hG Y Y Y Y Y ?_)
      | (show AOp _ _ ⟨_, .slice _ _ _ _ _, _, _, _, _⟩ _ _ _; first | refine B2 hG Y Y Y Y Y Y Y (by omega) ?_ | refine r_sl_lo hG Y Y Y Y Y Y Y (by omega) ?_ | refine r_sl hG Y Y ?_)
      | (show AOp _ _ ⟨_, .unOp _ _ _, _, _, _, _⟩ _ _ _; refine r_not hG Y Y Y ?_)
      | (show AOp _ _ ⟨_, .buildSlice _ _ _, _, _, _, _⟩ _ _ _; first | refine r_mk (sz := 2) hG Y Y Y Y Y Y Y ?_)
      | (show AOp _ _ ⟨_, .build _ _, _, _, _, _⟩ _ _ _; refine B0 hG Y Y Y Y Y ?_)
      | (show AOp _ _ ⟨_, .alloc _, _, _, _, _⟩ _ _ _; refine Bg hG Y Y (fun i => ?_))
      | (show AOp _ _ ⟨_, .store _ _ _, _, _, _, _⟩ _ _ _; first | refine Ax 0 hG Y Y Y Y Y Y Y ?_ | refine Ax 1 hG Y Y Y Y Y Y Y ?_)
      | (show AOp _ _ ⟨_, .call ⟨.builtin .append, _, _⟩, _, _, _, _⟩ _ _ _; first | refine Bq (sz := 1) (xs := []) hG Y Y Y Y Y Y Y ⟨_, Y⟩ Y Y Y Y Y Y Y (by first | omega | (simp; omega)) (fun k => ?_) | refine Bv 0 hG Y Y Y Y Y Y Y ⟨_, Y⟩ Y Y Y Y Y (by first | omega | (simp only [List.length_append, List.length_cons, List.length_nil]; omega)) (fun k => ?_) | fail)
      | refine r_q hG Y Y Y ?_); refine ke _ _ ?_)
    | (refine el_nil ⟨_, Y⟩ ?_; show AL _ _ _ _ _ _ _ _) | fail)
          refine el_cons ⟨(_, _), rfl⟩ rfl rfl rfl (fun K ke => ?_)
          refine Aj 0 hG rfl rfl rfl rfl ?_
          refine ke _ _ ?_
          refine el_cons ⟨(_, _), rfl⟩ rfl rfl rfl (fun K ke => ?_)
          refine Bq (sz := 2) (f := pT) (xs := []) (ys := [(UInt16.ofNat v, b.getD (p + 2) default)]) hG rfl rfl rfl rfl rfl rfl rfl ⟨_, rfl⟩ rfl rfl rfl rfl rfl rfl (show [T.agg [.int .u16 (v : Int), bT (b.getD ((p : Int) + 3 - 1).toNat default)]] = [(UInt16.ofNat v, b.getD (p + 2) default)].map pT from by rw [ht, e2]; rfl) (by simp) (fun k2 => ?_)
          refine ke _ _ ?_
          refine el_consN ⟨(_, _), rfl⟩ rfl rfl rfl (fun K ke => ?_)
          refine Ax 0 hG rfl rfl rfl rfl rfl rfl rfl ?_
          refine ke (.tup []) _ ?_
          refine el_nil ⟨(_, _), rfl⟩ ?_
          show AL _ _ _ _ _ _ _ _
          repeat' (first
    | ((first | (show AL _ _ _ _ _ _ _ _; refine Ac Y ?_) | (show DL _ _ _ _ _ _ _; refine' Be Y Y (fun K kk => ?_) ?_; try (show Go.Ts.T; rotate_left))); (first
      | (show AOp _ _ ⟨_, .move _, _, _, _, _⟩ _ _ _; refine Ao hG Y Y ?_)
      | (show AOp _ _ ⟨_, .assign _, _, _, _, _⟩ _ _ _; refine A1 hG Y Y ?_)
      | (show AOp _ _ ⟨_, .call ⟨.builtin .len, _, _⟩, _, _, _, _⟩ _ _ _; first | refine Bb hG Y Y Y Y ?_ | refine Bi hG Y Y Y Y Y ?_)
      | (show AOp _ _ ⟨_, .binOp .add _ _ _ _, _, _, _, _⟩ _ _ _; first | refine Az hG Y Y Y Y Y (by omega) ?_)
      | (show AOp _ _ ⟨_, .binOp .sub _ _ _ _, _, _, _, _⟩ _ _ _; first | refine Az hG Y Y Y Y Y (by omega) ?_)
      | (show AOp _ _ ⟨_, .binOp _ _ _ _ _, _, _, _, _⟩ _ _ _; first | refine Au hG Y Y Y Y Y (by omega) ?_ | refine As hG Y Y Y Y Y (by omega) ?_ | ((fail_if_success have := kk); refine Aq hG Y Y Y Y Y (fun h => ?_) (fun h => ?_)))
      | (show AOp _ _ ⟨_, .load _ _, _, _, _, _⟩ _ _ _; first | refine Bo hG Y Y Y ?_ | refine Aj 0 hG Y Y Y Y ?_ | refine Aj 1 hG Y Y Y Y ?_)
      | (show AOp _ _ ⟨_, .indexAddr _ _ _, _, _, _, _⟩ _ _ _; first | refine r_idx0 hG Y Y Y Y Y Y Y ?_ | refine Bn hG Y Y Y Y Y Y Y (by omega) ?_ | refine Bp hG Y Y Y Y Y Y Y (by omega) ?_ | refine r_idx hG Y Y ?_)
      | (show AOp _ _ ⟨_, .convert _ _ _, _, _, _, _⟩ _ _ _; first | refine r_cv8 hG Y Y Y Y Y Y ?_ | refine A4 hG Y Y Y Y Y (by omega) ?_ | refine B5 hG Y Y Y Y Y (by omega) ?_ | refine Bc hG Y Y Y Y Y ?_)
      | (show AOp _ _ ⟨_, .slice _ _ _ _ _, _, _, _, _⟩ _ _ _; first | refine B2 hG Y Y Y Y Y Y Y (by omega) ?_ | refine r_sl_lo hG Y Y Y Y Y Y Y (by omega) ?_ | refine r_sl hG Y Y ?_)
      | (show AOp _ _ ⟨_, .unOp _ _ _, _, _, _, _⟩ _ _ _; refine r_not hG Y Y Y ?_)
      | (show AOp _ _ ⟨_, .buildSlice _ _ _, _, _, _, _⟩ _ _ _; first | refine r_mk (sz := 2) hG Y Y Y Y Y Y Y ?_)
      | (show AOp _ _ ⟨_, .build _ _, _, _, _, _⟩ _ _ _; refine B0 hG Y Y Y Y Y ?_)
      | (show AOp _ _ ⟨_, .alloc _, _, _, _, _⟩ _ _ _; refine Bg hG Y Y (fun i => ?_))
      | (show AOp _ _ ⟨_, .store _ _ _, _, _, _, _⟩ _ _ _; first | refine Ax 0 hG Y Y Y Y Y Y Y ?_ | refine Ax 1 hG Y Y Y Y Y Y Y ?_)
      | (show AOp _ _ ⟨_, .call ⟨.builtin .append, _, _⟩, _, _, _, _⟩ _ _ _; first | refine Bq (sz := 1) (xs := []) hG Y Y Y Y Y Y Y ⟨_, Y⟩ Y Y Y Y Y Y Y (by first | omega | (simp; omega)) (fun k => ?_) | refine Bv 0 hG Y Y Y Y Y Y Y ⟨_, Y⟩ Y Y Y Y Y (by first | omega | (simp only [List.length_append, List.length_cons, List.length_nil]; omega)) (fun k => ?_) | fail)
      | refine r_q hG Y Y Y ?_); try exact kk)
    | (show AL _ _ _ _ _ _ _ _; first | refine Bd Y Y Y ?_ | (refine Al ?_; first | show AW _ _ _ _ _ _ | show ∃ x', _ < _ ∧ _)) | (show AW _ _ (.seq _ _) _ _ _; refine Af ?_; intro Q1) | (show AW _ _ (.region _ _ false) _ _ _; refine Ad ?_; intro O1) | (show AW _ _ (.cond _ _ _) _ _ _; first | refine Ai Y ?_ | refine Ah Y ?_) | (show AW _ _ (.skip) _ _ _; refine Ag ?_; first | show AW _ _ _ _ _ _ | show ∃ x', _ < _ ∧ _) | (show AW _ _ (.goto _) _ _ _; refine Bz ?_; try dsimp only [Ar, Aa, Ap, Ab]) | (show AW _ _ (.ret) _ _ _; refine Av ?_; try dsimp only [Ar, Aa, Ap, Ab])
    | (show DL _ _ _ _ _ _ _; refine dl_d Y Y (fun K kt kf => Aq hG Y Y Y Y Y kt kf) (fun h => ?_) (fun h => ?_))
    | (show DL _ _ _ _ _ _ _; refine dl_s Y Y Y ?_) | (show DL _ _ _ _ _ _ _; refine Bk ?_; first | show AW _ _ _ _ _ _ | show ∃ x', _ < _ ∧ _) | (show AW _ _ (.region _ _ true) _ _ _; refine A8 mix (by kernel_rfl) ?_; intro O1) | fail)
          refine ⟨rfl, ⟨m, by omega, [] ++ [(UInt16.ofNat v, b.getD (p + 2) default)], p + 3, q, h2, by omega, hr2, some k2, (fun h => by cases h), by simp at hacc ⊢; omega⟩, by dsimp only; omega, ?_, .refl _⟩
          exact .cons rfl (.cons rfl (.consW rfl (.int (by simp)) (.consW rfl (.int (by simp)) (.nil _))))
        | some k =>
          repeat' (first
    | ((first | (show AL _ _ _ _ _ _ _ _; refine Ac Y ?_) | (show DL _ _ _ _ _ _ _; refine' Be Y Y (fun K kk => ?_) ?_; try (show Go.Ts.T; rotate_left))); (first
      | (show AOp _ _ ⟨_, .move _, _, _, _, _⟩ _ _ _; refine Ao hG Y Y ?_)
      | (show AOp _ _ ⟨_, .assign _, _, _, _, _⟩ _ _ _; refine A1 hG Y Y ?_)
      | (show AOp _ _ ⟨_, .call ⟨.builtin .len, _, _⟩, _, _, _, _⟩ _ _ _; first | refine Bb hG Y Y Y Y ?_ | refine Bi hG Y Y Y Y Y ?_)
      | (show AOp _ _ ⟨_, .binOp .add _ _ _ _, _, _, _, _⟩ _ _ _; first | refine Az hG Y Y Y Y Y (by omega) ?_)
      | (show AOp _ _ ⟨_, .binOp .sub _ _ _ _, _, _, _, _⟩ _ _ _; first | refine Az hG Y Y Y Y Y (by omega) ?_)
      | (show AOp _ _ ⟨_, .binOp _ _ _ _ _, _, _, _, _⟩ _ _ _; first | refine Au hG Y Y Y Y Y (by omega) ?_ | refine As hG Y Y Y Y Y (by omega) ?_ | ((fail_if_success have := kk); refine Aq hG Y Y Y Y Y (fun h => ?_) (fun h => ?_)))
      | (show AOp _ _ ⟨_, .load _ _, _, _, _, _⟩ _ _ _; first | refine Bo hG Y Y Y ?_ | refine Aj 0 hG Y Y Y Y ?_ | refine Aj 1 hG Y Y Y Y ?_)
      | (show AOp _ _ ⟨_, .indexAddr _ _ _, _, _, _, _⟩ _ _ _; first | refine r_idx0 hG Y Y Y Y Y Y Y ?_ | refine Bn hG Y Y Y Y Y Y Y (by omega) ?_ | refine Bp hG Y Y Y Y Y Y Y (by omega) ?_ | refine r_idx hG Y Y ?_)
      | (show AOp _ _ ⟨_, .convert _ _ _, _, _, _, _⟩ _ _ _; first | refine r_cv8 hG Y Y Y Y Y Y ?_ | refine A4 hG Y Y Y Y Y (by omega) ?_ | refine B5 hG Y Y Y Y Y (by omega) ?_ | refine Bc hG Y Y Y Y Y ?_)
      | (show AOp _ _ ⟨_, .slice _ _ _ _ _, _, _, _, _⟩ _ _ _; first | refine B2 hG Y Y Y Y Y Y Y (by omega) ?_ | refine r_sl_lo hG Y Y Y Y Y Y Y (by omega) ?_ | refine r_sl hG Y Y ?_)
      | (show AOp _ _ ⟨_, .unOp _ _ _, _, _, _, _⟩ _ _ _; refine r_not hG Y Y Y ?_)
      | (show AOp _ _ ⟨_, .buildSlice _ _ _, _, _, _, _⟩ _ _ _; first | refine r_mk (sz := 2) hG Y Y Y Y Y Y Y ?_)
      | (show AOp _ _ ⟨_, .build _ _, _, _, _, _⟩ _ _ _; refine B0 hG Y Y Y Y Y ?_)
      | (show AOp _ _ ⟨_, .alloc _, _, _, _, _⟩ _ _ _; refine Bg hG Y Y (fun i => ?_))
      | (show AOp _ _ ⟨_, .store _ _ _, _, _, _, _⟩ _ _ _; first | refine Ax 0 hG Y Y Y Y Y Y Y ?_ | refine Ax 1 hG Y Y Y Y Y Y Y ?_)
      | (show AOp _ _ ⟨_, .call ⟨.builtin .append, _, _⟩, _, _, _, _⟩ _ _ _; first | refine Bq (sz := 1) (xs := []) hG Y Y Y Y Y Y Y ⟨_, Y⟩ Y Y Y Y Y Y Y (by first | omega | (simp; omega)) (fun k => ?_) | refine Bv 0 hG Y Y Y Y Y Y Y ⟨_, Y⟩ Y Y Y Y Y (by first | omega | (simp only [List.length_append, List.length_cons, List.length_nil]; omega)) (fun k => ?_) | fail)
      | (show AOp _ _ ⟨_, .call ⟨.value _, _, _⟩, _, _, _, _⟩ _ _ _; first | refine A7 Y Y Y Y Y (by apply hc <;> (first | assumption | omega | exact Ae _ _ | exact Ak _ | exact Am _ _ | exact Ay _ | rfl | (simp; omega))) ?_ | fail)
      | refine r_q hG Y Y Y ?_); try exact kk)
    | (show AL _ _ _ _ _ _ _ _; first | refine Bd Y Y Y ?_ | (refine Al ?_; first | show AW _ _ _ _ _ _ | show ∃ x', _ < _ ∧ _)) | (show AW _ _ (.seq _ _) _ _ _; refine Af ?_; intro Q1) | (show AW _ _ (.region _ _ false) _ _ _; refine Ad ?_; intro O1) | (show AW _ _ (.cond _ _ _) _ _ _; first | refine Ai Y ?_ | refine Ah Y ?_) | (show AW _ _ (.skip) _ _ _; refine Ag ?_; first | show AW _ _ _ _ _ _ | show ∃ x', _ < _ ∧ _) | (show AW _ _ (.goto _) _ _ _; refine Bz ?_; try dsimp only [Ar, Aa, Ap, Ab]) | (show AW _ _ (.ret) _ _ _; refine Av ?_; try dsimp only [Ar, Aa, Ap, Ab])
    | (show DL _ _ _ _ _ _ _; refine dl_d Y Y (fun K kt kf => Aq hG Y Y Y Y Y kt kf) (fun h => ?_) (fun h => ?_))
    | (show DL _ _ _ _ _ _ _; refine dl_s Y Y Y ?_) | (show DL _ _ _ _ _ _ _; refine Bk ?_; first | show AW _ _ _ _ _ _ | show ∃ x', _ < _ ∧ _) | (show AW _ _ (.region _ _ true) _ _ _; (fail_if_success show AW _ _ (.region 9 _ _) _ _ _); refine A8 mix (by kernel_rfl) ?_; intro O1) | fail)
          refine aw_drawE' (m := 15) [1, 12, 14] (fun σ => ∃ x : List T × List Nat, σ = ⟨[(q, .cells x.1)], x.2, off, none⟩) mix rfl (by repeat (first | exact Sp.zero _ | apply Sp.succ)) ?_; intro O1 F1 Z1 Q2
          repeat' (first
    | (refine' dq_cons Y Y Y (fun σ hσ K kk => ?_) ?_; (try (show Go.Ts.T; rotate_left)); (obtain ⟨R, rfl⟩ := hσ); (first
      | (show AOp _ _ ⟨_, .move _, _, _, _, _⟩ _ _ _; refine Ao hG Y Y ?_)
      | (show AOp _ _ ⟨_, .assign _, _, _, _, _⟩ _ _ _; refine A1 hG Y Y ?_)
      | (show AOp _ _ ⟨_, .call ⟨.builtin .len, _, _⟩, _, _, _, _⟩ _ _ _; first | refine Bb hG Y Y Y Y ?_ | refine Bi hG Y Y Y Y Y ?_)
      | (show AOp _ _ ⟨_, .binOp .add _ _ _ _, _, _, _, _⟩ _ _ _; first | refine Az hG Y Y Y Y Y (by omega) ?_)
      | (show AOp _ _ ⟨_, .binOp .sub _ _ _ _, _, _, _, _⟩ _ _ _; first | refine Az hG Y Y Y Y Y (by omega) ?_)
      | (show AOp _ _ ⟨_, .binOp _ _ _ _ _, _, _, _, _⟩ _ _ _; first | refine Au hG Y Y Y Y Y (by omega) ?_ | refine As hG Y Y Y Y Y (by omega) ?_)
      | (show AOp _ _ ⟨_, .load _ _, _, _, _, _⟩ _ _ _; first | refine Bo hG Y Y Y ?_ | refine Aj 0 hG Y Y Y Y ?_ | refine Aj 1 hG Y Y Y Y ?_)
      | (show AOp _ _ ⟨_, .indexAddr _ _ _, _, _, _, _⟩ _ _ _; first | refine r_idx0 hG Y Y Y Y Y Y Y ?_ | refine Bn hG Y Y Y Y Y Y Y (by omega) ?_ | refine Bp hG Y Y Y Y Y Y Y (by omega) ?_ | refine r_idx hG Y Y ?_)
      | (show AOp _ _ ⟨_, .convert _ _ _, _, _, _, _⟩ _ _ _; first | refine r_cv8 hG Y Y Y Y Y Y ?_ | refine A4 hG Y Y Y Y Y (by omega) ?_ | refine B5 hG Y Y Y Y Y (by omega) ?_ | refine Bc hG Y Y Y Y Y ?_)
      | (show AOp _ _ ⟨_, .slice _ _ _ _ _, _, _, _, _⟩ _ _ _; first | refine B2 hG Y Y Y Y Y Y Y (by omega) ?_ | refine r_sl_lo hG Y Y Y Y Y Y Y (by omega) ?_ | refine r_sl hG Y Y ?_)
      | (show AOp _ _ ⟨_, .unOp _ _ _, _, _, _, _⟩ _ _ _; refine r_not hG Y Y Y ?_)
      | (show AOp _ _ ⟨_, .buildSlice _ _ _, _, _, _, _⟩ _ _ _; first | refine r_mk (sz := 2) hG Y Y Y Y Y Y Y ?_)
      | (show AOp _ _ ⟨_, .build _ _, _, _, _, _⟩ _ _ _; refine B0 hG Y Y Y Y Y ?_)
      | (show AOp _ _ ⟨_, .alloc _, _, _, _, _⟩ _ _ _; refine Bg hG Y Y (fun i => ?_))
      | (show AOp _ _ ⟨_, .store _ _ _, _, _, _, _⟩ _ _ _; first | refine Ax 0 hG Y Y Y Y Y Y Y ?_ | refine Ax 1 hG Y Y Y Y Y Y Y ?_)
      | (show AOp _ _ ⟨_, .call ⟨.builtin .append, _, _⟩, _, _, _, _⟩ _ _ _; first | refine Bq (sz := 1) (xs := []) hG Y Y Y Y Y Y Y ⟨_, Y⟩ Y Y Y Y Y Y Y (by first | omega | (simp; omega)) (fun k => ?_) | refine Bv 0 hG Y Y Y Y Y Y Y ⟨_, Y⟩ Y Y Y Y Y (by first | omega | (simp only [List.length_append, List.length_cons, List.length_nil]; omega)) (fun k => ?_) | fail)
      | refine r_q hG Y Y Y ?_); exact kk)
    | refine dq_d Y Y Y (fun σ hσ K kt kf => by obtain ⟨R, rfl⟩ := hσ; exact Aq hG Y Y Y Y Y kt kf) (fun h => ?_) (fun h => ?_)
    | refine dq_d Y Y Y (fun σ hσ K kt kf => by obtain ⟨R, rfl⟩ := hσ; exact r_str hG Y Y Y Y kt kf) (fun h => ?_) (fun h => ?_)
    | refine dq_s Y Y Y Y ?_ | refine dq_e Y ?_ | (refine dq_nil ?_; show EL _ _ _ _ _ _ _ _ _) | refine el_s ⟨_, Y⟩ Y Y Y Y ?_
    | ((first | refine el_cons ⟨_, Y⟩ Y Y Y (fun K ke => ?_) | refine el_consN ⟨_, Y⟩ Y Y Y (fun K ke => ?_)); (first
      | (show AOp _ _ ⟨_, .move _, _, _, _, _⟩ _ _ _; refine Ao hG Y Y ?_)
      | (show AOp _ _ ⟨_, .assign _, _, _, _, _⟩ _ _ _; refine A1 hG Y Y ?_)
      | (show AOp _ _ ⟨_, .call ⟨.builtin .len, _, _⟩, _, _, _, _⟩ _ _ _; first | refine Bb hG Y Y Y Y ?_ | refine Bi hG Y Y Y Y Y ?_)
      | (show AOp _ _ ⟨_, .binOp .add _ _ _ _, _, _, _, _⟩ _ _ _; first | refine Az hG Y Y Y Y Y (by omega) ?_)
      | (show AOp _ _ ⟨_, .binOp .sub _ _ _ _, _, _, _, _⟩ _ _ _; first | refine Az hG Y Y Y Y Y (by omega) ?_)
      | (show AOp _ _ ⟨_, .binOp _ _ _ _ _, _, _, _, _⟩ _ _ _; first | refine Au hG Y Y Y Y Y (by omega) ?_ | refine As hG Y Y Y Y Y (by omega) ?_)
      | (show AOp _ _ ⟨_, .load _ _, _, _, _, _⟩ _ _ _; first | refine Bo hG Y Y Y ?_ | refine Aj 0 hG Y Y Y Y ?_ | refine Aj 1 hG Y Y Y Y ?_)
      | (show AOp _ _ ⟨_, .indexAddr _ _ _, _, _, _, _⟩ _ _ _; first | refine r_idx0 hG Y Y Y Y Y Y Y ?_ | refine Bn hG Y Y Y Y Y Y Y (by omega) ?_ | refine Bp hG Y Y Y Y Y Y Y (by omega) ?_ | refine r_idx hG Y Y ?_)
      | (show AOp _ _ ⟨_, .convert _ _ _, _, _, _, _⟩ _ _ _; first | refine r_cv8 hG Y Y Y Y Y Y ?_ | refine A4 hG Y Y Y Y Y (by omega) ?_ | refine B5 hG Y Y Y Y Y (by omega) ?_ | refine Bc hG Y Y Y Y Y ?_)
      | (show AOp _ _ ⟨_, .slice _ _ _ _ _, _, _, _, _⟩ _ _ _; first | refine B2 hG Y Y Y Y Y Y Y (by omega) ?_ | refine r_sl_lo hG Y Y Y Y Y Y Y (by omega) ?_ | refine r_sl hG Y Y ?_)
      | (show AOp _ _ ⟨_, .unOp _ _ _, _, _, _, _⟩ _ _ _; refine r_not hG Y Y Y ?_)
      | (show AOp _ _ ⟨_, .buildSlice _ _ _, _, _, _, _⟩ _ _ _; first | refine r_mk (sz := 2) hG Y Y Y Y Y Y Y ?_)
      | (show AOp _ _ ⟨_, .build _ _, _, _, _, _⟩ _ _ _; refine B0 hG Y Y Y Y Y ?_)
      | (show AOp _ _ ⟨_, .alloc _, _, _, _, _⟩ _ _ _; refine Bg hG Y Y (fun i => ?_))
      | (show AOp _ _ ⟨_, .store _ _ _, _, _, _, _⟩ _ _ _; first | refine Ax 0 hG Y Y Y Y Y Y Y ?_ | refine Ax 1 hG Y Y Y Y Y Y Y ?_)
      | (show AOp _ _ ⟨_, .call ⟨.builtin .append, _, _⟩, _, _, _, _⟩ _ _ _; first | refine Bq (sz := 1) (xs := []) hG Y Y Y Y Y Y Y ⟨_, Y⟩ Y Y Y Y Y Y Y (by first | omega | (simp; omega)) (fun k => ?_) | refine Bv 0 hG Y Y Y Y Y Y Y ⟨_, Y⟩ Y Y Y Y Y (by first | omega | (simp only [List.length_append, List.length_cons, List.length_nil]; omega)) (fun k => ?_) | fail)
      | refine r_q hG Y Y Y ?_); refine ke _ _ ?_)
    | (refine el_nil ⟨_, Y⟩ ?_; show AL _ _ _ _ _ _ _ _) | fail)
          refine el_cons ⟨(_, _), rfl⟩ rfl rfl rfl (fun K ke => ?_)
          refine Aj 0 hG rfl rfl rfl rfl ?_
          refine ke _ _ ?_
          refine el_cons ⟨(_, _), rfl⟩ rfl rfl rfl (fun K ke => ?_)
          refine Bv 0 (sz := 2) (f := pT) (xs := acc) (ys := [(UInt16.ofNat v, b.getD (p + 2) default)]) hG rfl rfl rfl rfl rfl rfl rfl ⟨_, rfl⟩ rfl rfl rfl rfl (show [T.agg [.int .u16 (v : Int), bT (b.getD ((p : Int) + 3 - 1).toNat default)]] = [(UInt16.ofNat v, b.getD (p + 2) default)].map pT from by rw [ht, e2]; rfl) (by simp; omega) (fun k2 => ?_)
          refine ke _ _ ?_
          refine el_consN ⟨(_, _), rfl⟩ rfl rfl rfl (fun K ke => ?_)
          refine Ax 0 hG rfl rfl rfl rfl rfl rfl rfl ?_
          refine ke (.tup []) _ ?_
          refine el_nil ⟨(_, _), rfl⟩ ?_
          show AL _ _ _ _ _ _ _ _
          repeat' (first
    | ((first | (show AL _ _ _ _ _ _ _ _; refine Ac Y ?_) | (show DL _ _ _ _ _ _ _; refine' Be Y Y (fun K kk => ?_) ?_; try (show Go.Ts.T; rotate_left))); (first
      | (show AOp _ _ ⟨_, .move _, _, _, _, _⟩ _ _ _; refine Ao hG Y Y ?_)
      | (show AOp _ _ ⟨_, .assign _, _, _, _, _⟩ _ _ _; refine A1 hG Y Y ?_)
      | (show AOp _ _ ⟨_, .call ⟨.builtin .len, _, _⟩, _, _, _, _⟩ _ _ _; first | refine Bb hG Y Y Y Y ?_ | refine Bi hG Y Y Y Y Y ?_)
      | (show AOp _ _ ⟨_, .binOp .add _ _ _ _, _, _, _, _⟩ _ _ _; first | refine Az hG Y Y Y Y Y (by omega) ?_)
      | (show AOp _ _ ⟨_, .binOp .sub _ _ _ _, _, _, _, _⟩ _ _ _; first | refine Az hG Y Y Y Y Y (by omega) ?_)
      | (show AOp _ _ ⟨_, .binOp _ _ _ _ _, _, _, _, _⟩ _ _ _; first | refine Au hG Y Y Y Y Y (by omega) ?_ | refine As hG Y Y Y Y Y (by omega) ?_ | ((fail_if_success have := kk); refine Aq hG Y Y Y Y Y (fun h => ?_) (fun h => ?_)))
      | (show AOp _ _ ⟨_, .load _ _, _, _, _, _⟩ _ _ _; first | refine Bo hG Y Y Y ?_ | refine Aj 0 hG Y Y Y Y ?_ | refine Aj 1 hG Y Y Y Y ?_)
      | (show AOp _ _ ⟨_, .indexAddr _ _ _, _, _, _, _⟩ _ _ _; first | refine r_idx0 hG Y Y Y Y Y Y Y ?_ | refine Bn hG Y Y Y Y Y Y Y (by omega) ?_ | refine Bp hG Y Y Y Y Y Y Y (by omega) ?_ | refine r_idx hG Y Y ?_)
      | (show AOp _ _ ⟨_, .convert _ _ _, _, _, _, _⟩ _ _ _; first | refine r_cv8 hG Y Y Y Y Y Y ?_ | refine A4 hG Y Y Y Y Y (by omega) ?_ | refine B5 hG Y Y Y Y Y (by omega) ?_ | refine Bc hG Y Y Y Y Y ?_)
      | (show AOp _ _ ⟨_, .slice _ _ _ _ _, _, _, _, _⟩ _ _ _; first | refine B2 hG Y Y Y Y Y Y Y (by omega) ?_ | refine r_sl_lo hG Y Y Y Y Y Y Y (by omega) ?_ | refine r_sl hG Y Y ?_)
      | (show AOp _ _ ⟨_, .unOp _ _ _, _, _, _, _⟩ _ _ _; refine r_not hG Y Y Y ?_)
      | (show AOp _ _ ⟨_, .buildSlice _ _ _, _, _, _, _⟩ _ _ _; first | refine r_mk (sz := 2) hG Y Y Y Y Y Y Y ?_)
      | (show AOp _ _ ⟨_, .build _ _, _, _, _, _⟩ _ _ _; refine B0 hG Y Y Y Y Y ?_)
      | (show AOp _ _ ⟨_, .alloc _, _, _, _, _⟩ _ _ _; refine Bg hG Y Y (fun i => ?_))
      | (show AOp _ _ ⟨_, .store _ _ _, _, _, _, _⟩ _ _ _; first | refine Ax 0 hG Y Y Y Y Y Y Y ?_ | refine Ax 1 hG Y Y Y Y Y Y Y ?_)
      | (show AOp _ _ ⟨_, .call ⟨.builtin .append, _, _⟩, _, _, _, _⟩ _ _ _; first | refine Bq (sz := 1) (xs := []) hG Y Y Y Y Y Y Y ⟨_, Y⟩ Y Y Y Y Y Y Y (by first | omega | (simp; omega)) (fun k => ?_) | refine Bv 0 hG Y Y Y Y Y Y Y ⟨_, Y⟩ Y Y Y Y Y (by first | omega | (simp only [List.length_append, List.length_cons, List.length_nil]; omega)) (fun k => ?_) | fail)
      | refine r_q hG Y Y Y ?_); try exact kk)
    | (show AL _ _ _ _ _ _ _ _; first | refine Bd Y Y Y ?_ | (refine Al ?_; first | show AW _ _ _ _ _ _ | show ∃ x', _ < _ ∧ _)) | (show AW _ _ (.seq _ _) _ _ _; refine Af ?_; intro Q1) | (show AW _ _ (.region _ _ false) _ _ _; refine Ad ?_; intro O1) | (show AW _ _ (.cond _ _ _) _ _ _; first | refine Ai Y ?_ | refine Ah Y ?_) | (show AW _ _ (.skip) _ _ _; refine Ag ?_; first | show AW _ _ _ _ _ _ | show ∃ x', _ < _ ∧ _) | (show AW _ _ (.goto _) _ _ _; refine Bz ?_; try dsimp only [Ar, Aa, Ap, Ab]) | (show AW _ _ (.ret) _ _ _; refine Av ?_; try dsimp only [Ar, Aa, Ap, Ab])
    | (show DL _ _ _ _ _ _ _; refine dl_d Y Y (fun K kt kf => Aq hG Y Y Y Y Y kt kf) (fun h => ?_) (fun h => ?_))
    | (show DL _ _ _ _ _ _ _; refine dl_s Y Y Y ?_) | (show DL _ _ _ _ _ _ _; refine Bk ?_; first | show AW _ _ _ _ _ _ | show ∃ x', _ < _ ∧ _) | (show AW _ _ (.region _ _ true) _ _ _; refine A8 mix (by kernel_rfl) ?_; intro O1) | fail)
          refine ⟨rfl, ⟨m, by omega, acc ++ [(UInt16.ofNat v, b.getD (p + 2) default)], p + 3, q, h2, by omega, hr2, some k2, (fun h => by cases h), by simp at hacc ⊢; omega⟩, by dsimp only; omega, ?_, .refl _⟩
          exact .cons rfl (.cons rfl (.consW rfl (.int (by simp)) (.consW rfl (.int (by simp)) (.nil _))))
  · intro key
    by_cases h2 : b.length < 2
    · have hT : Bl b = ⟨0, [], 0, 3⟩ := by rw [Bl, if_pos h2]
      repeat' (first
    | ((first | (show AL _ _ _ _ _ _ _ _; refine Ac Y ?_) | (show DL _ _ _ _ _ _ _; refine' Be Y Y (fun K kk => ?_) ?_; try (show Go.Ts.T; rotate_left))); (first
      | (show AOp _ _ ⟨_, .move _, _, _, _, _⟩ _ _ _; refine Ao hG Y Y ?_)
      | (show AOp _ _ ⟨_, .assign _, _, _, _, _⟩ _ _ _; refine A1 hG Y Y ?_)
      | (show AOp _ _ ⟨_, .call ⟨.builtin .len, _, _⟩, _, _, _, _⟩ _ _ _; first | refine Bb hG Y Y Y Y ?_ | refine Bi hG Y Y Y Y Y ?_)
      | (show AOp _ _ ⟨_, .binOp .add _ _ _ _, _, _, _, _⟩ _ _ _; first | refine Az hG Y Y Y Y Y (by omega) ?_)
      | (show AOp _ _ ⟨_, .binOp .sub _ _ _ _, _, _, _, _⟩ _ _ _; first | refine Az hG Y Y Y Y Y (by omega) ?_)
      | (show AOp _ _ ⟨_, .binOp _ _ _ _ _, _, _, _, _⟩ _ _ _; first | refine Au hG Y Y Y Y Y (by omega) ?_ | refine As hG Y Y Y Y Y (by omega) ?_ | ((fail_if_success have := kk); refine Aq hG Y Y Y Y Y (fun h => ?_) (fun h => ?_)))
      | (show AOp _ _ ⟨_, .load _ _, _, _, _, _⟩ _ _ _; first | refine Bo hG Y Y Y ?_ | refine Aj 0 hG Y Y Y Y ?_ | refine Aj 1 hG Y Y Y Y ?_)
      | (show AOp _ _ ⟨_, .indexAddr _ _ _, _, _, _, _⟩ _ _ _; first | refine r_idx0 hG Y Y Y Y Y Y Y ?_ | refine Bn hG Y Y Y Y Y Y Y (by omega) ?_ | refine Bp hG Y Y Y Y Y Y Y (by omega) ?_ | refine r_idx hG Y Y ?_)
      | (show AOp _ _ ⟨_, .convert _ _ _, _, _, _, _⟩ _ _ _; first | refine r_cv8 hG Y Y Y Y Y Y ?_ | refine A4 hG Y Y Y Y Y (by omega) ?_ | refine B5 hG Y Y Y Y Y (by omega) ?_ | refine Bc hG Y Y Y Y Y ?_)
      | (show AOp _ _ ⟨_, .slice _ _ _ _ _, _, _, _, _⟩ _ _ _; first | refine B2 hG Y Y Y Y Y Y Y (by omega) ?_ | refine r_sl_lo hG Y Y Y Y Y Y Y (by omega) ?_ | refine r_sl hG Y Y ?_)
      | (show AOp _ _ ⟨_, .unOp _ _ _, _, _, _, _⟩ _ _ _; refine r_not hG Y Y Y ?_)
      | (show AOp _ _ ⟨_, .buildSlice _ _ _, _, _, _, _⟩ _ _ _; first | refine r_mk (sz := 2) hG Y Y Y Y Y Y Y ?_)
      | (show AOp _ _ ⟨_, .build _ _, _, _, _, _⟩ _ _ _; refine B0 hG Y Y Y Y Y ?_)
      | (show AOp _ _ ⟨_, .alloc _, _, _, _, _⟩ _ _ _; refine Bg hG Y Y (fun i => ?_))
      | (show AOp _ _ ⟨_, .store _ _ _, _, _, _, _⟩ _ _ _; first | refine Ax 0 hG Y Y Y Y Y Y Y ?_ | refine Ax 1 hG Y Y Y Y Y Y Y ?_)
      | (show AOp _ _ ⟨_, .call ⟨.builtin .append, _, _⟩, _, _, _, _⟩ _ _ _; first | refine Bq (sz := 1) (xs := []) hG Y Y Y Y Y Y Y ⟨_, Y⟩ Y Y Y Y Y Y Y (by first | omega | (simp; omega)) (fun k => ?_) | refine Bv 0 hG Y Y Y Y Y Y Y ⟨_, Y⟩ Y Y Y Y Y (by first | omega | (simp only [List.length_append, List.length_cons, List.length_nil]; omega)) (fun k => ?_) | fail)
      | refine r_q hG Y Y Y ?_); try exact kk)
    | (show AL _ _ _ _ _ _ _ _; first | refine Bd Y Y Y ?_ | (refine Al ?_; first | show AW _ _ _ _ _ _ | show ∃ x', _ < _ ∧ _)) | (show AW _ _ (.seq _ _) _ _ _; refine Af ?_; intro Q1) | (show AW _ _ (.region _ _ false) _ _ _; refine Ad ?_; intro O1) | (show AW _ _ (.cond _ _ _) _ _ _; first | refine Ai Y ?_ | refine Ah Y ?_) | (show AW _ _ (.skip) _ _ _; refine Ag ?_; first | show AW _ _ _ _ _ _ | show ∃ x', _ < _ ∧ _) | (show AW _ _ (.goto _) _ _ _; refine Bz ?_; try dsimp only [Ar, Aa, Ap, Ab]) | (show AW _ _ (.ret) _ _ _; refine Av ?_; try dsimp only [Ar, Aa, Ap, Ab])
    | (show DL _ _ _ _ _ _ _; refine dl_d Y Y (fun K kt kf => Aq hG Y Y Y Y Y kt kf) (fun h => ?_) (fun h => ?_))
    | (show DL _ _ _ _ _ _ _; refine dl_s Y Y Y ?_) | (show DL _ _ _ _ _ _ _; refine Bk ?_; first | show AW _ _ _ _ _ _ | show ∃ x', _ < _ ∧ _) | (show AW _ _ (.region _ _ true) _ _ _; refine A8 mix (by kernel_rfl) ?_; intro O1) | fail)
      refine A9 (res_cell 0 rfl rfl rfl (A2 rfl (A2 rfl A3))) ?_ rfl
      rw [hT]
      exact Wk.tupL (wk3 (Wk.aggL (wk2 (.refl _) (.nil 2))) (.refl _) (.refl _))
    · have hu8 := (b.getD 1 default).toNat_lt
      repeat' (first
    | ((first | (show AL _ _ _ _ _ _ _ _; refine Ac Y ?_) | (show DL _ _ _ _ _ _ _; refine' Be Y Y (fun K kk => ?_) ?_; try (show Go.Ts.T; rotate_left))); (first
      | (show AOp _ _ ⟨_, .move _, _, _, _, _⟩ _ _ _; refine Ao hG Y Y ?_)
      | (show AOp _ _ ⟨_, .assign _, _, _, _, _⟩ _ _ _; refine A1 hG Y Y ?_)
      | (show AOp _ _ ⟨_, .call ⟨.builtin .len, _, _⟩, _, _, _, _⟩ _ _ _; first | refine Bb hG Y Y Y Y ?_ | refine Bi hG Y Y Y Y Y ?_)
      | (show AOp _ _ ⟨_, .binOp .add _ _ _ _, _, _, _, _⟩ _ _ _; first | refine Az hG Y Y Y Y Y (by omega) ?_)
      | (show AOp _ _ ⟨_, .binOp .sub _ _ _ _, _, _, _, _⟩ _ _ _; first | refine Az hG Y Y Y Y Y (by omega) ?_)
      | (show AOp _ _ ⟨_, .binOp _ _ _ _ _, _, _, _, _⟩ _ _ _; first | refine Au hG Y Y Y Y Y (by omega) ?_ | refine As hG Y Y Y Y Y (by omega) ?_ | ((fail_if_success have := kk); refine Aq hG Y Y Y Y Y (fun h => ?_) (fun h => ?_)))
      | (show AOp _ _ ⟨_, .load _ _, _, _, _, _⟩ _ _ _; first | refine Bo hG Y Y Y ?_ | refine Aj 0 hG Y Y Y Y ?_ | refine Aj 1 hG Y Y Y Y ?_)
      | (show AOp _ _ ⟨_, .indexAddr _ _ _, _, _, _, _⟩ _ _ _; first | refine r_idx0 hG Y Y Y Y Y Y Y ?_ | refine Bn hG Y Y Y Y Y Y Y (by omega) ?_ | refine Bp hG Y Y Y Y Y Y Y (by omega) ?_ | refine r_idx hG Y Y ?_)
      | (show AOp _ _ ⟨_, .convert _ _ _, _, _, _, _⟩ _ _ _; first | refine r_cv8 hG Y Y Y Y Y Y ?_ | refine A4 hG Y Y Y Y Y (by omega) ?_ | refine B5 hG Y Y Y Y Y (by omega) ?_ | refine Bc hG Y Y Y Y Y ?_)
      | (show AOp _ _ ⟨_, .slice _ _ _ _ _, _, _, _, _⟩ _ _ _; first | refine B2 hG Y Y Y Y Y Y Y (by omega) ?_ | refine r_sl_lo hG Y Y Y Y Y Y Y (by omega) ?_ | refine r_sl hG Y Y ?_)
      | (show AOp _ _ ⟨_, .unOp _ _ _, _, _, _, _⟩ _ _ _; refine r_not hG Y Y Y ?_)
      | (show AOp _ _ ⟨_, .buildSlice _ _ _, _, _, _, _⟩ _ _ _; first | refine r_mk (sz := 2) hG Y Y Y Y Y Y Y ?_)
      | (show AOp _ _ ⟨_, .build _ _, _, _, _, _⟩ _ _ _; refine B0 hG Y Y Y Y Y ?_)
      | (show AOp _ _ ⟨_, .alloc _, _, _, _, _⟩ _ _ _; refine Bg hG Y Y (fun i => ?_))
      | (show AOp _ _ ⟨_, .store _ _ _, _, _, _, _⟩ _ _ _; first | refine Ax 0 hG Y Y Y Y Y Y Y ?_ | refine Ax 1 hG Y Y Y Y Y Y Y ?_)
      | (show AOp _ _ ⟨_, .call ⟨.builtin .append, _, _⟩, _, _, _, _⟩ _ _ _; first | refine Bq (sz := 1) (xs := []) hG Y Y Y Y Y Y Y ⟨_, Y⟩ Y Y Y Y Y Y Y (by first | omega | (simp; omega)) (fun k => ?_) | refine Bv 0 hG Y Y Y Y Y Y Y ⟨_, Y⟩ Y Y Y Y Y (by first | omega | (simp only [List.length_append, List.length_cons, List.length_nil]; omega)) (fun k => ?_) | fail)
      | refine r_q hG Y Y Y ?_); try exact kk)
    | (show AL _ _ _ _ _ _ _ _; first | refine Bd Y Y Y ?_ | (refine Al ?_; first | show AW _ _ _ _ _ _ | show ∃ x', _ < _ ∧ _)) | (show AW _ _ (.seq _ _) _ _ _; refine Af ?_; intro Q1) | (show AW _ _ (.region _ _ false) _ _ _; refine Ad ?_; intro O1) | (show AW _ _ (.cond _ _ _) _ _ _; first | refine Ai Y ?_ | refine Ah Y ?_) | (show AW _ _ (.skip) _ _ _; refine Ag ?_; first | show AW _ _ _ _ _ _ | show ∃ x', _ < _ ∧ _) | (show AW _ _ (.goto _) _ _ _; refine Bz ?_; try dsimp only [Ar, Aa, Ap, Ab]) | (show AW _ _ (.ret) _ _ _; refine Av ?_; try dsimp only [Ar, Aa, Ap, Ab])
    | (show DL _ _ _ _ _ _ _; refine dl_d Y Y (fun K kt kf => Aq hG Y Y Y Y Y kt kf) (fun h => ?_) (fun h => ?_))
    | (show DL _ _ _ _ _ _ _; refine dl_s Y Y Y ?_) | (show DL _ _ _ _ _ _ _; refine Bk ?_; first | show AW _ _ _ _ _ _ | show ∃ x', _ < _ ∧ _) | (show AW _ _ (.region _ _ true) _ _ _; refine A8 mix (by kernel_rfl) ?_; intro O1) | fail)
      refine aw_label ?_
      show AW _ _ _ _ _ _
      refine aw_forget ?_ (key ⟨(b.getD 1 default).toNat, hu8, [], 2, i, h2, by omega, rfl, none, fun _ => rfl, by simp⟩)
      exact .cons rfl (.cons rfl (.consW rfl (.int rfl) (.consW rfl (.int rfl) (.nil _))))
end Go.Proofs.Ytemgmkoggnjgjaa
namespace Go.Proofs.Ytemgmkoggnjgjaa
open Go.Ts Go.Sets
set_option linter.unusedSimpArgs false
set_option linter.unusedVariables false
attribute [local irreducible] Go.Ts.AW Go.Ts.AOps Go.Ts.AL Go.Ts.AOp Go.Ts.ACalls Go.Ts.DL Go.Ts.DQ Go.Ts.EL
theorem takeEn (b : List UInt8) (m : Nat) (h : m ≤ 8) : takeE b (m : Int) = if b.length < m then (0, 3) else (beV (b.take m), 0) := by
  unfold takeE
  rw [if_neg (by omega)]
  by_cases h1 : b.length < m
  · rw [if_pos (by omega), if_pos h1]
  · rw [if_neg (by omega), if_neg h1, Int.toNat_natCast]
structure HD where
  e : Int
  kind : Nat
  id : Nat
  df : UInt8
  ps : List PR
  rest : List UInt8
def HD.no (e : Int) : HD := ⟨e, 0, 0, 0, [], []⟩
def zeroCells : List T := [.int .u64 0, .int .i64 0, .int .u8 0, .nilsl, .nilsl, .nilsl, .nilsl, .int .i64 0, .int .i64 0, .int .i64 0, .nilsl, .nilsl, .nilsl]
theorem lcode_Take_is {x : T} {s : List UInt8} {r : TL} (hx : bytesT x = some s) (hl : s.length ≤ 4294967296) (h : Bl s = r) : Ts.Pure Try.prog 57 [x] (.tup [.agg [bT r.df, .sl 2 .no (r.ps.map pT)], .int .i64 r.n, .int .i64 r.e]) := by
  subst h; exact lcode_Take hx hl
theorem takeLab_small (s : List UInt8) : (Bl s).ps.length ≤ 16 ∧ (Bl s).n ≤ s.length := by
  by_cases h : (Bl s).e = 0
  · obtain ⟨h1, h2, _⟩ := takeLab_ok h; exact ⟨(mayLab_len h1).1, h2⟩
  · rw [takeLab_no h]; exact ⟨by simp, by simp⟩
end Go.Proofs.Ytemgmkoggnjgjaa
namespace Go.Proofs.Ytemgmkoggnjgjaa
open Go.Ts Go.Sets
set_option linter.unusedSimpArgs false
set_option linter.unusedVariables false
attribute [local irreducible] Go.Ts.AW Go.Ts.AOps Go.Ts.AL Go.Ts.AOp Go.Ts.ACalls Go.Ts.DL Go.Ts.DQ Go.Ts.EL
structure TT where
  e : Int
  q : Nat
  u : Nat
  x : Nat
  d : List UInt8
  c : List UInt16
  r : List (List UInt8)
  rest : List UInt8
def TT.no (e : Int) : TT := ⟨e, 0, 0, 0, [], [], [], []⟩
theorem takeBE_3 (b : List UInt8) : (takeBE b).2.2 = 0 ∧ (takeBE b).2.1 ≤ b.length ∨ (takeBE b).2.2 = 3 ∧ (takeBE b).2.1 = 0 := by
  rcases takeBE_e b with h | h
  · exact .inl ⟨h.1, h.2.2.1⟩
  · rw [h]; exact .inr ⟨rfl, rfl⟩
theorem takeC_3 (b : List UInt8) : (takeC b).2.2 = 0 ∧ (takeC b).2.1 ≤ b.length ∨ (takeC b).2.2 ≠ 0 ∧ (takeC b).2.1 = 0 := by
  by_cases h : (takeC b).2.2 = 0
  · have q : takeC b = ((takeC b).1, (takeC b).2.1, 0) := by rw [← h]
    exact .inl ⟨h, (takeC_used q).1⟩
  · refine .inr ⟨h, ?_⟩
    unfold takeC at h ⊢
    split
    · rfl
    split
    · rfl
    split
    · rename_i h1 h2 h3; rw [if_neg h1, if_neg h2, if_pos h3] at h; exact absurd rfl h
    · rfl
theorem num_TakeBytes_is {x : T} {b : List UInt8} {r : List UInt8 × Nat × Int} (hx : bytesT x = some b) (hl : b.length ≤ 4294967296) (h : takeBE b = r) : Ts.Pure Try.prog 59 [x] (.tup [sT r.1, .int .i64 r.2.1, .int .i64 r.2.2]) := by
  subst h; exact num_TakeBytes hx hl
end Go.Proofs.Ytemgmkoggnjgjaa
namespace Go.Proofs.Ytemgmkoggnjgjaa
open Go.Ts Go.Sets
set_option linter.unusedSimpArgs false
set_option linter.unusedVariables false
attribute [local irreducible] Go.Ts.AW Go.Ts.AOps Go.Ts.AL Go.Ts.AOp Go.Ts.ACalls Go.Ts.DL Go.Ts.DQ Go.Ts.EL
theorem takeC_len (s : List UInt8) : (takeC s).1.length ≤ 16 := by
  by_cases h : (takeC s).2.2 = 0
  · have q : takeC s = ((takeC s).1, (takeC s).2.1, 0) := by rw [← h]
    exact (takeC_used q).2.1
  · unfold takeC at h ⊢
    split
    · simp
    split
    · simp
    split
    · rename_i h1 h2 h3; rw [if_neg h1, if_neg h2, if_pos h3] at h; exact absurd rfl h
    · simp
end Go.Proofs.Ytemgmkoggnjgjaa
namespace Go.Proofs.Ytemgmkoggnjgjaa
open Go.Ts Go.Sets
set_option linter.unusedSimpArgs false
set_option linter.unusedVariables false
theorem takeC_putC' {a : List UInt16} (ha : mayC a = true) (t : List UInt8) : takeC (putC [] a ++ t) = (a, (putC [] a).length, 0) := by rw [takeC_putC ha, putC_len]
end Go.Proofs.Ytemgmkoggnjgjaa
namespace Go.Proofs.Ytemgmkoggnjgjaa
open Go.Ts Go.Sets
set_option linter.unusedSimpArgs false
set_option linter.unusedVariables false
attribute [local irreducible] Go.Ts.AW Go.Ts.AOps Go.Ts.AL Go.Ts.AOp Go.Ts.ACalls Go.Ts.DL Go.Ts.DQ Go.Ts.EL
structure RS where
  b : List UInt8
  e : Int
def RS.cells (r : RS) : List T := [sT r.b, .int .i64 r.e]
def takesF (r : RS) (n : Nat) (e : Int) : RS := if e ≠ 0 then ⟨r.b, e⟩ else ⟨r.b.drop n, r.e⟩
def rdN (r : RS) (n : Nat) : Nat × RS := if r.e = 0 then (if r.b.length < n then (0, ⟨r.b, 3⟩) else (beV (r.b.take n), ⟨r.b.drop n, 0⟩)) else (0, r)
def rdB (r : RS) : List UInt8 × RS := if r.e = 0 then (if (takeBE r.b).2.2 = 0 then ((takeBE r.b).1, ⟨r.b.drop (takeBE r.b).2.1, 0⟩) else ([], ⟨r.b, 3⟩)) else ([], r)
def rdC (r : RS) : List UInt16 × RS := if r.e = 0 then (if (takeC r.b).2.2 = 0 then ((takeC r.b).1, ⟨r.b.drop (takeC r.b).2.1, 0⟩) else ([], ⟨r.b, (takeC r.b).2.2⟩)) else ([], r)
theorem takeC_no {s : List UInt8} (h : (takeC s).2.2 ≠ 0) : (takeC s).1 = [] := by
  unfold takeC at h ⊢
  split
  · rfl
  split
  · rfl
  split
  · rename_i h1 h2 h3; rw [if_neg h1, if_neg h2, if_pos h3] at h; exact absurd rfl h
  · rfl
theorem a1_takes {b : List UInt8} {e e' : Int} {n : Nat} (hn : e' = 0 → n ≤ b.length) : Mut Try.prog 39 [.int .i64 n, .int .i64 e'] [sT b, .int .i64 e] (fun _ cs' => cs' = (takesF ⟨b, e⟩ n e').cells) := by
  intro off i
  refine A5 (N := 21) (rs := []) hG Try.func39 rfl rfl rfl rfl rfl ?_
  by_cases he : e' = 0
  · have hh : takesF ⟨b, e⟩ n e' = ⟨b.drop n, e⟩ := by rw [takesF, if_neg (by simpa using he)]
    have := hn he
    rw [hh]
    repeat' (first
    | ((show AL _ _ _ _ _ _ _ _; refine Ac Y ?_); (first
      | (show AOp _ _ ⟨_, .move _, _, _, _, _⟩ _ _ _; refine Ao hG Y Y ?_)
      | (show AOp _ _ ⟨_, .binOp _ _ _ _ _, _, _, _, _⟩ _ _ _; first | refine Au hG Y Y Y Y Y (by omega) ?_ | refine As hG Y Y Y Y Y (by omega) ?_ | (refine Aq hG Y Y Y Y Y (fun h => ?_) (fun h => ?_)))
      | (show AOp _ _ ⟨_, .load _ _, _, _, _, _⟩ _ _ _; first | refine Aj 0 hG Y Y Y Y ?_ | refine Aj 1 hG Y Y Y Y ?_)
      | (show AOp _ _ ⟨_, .slice _ _ _ _ _, _, _, _, _⟩ _ _ _; first | refine B2 hG Y Y Y Y Y Y Y (by omega) ?_ | refine r_sl_lo hG Y Y Y Y Y Y Y (by omega) ?_ | refine r_sl hG Y Y ?_)
      | (show AOp _ _ ⟨_, .store _ _ _, _, _, _, _⟩ _ _ _; first | refine Ax 0 hG Y Y Y Y Y Y Y ?_ | refine Ax 1 hG Y Y Y Y Y Y Y ?_)
      | refine r_q hG Y Y Y ?_))
    | (show AL _ _ _ _ _ _ _ _; first | refine Bd Y Y Y ?_ | (refine Al ?_; first | show AW _ _ _ _ _ _ | show ∃ x', _ < _ ∧ _)) | (show AW _ _ (.seq _ _) _ _ _; refine Af ?_; intro Q1) | (show AW _ _ (.region _ _ false) _ _ _; refine Ad ?_; intro O1) | (show AW _ _ (.cond _ _ _) _ _ _; first | refine Ai Y ?_ | refine Ah Y ?_) | (show AW _ _ (.skip) _ _ _; refine Ag ?_; first | show AW _ _ _ _ _ _ | show ∃ x', _ < _ ∧ _) | (show AW _ _ (.ret) _ _ _; refine Av ?_; try dsimp only [Ar, Aa, Ap, Ab]) | fail)
    refine Al ?_
    exact ret_mutE 0 A3 rfl (.refl _) rfl rfl
  · have hh : takesF ⟨b, e⟩ n e' = ⟨b, e'⟩ := by rw [takesF, if_pos he]
    rw [hh]
    repeat' (first
    | ((show AL _ _ _ _ _ _ _ _; refine Ac Y ?_); (first
      | (show AOp _ _ ⟨_, .move _, _, _, _, _⟩ _ _ _; refine Ao hG Y Y ?_)
      | (show AOp _ _ ⟨_, .binOp _ _ _ _ _, _, _, _, _⟩ _ _ _; first | refine Au hG Y Y Y Y Y (by omega) ?_ | refine As hG Y Y Y Y Y (by omega) ?_ | (refine Aq hG Y Y Y Y Y (fun h => ?_) (fun h => ?_)))
      | (show AOp _ _ ⟨_, .load _ _, _, _, _, _⟩ _ _ _; first | refine Aj 0 hG Y Y Y Y ?_ | refine Aj 1 hG Y Y Y Y ?_)
      | (show AOp _ _ ⟨_, .slice _ _ _ _ _, _, _, _, _⟩ _ _ _; first | refine B2 hG Y Y Y Y Y Y Y (by omega) ?_ | refine r_sl_lo hG Y Y Y Y Y Y Y (by omega) ?_ | refine r_sl hG Y Y ?_)
      | (show AOp _ _ ⟨_, .store _ _ _, _, _, _, _⟩ _ _ _; first | refine Ax 0 hG Y Y Y Y Y Y Y ?_ | refine Ax 1 hG Y Y Y Y Y Y Y ?_)
      | refine r_q hG Y Y Y ?_))
    | (show AL _ _ _ _ _ _ _ _; first | refine Bd Y Y Y ?_ | (refine Al ?_; first | show AW _ _ _ _ _ _ | show ∃ x', _ < _ ∧ _)) | (show AW _ _ (.seq _ _) _ _ _; refine Af ?_; intro Q1) | (show AW _ _ (.region _ _ false) _ _ _; refine Ad ?_; intro O1) | (show AW _ _ (.cond _ _ _) _ _ _; first | refine Ai Y ?_ | refine Ah Y ?_) | (show AW _ _ (.skip) _ _ _; refine Ag ?_; first | show AW _ _ _ _ _ _ | show ∃ x', _ < _ ∧ _) | (show AW _ _ (.ret) _ _ _; refine Av ?_; try dsimp only [Ar, Aa, Ap, Ab]) | fail)
    exact ret_mut 0 A3 rfl (.refl _) rfl rfl
theorem a1_number {r : RS} {n : Int} {m : Nat} (hn : n = (m : Int)) (h8 : m ≤ 8) (hl : r.b.length ≤ 4294967296) :
    Mut Try.prog 18 [.int .i64 n] r.cells (fun u cs' => u = .int .u64 (rdN r m).1 ∧ cs' = (rdN r m).2.cells) := by
  intro off i
  subst hn
  obtain ⟨b, e⟩ := r
  unfold RS.cells
  dsimp only at hl ⊢
  refine A5 (N := 25) (rs := [.tmp 4]) hG Try.func18 rfl rfl rfl rfl rfl ?_
  by_cases he : e = 0
  · subst he
    have hT := takeEn b m h8
    by_cases h1 : b.length < m
    · rw [if_pos h1] at hT
      have hh : rdN ⟨b, 0⟩ m = (0, ⟨b, 3⟩) := by rw [rdN, if_pos rfl, if_pos h1]
      have hc := num_Take_is (Ak b) hT
      have ht := a1_takes (b := b) (e := 0) (e' := 3) (n := m) (fun h => by cases h)
      rw [hh]
      repeat' (first
    | ((show AL _ _ _ _ _ _ _ _; refine Ac Y ?_); (first
      | (show AOp _ _ ⟨_, .move _, _, _, _, _⟩ _ _ _; refine Ao hG Y Y ?_)
      | (show AOp _ _ ⟨_, .assign _, _, _, _, _⟩ _ _ _; refine A1 hG Y Y ?_)
      | (show AOp _ _ ⟨_, .binOp _ _ _ _ _, _, _, _, _⟩ _ _ _; first | refine Au hG Y Y Y Y Y (by omega) ?_ | refine As hG Y Y Y Y Y (by omega) ?_ | (refine Aq hG Y Y Y Y Y (fun h => ?_) (fun h => ?_)))
      | (show AOp _ _ ⟨_, .load _ _, _, _, _, _⟩ _ _ _; first | refine Aj 0 hG Y Y Y Y ?_ | refine Aj 1 hG Y Y Y Y ?_)
      | (show AOp _ _ ⟨_, .call ⟨.value _, _, _⟩, _, _, _, _⟩ _ _ _; first | refine A7 Y Y Y Y Y (by apply hc <;> (first | assumption | omega | exact Ae _ _ | exact Ak _ | exact Am _ _ | exact Ay _ | rfl | (simp; omega))) ?_ | fail)
      | refine r_q hG Y Y Y ?_))
    | (show AL _ _ _ _ _ _ _ _; first | refine Bd Y Y Y ?_ | (refine Al ?_; first | show AW _ _ _ _ _ _ | show ∃ x', _ < _ ∧ _)) | (show AW _ _ (.seq _ _) _ _ _; refine Af ?_; intro Q1) | (show AW _ _ (.region _ _ false) _ _ _; refine Ad ?_; intro O1) | (show AW _ _ (.cond _ _ _) _ _ _; first | refine Ai Y ?_ | refine Ah Y ?_) | (show AW _ _ (.skip) _ _ _; refine Ag ?_; first | show AW _ _ _ _ _ _ | show ∃ x', _ < _ ∧ _) | (show AW _ _ (.ret) _ _ _; refine Av ?_; try dsimp only [Ar, Aa, Ap, Ab]) | fail)
      refine Ac rfl (r_mut rfl rfl rfl rfl rfl (.refl _) ht (fun r cs' hr => ?_))
      subst hr
      repeat' (first
    | ((show AL _ _ _ _ _ _ _ _; refine Ac Y ?_); (first
      | (show AOp _ _ ⟨_, .move _, _, _, _, _⟩ _ _ _; refine Ao hG Y Y ?_)
      | (show AOp _ _ ⟨_, .assign _, _, _, _, _⟩ _ _ _; refine A1 hG Y Y ?_)
      | (show AOp _ _ ⟨_, .binOp _ _ _ _ _, _, _, _, _⟩ _ _ _; first | refine Au hG Y Y Y Y Y (by omega) ?_ | refine As hG Y Y Y Y Y (by omega) ?_ | (refine Aq hG Y Y Y Y Y (fun h => ?_) (fun h => ?_)))
      | (show AOp _ _ ⟨_, .load _ _, _, _, _, _⟩ _ _ _; first | refine Aj 0 hG Y Y Y Y ?_ | refine Aj 1 hG Y Y Y Y ?_)
      | refine r_q hG Y Y Y ?_))
    | (show AL _ _ _ _ _ _ _ _; first | refine Bd Y Y Y ?_ | (refine Al ?_; first | show AW _ _ _ _ _ _ | show ∃ x', _ < _ ∧ _)) | (show AW _ _ (.seq _ _) _ _ _; refine Af ?_; intro Q1) | (show AW _ _ (.region _ _ false) _ _ _; refine Ad ?_; intro O1) | (show AW _ _ (.cond _ _ _) _ _ _; first | refine Ai Y ?_ | refine Ah Y ?_) | (show AW _ _ (.skip) _ _ _; refine Ag ?_; first | show AW _ _ _ _ _ _ | show ∃ x', _ < _ ∧ _) | (show AW _ _ (.ret) _ _ _; refine Av ?_; try dsimp only [Ar, Aa, Ap, Ab]) | fail)
      exact ret_mut 0 (A2 rfl A3) rfl (.refl _) rfl ⟨rfl, rfl⟩
    · rw [if_neg h1] at hT
      have hh : rdN ⟨b, 0⟩ m = (beV (b.take m), ⟨b.drop m, 0⟩) := by rw [rdN, if_pos rfl, if_neg h1]
      have hc := num_Take_is (Ak b) hT
      have ht := a1_takes (b := b) (e := 0) (e' := 0) (n := m) (fun h => by omega)
      rw [hh]
      repeat' (first
    | ((show AL _ _ _ _ _ _ _ _; refine Ac Y ?_); (first
      | (show AOp _ _ ⟨_, .move _, _, _, _, _⟩ _ _ _; refine Ao hG Y Y ?_)
      | (show AOp _ _ ⟨_, .assign _, _, _, _, _⟩ _ _ _; refine A1 hG Y Y ?_)
      | (show AOp _ _ ⟨_, .binOp _ _ _ _ _, _, _, _, _⟩ _ _ _; first | refine Au hG Y Y Y Y Y (by omega) ?_ | refine As hG Y Y Y Y Y (by omega) ?_ | (refine Aq hG Y Y Y Y Y (fun h => ?_) (fun h => ?_)))
      | (show AOp _ _ ⟨_, .load _ _, _, _, _, _⟩ _ _ _; first | refine Aj 0 hG Y Y Y Y ?_ | refine Aj 1 hG Y Y Y Y ?_)
      | (show AOp _ _ ⟨_, .call ⟨.value _, _, _⟩, _, _, _, _⟩ _ _ _; first | refine A7 Y Y Y Y Y (by apply hc <;> (first | assumption | omega | exact Ae _ _ | exact Ak _ | exact Am _ _ | exact Ay _ | rfl | (simp; omega))) ?_ | fail)
      | refine r_q hG Y Y Y ?_))
    | (show AL _ _ _ _ _ _ _ _; first | refine Bd Y Y Y ?_ | (refine Al ?_; first | show AW _ _ _ _ _ _ | show ∃ x', _ < _ ∧ _)) | (show AW _ _ (.seq _ _) _ _ _; refine Af ?_; intro Q1) | (show AW _ _ (.region _ _ false) _ _ _; refine Ad ?_; intro O1) | (show AW _ _ (.cond _ _ _) _ _ _; first | refine Ai Y ?_ | refine Ah Y ?_) | (show AW _ _ (.skip) _ _ _; refine Ag ?_; first | show AW _ _ _ _ _ _ | show ∃ x', _ < _ ∧ _) | (show AW _ _ (.ret) _ _ _; refine Av ?_; try dsimp only [Ar, Aa, Ap, Ab]) | fail)
      refine Ac rfl (r_mut rfl rfl rfl rfl rfl (.refl _) ht (fun r cs' hr => ?_))
      subst hr
      repeat' (first
    | ((show AL _ _ _ _ _ _ _ _; refine Ac Y ?_); (first
      | (show AOp _ _ ⟨_, .move _, _, _, _, _⟩ _ _ _; refine Ao hG Y Y ?_)
      | (show AOp _ _ ⟨_, .assign _, _, _, _, _⟩ _ _ _; refine A1 hG Y Y ?_)
      | (show AOp _ _ ⟨_, .binOp _ _ _ _ _, _, _, _, _⟩ _ _ _; first | refine Au hG Y Y Y Y Y (by omega) ?_ | refine As hG Y Y Y Y Y (by omega) ?_ | (refine Aq hG Y Y Y Y Y (fun h => ?_) (fun h => ?_)))
      | (show AOp _ _ ⟨_, .load _ _, _, _, _, _⟩ _ _ _; first | refine Aj 0 hG Y Y Y Y ?_ | refine Aj 1 hG Y Y Y Y ?_)
      | refine r_q hG Y Y Y ?_))
    | (show AL _ _ _ _ _ _ _ _; first | refine Bd Y Y Y ?_ | (refine Al ?_; first | show AW _ _ _ _ _ _ | show ∃ x', _ < _ ∧ _)) | (show AW _ _ (.seq _ _) _ _ _; refine Af ?_; intro Q1) | (show AW _ _ (.region _ _ false) _ _ _; refine Ad ?_; intro O1) | (show AW _ _ (.cond _ _ _) _ _ _; first | refine Ai Y ?_ | refine Ah Y ?_) | (show AW _ _ (.skip) _ _ _; refine Ag ?_; first | show AW _ _ _ _ _ _ | show ∃ x', _ < _ ∧ _) | (show AW _ _ (.ret) _ _ _; refine Av ?_; try dsimp only [Ar, Aa, Ap, Ab]) | fail)
      exact ret_mut 0 (A2 rfl A3) rfl (.refl _) rfl ⟨rfl, rfl⟩
  · have hh : rdN ⟨b, e⟩ m = (0, ⟨b, e⟩) := by rw [rdN, if_neg he]
    rw [hh]
    repeat' (first
    | ((show AL _ _ _ _ _ _ _ _; refine Ac Y ?_); (first
      | (show AOp _ _ ⟨_, .move _, _, _, _, _⟩ _ _ _; refine Ao hG Y Y ?_)
      | (show AOp _ _ ⟨_, .assign _, _, _, _, _⟩ _ _ _; refine A1 hG Y Y ?_)
      | (show AOp _ _ ⟨_, .binOp _ _ _ _ _, _, _, _, _⟩ _ _ _; first | refine Au hG Y Y Y Y Y (by omega) ?_ | refine As hG Y Y Y Y Y (by omega) ?_ | (refine Aq hG Y Y Y Y Y (fun h => ?_) (fun h => ?_)))
      | (show AOp _ _ ⟨_, .load _ _, _, _, _, _⟩ _ _ _; first | refine Aj 0 hG Y Y Y Y ?_ | refine Aj 1 hG Y Y Y Y ?_)
      | refine r_q hG Y Y Y ?_))
    | (show AL _ _ _ _ _ _ _ _; first | refine Bd Y Y Y ?_ | (refine Al ?_; first | show AW _ _ _ _ _ _ | show ∃ x', _ < _ ∧ _)) | (show AW _ _ (.seq _ _) _ _ _; refine Af ?_; intro Q1) | (show AW _ _ (.region _ _ false) _ _ _; refine Ad ?_; intro O1) | (show AW _ _ (.cond _ _ _) _ _ _; first | refine Ai Y ?_ | refine Ah Y ?_) | (show AW _ _ (.skip) _ _ _; refine Ag ?_; first | show AW _ _ _ _ _ _ | show ∃ x', _ < _ ∧ _) | (show AW _ _ (.ret) _ _ _; refine Av ?_; try dsimp only [Ar, Aa, Ap, Ab]) | fail)
    exact ret_mut 0 (A2 rfl A3) rfl (.refl _) rfl ⟨rfl, rfl⟩
theorem a1_bytes {r : RS} (hl : r.b.length ≤ 4294967296) :
    Mut Try.prog 42 [] r.cells (fun u cs' => u = sT (rdB r).1 ∧ cs' = (rdB r).2.cells) := by
  intro off i
  obtain ⟨b, e⟩ := r
  unfold RS.cells
  dsimp only at hl ⊢
  refine A5 (N := 24) (rs := [.tmp 2]) hG Try.func42 rfl rfl rfl rfl rfl ?_
  by_cases he : e = 0
  · subst he
    have hc := num_TakeBytes_is (Ak b) hl rfl
    have h3 := takeBE_3 b
    have hh : rdB ⟨b, 0⟩ = (if (takeBE b).2.2 = 0 then ((takeBE b).1, ⟨b.drop (takeBE b).2.1, 0⟩) else ([], ⟨b, 3⟩)) := by rw [rdB, if_pos rfl]
    have hz : (takeBE b).2.2 ≠ 0 → (takeBE b).1 = [] := fun h => by
      rcases takeBE_e b with q | q
      · exact absurd q.1 h
      · rw [q]
    generalize takeBE b = t at *
    obtain ⟨s, n, e⟩ := t
    dsimp only at *
    by_cases h1 : e = 0
    · subst h1
      have ht := a1_takes (b := b) (e := 0) (e' := 0) (n := n) (fun h => by omega)
      rw [if_pos rfl] at hh
      rw [hh]
      repeat' (first
    | ((show AL _ _ _ _ _ _ _ _; refine Ac Y ?_); (first
      | (show AOp _ _ ⟨_, .move _, _, _, _, _⟩ _ _ _; refine Ao hG Y Y ?_)
      | (show AOp _ _ ⟨_, .assign _, _, _, _, _⟩ _ _ _; refine A1 hG Y Y ?_)
      | (show AOp _ _ ⟨_, .binOp _ _ _ _ _, _, _, _, _⟩ _ _ _; first | refine Au hG Y Y Y Y Y (by omega) ?_ | refine As hG Y Y Y Y Y (by omega) ?_ | (refine Aq hG Y Y Y Y Y (fun h => ?_) (fun h => ?_)))
      | (show AOp _ _ ⟨_, .load _ _, _, _, _, _⟩ _ _ _; first | refine Aj 0 hG Y Y Y Y ?_ | refine Aj 1 hG Y Y Y Y ?_)
      | (show AOp _ _ ⟨_, .call ⟨.value _, _, _⟩, _, _, _, _⟩ _ _ _; first | refine A7 Y Y Y Y Y (by apply hc <;> (first | assumption | omega | exact Ae _ _ | exact Ak _ | exact Am _ _ | exact Ay _ | rfl | (simp; omega))) ?_ | fail)
      | refine r_q hG Y Y Y ?_))
    | (show AL _ _ _ _ _ _ _ _; first | refine Bd Y Y Y ?_ | (refine Al ?_; first | show AW _ _ _ _ _ _ | show ∃ x', _ < _ ∧ _)) | (show AW _ _ (.seq _ _) _ _ _; refine Af ?_; intro Q1) | (show AW _ _ (.region _ _ false) _ _ _; refine Ad ?_; intro O1) | (show AW _ _ (.cond _ _ _) _ _ _; first | refine Ai Y ?_ | refine Ah Y ?_) | (show AW _ _ (.skip) _ _ _; refine Ag ?_; first | show AW _ _ _ _ _ _ | show ∃ x', _ < _ ∧ _) | (show AW _ _ (.ret) _ _ _; refine Av ?_; try dsimp only [Ar, Aa, Ap, Ab]) | fail)
      refine Ac rfl (r_mut rfl rfl rfl rfl rfl (.refl _) ht (fun r cs' hr => ?_))
      subst hr
      repeat' (first
    | ((show AL _ _ _ _ _ _ _ _; refine Ac Y ?_); (first
      | (show AOp _ _ ⟨_, .move _, _, _, _, _⟩ _ _ _; refine Ao hG Y Y ?_)
      | (show AOp _ _ ⟨_, .assign _, _, _, _, _⟩ _ _ _; refine A1 hG Y Y ?_)
      | (show AOp _ _ ⟨_, .binOp _ _ _ _ _, _, _, _, _⟩ _ _ _; first | refine Au hG Y Y Y Y Y (by omega) ?_ | refine As hG Y Y Y Y Y (by omega) ?_ | (refine Aq hG Y Y Y Y Y (fun h => ?_) (fun h => ?_)))
      | (show AOp _ _ ⟨_, .load _ _, _, _, _, _⟩ _ _ _; first | refine Aj 0 hG Y Y Y Y ?_ | refine Aj 1 hG Y Y Y Y ?_)
      | refine r_q hG Y Y Y ?_))
    | (show AL _ _ _ _ _ _ _ _; first | refine Bd Y Y Y ?_ | (refine Al ?_; first | show AW _ _ _ _ _ _ | show ∃ x', _ < _ ∧ _)) | (show AW _ _ (.seq _ _) _ _ _; refine Af ?_; intro Q1) | (show AW _ _ (.region _ _ false) _ _ _; refine Ad ?_; intro O1) | (show AW _ _ (.cond _ _ _) _ _ _; first | refine Ai Y ?_ | refine Ah Y ?_) | (show AW _ _ (.skip) _ _ _; refine Ag ?_; first | show AW _ _ _ _ _ _ | show ∃ x', _ < _ ∧ _) | (show AW _ _ (.ret) _ _ _; refine Av ?_; try dsimp only [Ar, Aa, Ap, Ab]) | fail)
      exact ret_mut 0 (A2 rfl A3) rfl (.refl _) rfl ⟨rfl, rfl⟩
    · have ht := a1_takes (b := b) (e := 0) (e' := e) (n := n) (fun h => absurd h h1)
      obtain rfl : e = 3 := by omega
      rw [if_neg h1] at hh
      rw [hh]
      have := hz h1
      subst this
      repeat' (first
    | ((show AL _ _ _ _ _ _ _ _; refine Ac Y ?_); (first
      | (show AOp _ _ ⟨_, .move _, _, _, _, _⟩ _ _ _; refine Ao hG Y Y ?_)
      | (show AOp _ _ ⟨_, .assign _, _, _, _, _⟩ _ _ _; refine A1 hG Y Y ?_)
      | (show AOp _ _ ⟨_, .binOp _ _ _ _ _, _, _, _, _⟩ _ _ _; first | refine Au hG Y Y Y Y Y (by omega) ?_ | refine As hG Y Y Y Y Y (by omega) ?_ | (refine Aq hG Y Y Y Y Y (fun h => ?_) (fun h => ?_)))
      | (show AOp _ _ ⟨_, .load _ _, _, _, _, _⟩ _ _ _; first | refine Aj 0 hG Y Y Y Y ?_ | refine Aj 1 hG Y Y Y Y ?_)
      | (show AOp _ _ ⟨_, .call ⟨.value _, _, _⟩, _, _, _, _⟩ _ _ _; first | refine A7 Y Y Y Y Y (by apply hc <;> (first | assumption | omega | exact Ae _ _ | exact Ak _ | exact Am _ _ | exact Ay _ | rfl | (simp; omega))) ?_ | fail)
      | refine r_q hG Y Y Y ?_))
    | (show AL _ _ _ _ _ _ _ _; first | refine Bd Y Y Y ?_ | (refine Al ?_; first | show AW _ _ _ _ _ _ | show ∃ x', _ < _ ∧ _)) | (show AW _ _ (.seq _ _) _ _ _; refine Af ?_; intro Q1) | (show AW _ _ (.region _ _ false) _ _ _; refine Ad ?_; intro O1) | (show AW _ _ (.cond _ _ _) _ _ _; first | refine Ai Y ?_ | refine Ah Y ?_) | (show AW _ _ (.skip) _ _ _; refine Ag ?_; first | show AW _ _ _ _ _ _ | show ∃ x', _ < _ ∧ _) | (show AW _ _ (.ret) _ _ _; refine Av ?_; try dsimp only [Ar, Aa, Ap, Ab]) | fail)
      refine Ac rfl (r_mut rfl rfl rfl rfl rfl (.refl _) ht (fun r cs' hr => ?_))
      subst hr
      repeat' (first
    | ((show AL _ _ _ _ _ _ _ _; refine Ac Y ?_); (first
      | (show AOp _ _ ⟨_, .move _, _, _, _, _⟩ _ _ _; refine Ao hG Y Y ?_)
      | (show AOp _ _ ⟨_, .assign _, _, _, _, _⟩ _ _ _; refine A1 hG Y Y ?_)
      | (show AOp _ _ ⟨_, .binOp _ _ _ _ _, _, _, _, _⟩ _ _ _; first | refine Au hG Y Y Y Y Y (by omega) ?_ | refine As hG Y Y Y Y Y (by omega) ?_ | (refine Aq hG Y Y Y Y Y (fun h => ?_) (fun h => ?_)))
      | (show AOp _ _ ⟨_, .load _ _, _, _, _, _⟩ _ _ _; first | refine Aj 0 hG Y Y Y Y ?_ | refine Aj 1 hG Y Y Y Y ?_)
      | refine r_q hG Y Y Y ?_))
    | (show AL _ _ _ _ _ _ _ _; first | refine Bd Y Y Y ?_ | (refine Al ?_; first | show AW _ _ _ _ _ _ | show ∃ x', _ < _ ∧ _)) | (show AW _ _ (.seq _ _) _ _ _; refine Af ?_; intro Q1) | (show AW _ _ (.region _ _ false) _ _ _; refine Ad ?_; intro O1) | (show AW _ _ (.cond _ _ _) _ _ _; first | refine Ai Y ?_ | refine Ah Y ?_) | (show AW _ _ (.skip) _ _ _; refine Ag ?_; first | show AW _ _ _ _ _ _ | show ∃ x', _ < _ ∧ _) | (show AW _ _ (.ret) _ _ _; refine Av ?_; try dsimp only [Ar, Aa, Ap, Ab]) | fail)
      exact ret_mut 0 (A2 rfl A3) rfl (.refl _) rfl ⟨rfl, rfl⟩
  · have hh : rdB ⟨b, e⟩ = ([], ⟨b, e⟩) := by rw [rdB, if_neg he]
    rw [hh]
    repeat' (first
    | ((show AL _ _ _ _ _ _ _ _; refine Ac Y ?_); (first
      | (show AOp _ _ ⟨_, .move _, _, _, _, _⟩ _ _ _; refine Ao hG Y Y ?_)
      | (show AOp _ _ ⟨_, .assign _, _, _, _, _⟩ _ _ _; refine A1 hG Y Y ?_)
      | (show AOp _ _ ⟨_, .binOp _ _ _ _ _, _, _, _, _⟩ _ _ _; first | refine Au hG Y Y Y Y Y (by omega) ?_ | refine As hG Y Y Y Y Y (by omega) ?_ | (refine Aq hG Y Y Y Y Y (fun h => ?_) (fun h => ?_)))
      | (show AOp _ _ ⟨_, .load _ _, _, _, _, _⟩ _ _ _; first | refine Aj 0 hG Y Y Y Y ?_ | refine Aj 1 hG Y Y Y Y ?_)
      | refine r_q hG Y Y Y ?_))
    | (show AL _ _ _ _ _ _ _ _; first | refine Bd Y Y Y ?_ | (refine Al ?_; first | show AW _ _ _ _ _ _ | show ∃ x', _ < _ ∧ _)) | (show AW _ _ (.seq _ _) _ _ _; refine Af ?_; intro Q1) | (show AW _ _ (.region _ _ false) _ _ _; refine Ad ?_; intro O1) | (show AW _ _ (.cond _ _ _) _ _ _; first | refine Ai Y ?_ | refine Ah Y ?_) | (show AW _ _ (.skip) _ _ _; refine Ag ?_; first | show AW _ _ _ _ _ _ | show ∃ x', _ < _ ∧ _) | (show AW _ _ (.ret) _ _ _; refine Av ?_; try dsimp only [Ar, Aa, Ap, Ab]) | fail)
    exact ret_mut 0 (A2 rfl A3) rfl (.nil 1) rfl ⟨rfl, rfl⟩
theorem a1_cats {r : RS} (hl : r.b.length ≤ 4294967296) :
    Mut Try.prog 62 [] r.cells (fun u cs' => u = cT (rdC r).1 ∧ cs' = (rdC r).2.cells) := by
  intro off i
  obtain ⟨b, e⟩ := r
  unfold RS.cells
  dsimp only at hl ⊢
  refine A5 (N := 24) (rs := [.tmp 2]) hG Try.func62 rfl rfl rfl rfl rfl ?_
  by_cases he : e = 0
  · subst he
    have hc := cats_Take_is (x := sT b) (a := (takeC b).1) (n := (takeC b).2.1) (e := (takeC b).2.2) (Ak b) hl rfl
    have h3 := takeC_3 b
    have hh : rdC ⟨b, 0⟩ = (if (takeC b).2.2 = 0 then ((takeC b).1, ⟨b.drop (takeC b).2.1, 0⟩) else ([], ⟨b, (takeC b).2.2⟩)) := by rw [rdC, if_pos rfl]
    have hz : (takeC b).2.2 ≠ 0 → (takeC b).1 = [] := takeC_no
    generalize takeC b = t at *
    obtain ⟨s, n, e⟩ := t
    dsimp only at *
    by_cases h1 : e = 0
    · subst h1
      have ht := a1_takes (b := b) (e := 0) (e' := 0) (n := n) (fun h => by omega)
      rw [if_pos rfl] at hh
      rw [hh]
      repeat' (first
    | ((show AL _ _ _ _ _ _ _ _; refine Ac Y ?_); (first
      | (show AOp _ _ ⟨_, .move _, _, _, _, _⟩ _ _ _; refine Ao hG Y Y ?_)
      | (show AOp _ _ ⟨_, .assign _, _, _, _, _⟩ _ _ _; refine A1 hG Y Y ?_)
      | (show AOp _ _ ⟨_, .binOp _ _ _ _ _, _, _, _, _⟩ _ _ _; first | refine Au hG Y Y Y Y Y (by omega) ?_ | refine As hG Y Y Y Y Y (by omega) ?_ | (refine Aq hG Y Y Y Y Y (fun h => ?_) (fun h => ?_)))
      | (show AOp _ _ ⟨_, .load _ _, _, _, _, _⟩ _ _ _; first | refine Aj 0 hG Y Y Y Y ?_ | refine Aj 1 hG Y Y Y Y ?_)
      | (show AOp _ _ ⟨_, .call ⟨.value _, _, _⟩, _, _, _, _⟩ _ _ _; first | refine A7 Y Y Y Y Y (by apply hc <;> (first | assumption | omega | exact Ae _ _ | exact Ak _ | exact Am _ _ | exact Ay _ | rfl | (simp; omega))) ?_ | fail)
      | refine r_q hG Y Y Y ?_))
    | (show AL _ _ _ _ _ _ _ _; first | refine Bd Y Y Y ?_ | (refine Al ?_; first | show AW _ _ _ _ _ _ | show ∃ x', _ < _ ∧ _)) | (show AW _ _ (.seq _ _) _ _ _; refine Af ?_; intro Q1) | (show AW _ _ (.region _ _ false) _ _ _; refine Ad ?_; intro O1) | (show AW _ _ (.cond _ _ _) _ _ _; first | refine Ai Y ?_ | refine Ah Y ?_) | (show AW _ _ (.skip) _ _ _; refine Ag ?_; first | show AW _ _ _ _ _ _ | show ∃ x', _ < _ ∧ _) | (show AW _ _ (.ret) _ _ _; refine Av ?_; try dsimp only [Ar, Aa, Ap, Ab]) | fail)
      refine Ac rfl (r_mut rfl rfl rfl rfl rfl (.refl _) ht (fun r cs' hr => ?_))
      subst hr
      repeat' (first
    | ((show AL _ _ _ _ _ _ _ _; refine Ac Y ?_); (first
      | (show AOp _ _ ⟨_, .move _, _, _, _, _⟩ _ _ _; refine Ao hG Y Y ?_)
      | (show AOp _ _ ⟨_, .assign _, _, _, _, _⟩ _ _ _; refine A1 hG Y Y ?_)
      | (show AOp _ _ ⟨_, .binOp _ _ _ _ _, _, _, _, _⟩ _ _ _; first | refine Au hG Y Y Y Y Y (by omega) ?_ | refine As hG Y Y Y Y Y (by omega) ?_ | (refine Aq hG Y Y Y Y Y (fun h => ?_) (fun h => ?_)))
      | (show AOp _ _ ⟨_, .load _ _, _, _, _, _⟩ _ _ _; first | refine Aj 0 hG Y Y Y Y ?_ | refine Aj 1 hG Y Y Y Y ?_)
      | refine r_q hG Y Y Y ?_))
    | (show AL _ _ _ _ _ _ _ _; first | refine Bd Y Y Y ?_ | (refine Al ?_; first | show AW _ _ _ _ _ _ | show ∃ x', _ < _ ∧ _)) | (show AW _ _ (.seq _ _) _ _ _; refine Af ?_; intro Q1) | (show AW _ _ (.region _ _ false) _ _ _; refine Ad ?_; intro O1) | (show AW _ _ (.cond _ _ _) _ _ _; first | refine Ai Y ?_ | refine Ah Y ?_) | (show AW _ _ (.skip) _ _ _; refine Ag ?_; first | show AW _ _ _ _ _ _ | show ∃ x', _ < _ ∧ _) | (show AW _ _ (.ret) _ _ _; refine Av ?_; try dsimp only [Ar, Aa, Ap, Ab]) | fail)
      exact ret_mut 0 (A2 rfl A3) rfl (.refl _) rfl ⟨rfl, rfl⟩
    · have ht := a1_takes (b := b) (e := 0) (e' := e) (n := n) (fun h => absurd h h1)
      rw [if_neg h1] at hh
      rw [hh]
      have := hz h1
      subst this
      rw [takesF, if_pos h1] at ht
      repeat' (first
    | ((show AL _ _ _ _ _ _ _ _; refine Ac Y ?_); (first
      | (show AOp _ _ ⟨_, .move _, _, _, _, _⟩ _ _ _; refine Ao hG Y Y ?_)
      | (show AOp _ _ ⟨_, .assign _, _, _, _, _⟩ _ _ _; refine A1 hG Y Y ?_)
      | (show AOp _ _ ⟨_, .binOp _ _ _ _ _, _, _, _, _⟩ _ _ _; first | refine Au hG Y Y Y Y Y (by omega) ?_ | refine As hG Y Y Y Y Y (by omega) ?_ | (refine Aq hG Y Y Y Y Y (fun h => ?_) (fun h => ?_)))
      | (show AOp _ _ ⟨_, .load _ _, _, _, _, _⟩ _ _ _; first | refine Aj 0 hG Y Y Y Y ?_ | refine Aj 1 hG Y Y Y Y ?_)
      | (show AOp _ _ ⟨_, .call ⟨.value _, _, _⟩, _, _, _, _⟩ _ _ _; first | refine A7 Y Y Y Y Y (by apply hc <;> (first | assumption | omega | exact Ae _ _ | exact Ak _ | exact Am _ _ | exact Ay _ | rfl | (simp; omega))) ?_ | fail)
      | refine r_q hG Y Y Y ?_))
    | (show AL _ _ _ _ _ _ _ _; first | refine Bd Y Y Y ?_ | (refine Al ?_; first | show AW _ _ _ _ _ _ | show ∃ x', _ < _ ∧ _)) | (show AW _ _ (.seq _ _) _ _ _; refine Af ?_; intro Q1) | (show AW _ _ (.region _ _ false) _ _ _; refine Ad ?_; intro O1) | (show AW _ _ (.cond _ _ _) _ _ _; first | refine Ai Y ?_ | refine Ah Y ?_) | (show AW _ _ (.skip) _ _ _; refine Ag ?_; first | show AW _ _ _ _ _ _ | show ∃ x', _ < _ ∧ _) | (show AW _ _ (.ret) _ _ _; refine Av ?_; try dsimp only [Ar, Aa, Ap, Ab]) | fail)
      refine Ac rfl (r_mut rfl rfl rfl rfl rfl (.refl _) ht (fun r cs' hr => ?_))
      subst hr
      repeat' (first
    | ((show AL _ _ _ _ _ _ _ _; refine Ac Y ?_); (first
      | (show AOp _ _ ⟨_, .move _, _, _, _, _⟩ _ _ _; refine Ao hG Y Y ?_)
      | (show AOp _ _ ⟨_, .assign _, _, _, _, _⟩ _ _ _; refine A1 hG Y Y ?_)
      | (show AOp _ _ ⟨_, .binOp _ _ _ _ _, _, _, _, _⟩ _ _ _; first | refine Au hG Y Y Y Y Y (by omega) ?_ | refine As hG Y Y Y Y Y (by omega) ?_ | (refine Aq hG Y Y Y Y Y (fun h => ?_) (fun h => ?_)))
      | (show AOp _ _ ⟨_, .load _ _, _, _, _, _⟩ _ _ _; first | refine Aj 0 hG Y Y Y Y ?_ | refine Aj 1 hG Y Y Y Y ?_)
      | refine r_q hG Y Y Y ?_))
    | (show AL _ _ _ _ _ _ _ _; first | refine Bd Y Y Y ?_ | (refine Al ?_; first | show AW _ _ _ _ _ _ | show ∃ x', _ < _ ∧ _)) | (show AW _ _ (.seq _ _) _ _ _; refine Af ?_; intro Q1) | (show AW _ _ (.region _ _ false) _ _ _; refine Ad ?_; intro O1) | (show AW _ _ (.cond _ _ _) _ _ _; first | refine Ai Y ?_ | refine Ah Y ?_) | (show AW _ _ (.skip) _ _ _; refine Ag ?_; first | show AW _ _ _ _ _ _ | show ∃ x', _ < _ ∧ _) | (show AW _ _ (.ret) _ _ _; refine Av ?_; try dsimp only [Ar, Aa, Ap, Ab]) | fail)
      exact ret_mut 0 (A2 rfl A3) rfl (.refl _) rfl ⟨rfl, rfl⟩
  · have hh : rdC ⟨b, e⟩ = ([], ⟨b, e⟩) := by rw [rdC, if_neg he]
    rw [hh]
    repeat' (first
    | ((show AL _ _ _ _ _ _ _ _; refine Ac Y ?_); (first
      | (show AOp _ _ ⟨_, .move _, _, _, _, _⟩ _ _ _; refine Ao hG Y Y ?_)
      | (show AOp _ _ ⟨_, .assign _, _, _, _, _⟩ _ _ _; refine A1 hG Y Y ?_)
      | (show AOp _ _ ⟨_, .binOp _ _ _ _ _, _, _, _, _⟩ _ _ _; first | refine Au hG Y Y Y Y Y (by omega) ?_ | refine As hG Y Y Y Y Y (by omega) ?_ | (refine Aq hG Y Y Y Y Y (fun h => ?_) (fun h => ?_)))
      | (show AOp _ _ ⟨_, .load _ _, _, _, _, _⟩ _ _ _; first | refine Aj 0 hG Y Y Y Y ?_ | refine Aj 1 hG Y Y Y Y ?_)
      | refine r_q hG Y Y Y ?_))
    | (show AL _ _ _ _ _ _ _ _; first | refine Bd Y Y Y ?_ | (refine Al ?_; first | show AW _ _ _ _ _ _ | show ∃ x', _ < _ ∧ _)) | (show AW _ _ (.seq _ _) _ _ _; refine Af ?_; intro Q1) | (show AW _ _ (.region _ _ false) _ _ _; refine Ad ?_; intro O1) | (show AW _ _ (.cond _ _ _) _ _ _; first | refine Ai Y ?_ | refine Ah Y ?_) | (show AW _ _ (.skip) _ _ _; refine Ag ?_; first | show AW _ _ _ _ _ _ | show ∃ x', _ < _ ∧ _) | (show AW _ _ (.ret) _ _ _; refine Av ?_; try dsimp only [Ar, Aa, Ap, Ab]) | fail)
    exact ret_mut 0 (A2 rfl A3) rfl (.nil 1) rfl ⟨rfl, rfl⟩
end Go.Proofs.Ytemgmkoggnjgjaa
