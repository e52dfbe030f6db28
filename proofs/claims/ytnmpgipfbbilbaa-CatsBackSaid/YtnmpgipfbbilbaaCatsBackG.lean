/- Part of the proof of the law CatsBack: the texts TsXG, TsXH, XM1, TsXI, TsXJ, CB, TsJ, CX, S8, S9, S11, LP, CU. No conditions. -/
import Derived.Test.YtnmpgipfbbilbaaCatsBackF
import Derived.KernelRfl
set_option linter.unusedSimpArgs false
set_option linter.unusedVariables false
set_option linter.unusedVariables false
set_option linter.unusedSimpArgs false
namespace Go.Ts

structure Mach where
  G : Nat → Option TI
  F : Tr Func
  live : FuncId → Nat → Bool
  known : FuncId → Option (List T → HS → Option (T × HS))

abbrev Out := Option (Exit × Tr T × HS)
def jumps (run : Code → Tr T → HS → Out) (b : Code) : Nat → Out → Out
  | 0, _ => none
  | k + 1, r => match r with
    | some (.goto l, e, h) => match findLabel b l with
      | some rest => jumps run b k (run rest e h)
      | none => r
    | _ => r
def resX (G : Nat → Option TI) (e : Tr T) (h : HS) : List ResultVar → Option (List T)
  | [] => some []
  | .tmp x :: rs => match e.get x, resX G e h rs with
    | some t, some ts => some (t :: ts)
    | _, _ => none
  | .cell x ty :: rs => match e.get x, resX G e h rs with
    | some (.ptr i o), some ts => match readX G h ty i o with
      | some t => some (t :: ts)
      | none => none
    | _, _ => none
def callB (M : Mach) (run : Nat → (Nat → Bool) → Code → Tr T → HS → Out) (g : FuncId) (ts : List T) (h : HS) : Option (T × HS) :=
  match M.F.get g with
  | some fn => match fn.body with
    | some c => cond (Nat.ble ts.length fn.ntmps) (match run fn.ntmps (M.live g) c (Tr.of ts) h with
      | some (.ret, e', h') => match resX M.G e' h' fn.results.toList with
        | some us => some (tup1 us, h')
        | none => none
      | some (.normal, e', h') => match resX M.G e' h' fn.results.toList with
        | some us => some (tup1 us, h')
        | none => none
      | _ => none) none
    | none => none
  | none => none
def callW (M : Mach) (run : Nat → (Nat → Bool) → Code → Tr T → HS → Out) (g : FuncId) (ts : List T) (h : HS) : Option (T × HS) :=
  match M.known g with
  | some f => match f ts h with
    | some r => some r
    | none => callB M run g ts h
  | none => callB M run g ts h
def exec (M : Mach) : Nat → Nat → (Nat → Bool) → Code → Tr T → HS → Out
  | 0, _, _, _, _, _ => none
  | n + 1, N, lv, c, e, h => match c with
    | .skip => some (.normal, e, h)
    | .label _ => some (.normal, e, h)
    | .exit id => some (.exit id, e, h)
    | .goto l => some (.goto l, e, h)
    | .ret => some (.ret, e, h)
    | .region _ ops draw => match cond draw (drawX M.G lv (callW M (exec M n)) N ops.toList e h) (runOps M.G lv (callW M (exec M n)) ops.toList N ops.toList e h) with
      | some (e', h') => some (.normal, e', h')
      | none => none
    | .seq a b => match exec M n N lv a e h with
      | some (.normal, e', h') => exec M n N lv b e' h'
      | r => r
    | .cond c a b => match evX e c with
      | some (.bool t) => exec M n N lv (cond t a b) e h
      | _ => none
    | .block id b => match exec M n N lv b e h with
      | some (.exit id', e', h') => cond (Nat.beq id' id) (some (.normal, e', h')) (some (.exit id', e', h'))
      | r => r
    | .loop b => match exec M n N lv b e h with
      | some (.normal, e', h') => exec M n N lv (.loop b) e' h'
      | r => r
    | .scope b => jumps (exec M n N lv) b n (exec M n N lv b e h)
    | _ => none
def callX (M : Mach) (n : Nat) : CallF := callW M (exec M n)

structure MachOK (P : Program) (M : Mach) : Prop where
  mix : P.follows .mixedOrders = true
  fits : Fits P M.G
  func : ∀ f fn, M.F.get f = some fn → P.funcs[f]? = some fn ∧ (fn.name == "runtime.NumGoroutine") = false
  known : ∀ g f, M.known g = some f → ∀ ts h t h', f ts h = some (t, h') → ∀ σ, HCov σ h → ACalls P g ts σ (fun u σ' => u = t ∧ HCov σ' h')

section
variable {P : Program} {M : Mach}

def RunOK (P : Program) (run : Nat → (Nat → Bool) → Code → Tr T → HS → Out) : Prop :=
  ∀ N lv c e h x e' h', run N lv c e h = some (x, e', h') → ∀ a σ, CovE a e → HCov σ h → AW P N c (fun y a' σ' => y = x ∧ CovE a' e' ∧ HCov σ' h') a σ

theorem envOf_at : ∀ (ts : List T) (i j : Nat) (t : T), ts[j]? = some t → get (envOf i ts) (i + j) = some t
  | [], i, j, t, h => by simp at h
  | u :: ts, i, 0, t, h => by simp at h; subst h; simp [envOf, get]
  | u :: ts, i, j + 1, t, h => by
    simp only [envOf, get]
    rw [beqF (by omega), cond_false, show i + (j + 1) = i + 1 + j by omega]
    exact envOf_at ts (i + 1) j t (by simpa using h)
theorem resX_ok {G : Nat → Option TI} {a : Env} {e : Tr T} {σ : St} {h : HS} (ce : CovE a e) (c : HCov σ h) : ∀ (rs : List ResultVar) (ts : List T), resX G e h rs = some ts → ResRs G a σ rs ts
  | [], ts, hx => by simp [resX] at hx; subst hx; rfl
  | .tmp x :: rs, ts, hx => by
    simp only [resX] at hx
    split at hx
    · rename_i t us h1 h2
      injection hx with hx; subst hx
      exact ⟨t, us, ce _ _ h1, resX_ok ce c rs us h2, rfl⟩
    · cases hx
  | .cell x ty :: rs, ts, hx => by
    simp only [resX] at hx
    split at hx
    · rename_i i o us h1 h2
      split at hx
      · rename_i t ht
        injection hx with hx; subst hx
        obtain ⟨us', k1, k2⟩ := readX_ok c ht
        obtain ⟨n, hn⟩ := List.getElem?_of_mem k1
        exact ⟨t, us, ⟨n, i, o, us', ce _ _ h1, hn, k2⟩, resX_ok ce c rs us h2, rfl⟩
      · cases hx
    · cases hx
theorem callW_ok (hM : MachOK P M) {run : Nat → (Nat → Bool) → Code → Tr T → HS → Out} (hr : RunOK P run) : CallsOK P (callW M run) := by
  intro g ts h t h' hx σ c
  have body : callB M run g ts h = some (t, h') → ACalls P g ts σ (fun u σ' => u = t ∧ HCov σ' h') := by
    intro hx
    unfold callB at hx
    split at hx
    · rename_i fn hfn
      obtain ⟨hf1, hf2⟩ := hM.func g fn hfn
      split at hx
      · rename_i b hb
        cases hl : Nat.ble ts.length fn.ntmps with
        | false => rw [hl] at hx; cases hx
        | true =>
          rw [hl, cond_true] at hx
          have fin : ∀ (x : Exit) (e' : Tr T) (h2 : HS) (us : List T), (x = .ret ∨ x = .normal) → run fn.ntmps (M.live g) b (Tr.of ts) h = some (x, e', h2) → resX M.G e' h2 fn.results.toList = some us → t = tup1 us → h' = h2 → ACalls P g ts σ (fun u σ' => u = t ∧ HCov σ' h') := by
            intro x e' h2 us hxx hrun hres ht hh
            subst ht; subst hh
            refine Bs hM.fits hf1 hb rfl rfl hf2 hl ?_
            have := hr _ _ _ _ _ _ _ _ hrun (envOf 0 ts) σ (fun i t hi => by have := envOf_at ts 0 i t (Tr.get_of hi); simpa using this) c
            refine this.mono ?_
            rintro y a' σ' ⟨rfl, k1, k2⟩
            have hrs := resX_ok k1 k2 _ _ hres
            rcases hxx with rfl | rfl
            · exact ⟨us, hrs, (Conv.wk (Wk.refl _)).cr ⟨rfl, k2⟩⟩
            · exact ⟨us, hrs, (Conv.wk (Wk.refl _)).cr ⟨rfl, k2⟩⟩
          split at hx
          · rename_i e' h2 hrun
            split at hx
            · rename_i us hres
              injection hx with hx; injection hx with q1 q2
              exact fin _ _ _ us (.inl rfl) hrun hres q1.symm q2.symm
            · cases hx
          · rename_i e' h2 hrun
            split at hx
            · rename_i us hres
              injection hx with hx; injection hx with q1 q2
              exact fin _ _ _ us (.inr rfl) hrun hres q1.symm q2.symm
            · cases hx
          · cases hx
      · cases hx
    · cases hx
  unfold callW at hx
  split at hx
  · rename_i f hf
    split at hx
    · rename_i r hr'
      injection hx with hx; subst hx
      exact hM.known g f hf ts h t h' hr' σ c
    · exact body hx
  · exact body hx

theorem jumps_ok {N : Nat} {lv : Nat → Bool} {run : Nat → (Nat → Bool) → Code → Tr T → HS → Out} (hr : RunOK P run) {b : Code} : ∀ (k : Nat) (r : Code) (e : Tr T) (h : HS) (x : Exit) (e' : Tr T) (h' : HS), jumps (run N lv) b k (run N lv r e h) = some (x, e', h') →
    ∀ a σ, CovE a e → HCov σ h → ∀ av w μ, Inv w μ σ → RelA w μ σ N av a → SW P b r (fun y av' w' => ∃ a2 σ2 μ2, Ev w μ σ w' μ2 σ2 ∧ Inv w' μ2 σ2 ∧ RelA w' μ2 σ2 N av' a2 ∧ (y = x ∧ CovE a2 e' ∧ HCov σ2 h')) av w
  | 0, r, e, h, x, e', h', hx, a, σ, ce, c, av, w, μ, hi, hra => by simp [jumps] at hx
  | k + 1, r, e, h, x, e', h', hx, a, σ, ce, c, av, w, μ, hi, hra => by
    simp only [jumps] at hx
    cases hrun : run N lv r e h with
    | none => rw [hrun] at hx; cases hx
    | some q =>
      obtain ⟨y, e1, h1⟩ := q
      rw [hrun] at hx
      refine sw_step (wp_mono (hr _ _ _ _ _ _ _ _ hrun a σ ce c av w μ hi hra) ?_)
      rintro z av' w' ⟨a', σ', μ', k1, k2, k3, rfl, k4, k5⟩
      cases z with
      | goto l =>
        simp only [sjump]
        simp only at hx
        cases hf : findLabel b l with
        | some rest =>
          rw [hf] at hx
          simp only at hx ⊢
          refine sw_mono (jumps_ok hr k rest e1 h1 x e' h' hx a' σ' k4 k5 av' w' μ' k2 k3) ?_
          rintro y av2 w2 ⟨a2, σ2, μ2, l1, l2, l3, l4⟩
          exact ⟨a2, σ2, μ2, k1.trans l1, l2, l3, l4⟩
        | none =>
          rw [hf] at hx
          simp only at hx ⊢
          injection hx with hx; injection hx with q1 hx; injection hx with q2 q3; subst q1; subst q2; subst q3
          exact ⟨a', σ', μ', k1, k2, k3, rfl, k4, k5⟩
      | normal =>
        simp only at hx
        injection hx with hx; injection hx with q1 hx; injection hx with q2 q3; subst q1; subst q2; subst q3
        exact ⟨a', σ', μ', k1, k2, k3, rfl, k4, k5⟩
      | exit id =>
        simp only at hx
        injection hx with hx; injection hx with q1 hx; injection hx with q2 q3; subst q1; subst q2; subst q3
        exact ⟨a', σ', μ', k1, k2, k3, rfl, k4, k5⟩
      | ret =>
        simp only at hx
        injection hx with hx; injection hx with q1 hx; injection hx with q2 q3; subst q1; subst q2; subst q3
        exact ⟨a', σ', μ', k1, k2, k3, rfl, k4, k5⟩
      | panic ch =>
        simp only at hx
        injection hx with hx; injection hx with q1 hx; injection hx with q2 q3; subst q1; subst q2; subst q3
        exact ⟨a', σ', μ', k1, k2, k3, rfl, k4, k5⟩
      | outgrown =>
        simp only at hx
        injection hx with hx; injection hx with q1 hx; injection hx with q2 q3; subst q1; subst q2; subst q3
        exact ⟨a', σ', μ', k1, k2, k3, rfl, k4, k5⟩

theorem exec_ok (hM : MachOK P M) : ∀ n, RunOK P (exec M n)
  | 0 => fun N lv c e h x e' h' hx => by simp [exec] at hx
  | n + 1 => by
    have ih := exec_ok hM n
    have hcall := callW_ok hM ih
    intro N lv c e h x e' h' hx a σ ce cv
    have ce' := ce
    cases c with
    | skip => simp only [exec] at hx; injection hx with hx; injection hx with q1 hx; injection hx with q2 q3; subst q1; subst q2; subst q3; exact Aj ⟨rfl, ce, cv⟩
    | label l => simp only [exec] at hx; injection hx with hx; injection hx with q1 hx; injection hx with q2 q3; subst q1; subst q2; subst q3; exact aw_label ⟨rfl, ce, cv⟩
    | exit l => simp only [exec] at hx; injection hx with hx; injection hx with q1 hx; injection hx with q2 q3; subst q1; subst q2; subst q3; exact Av ⟨rfl, ce, cv⟩
    | goto l => simp only [exec] at hx; injection hx with hx; injection hx with q1 hx; injection hx with q2 q3; subst q1; subst q2; subst q3; exact aw_goto ⟨rfl, ce, cv⟩
    | ret => simp only [exec] at hx; injection hx with hx; injection hx with q1 hx; injection hx with q2 q3; subst q1; subst q2; subst q3; exact Au ⟨rfl, ce, cv⟩
    | region id ops draw =>
      simp only [exec] at hx
      split at hx
      · rename_i e1 h1 hrun
        injection hx with hx; injection hx with q1 hx; injection hx with q2 q3; subst q1; subst q2; subst q3
        obtain ⟨os⟩ := ops
        cases draw with
        | true =>
          rw [cond_true] at hrun
          exact aw_drawX hM.mix hM.fits hcall hrun ce cv
        | false =>
          rw [cond_false] at hrun
          refine aw_region ?_
          have := runOps_sound hM.fits hcall os 0 e h e1 h1 a σ hrun rfl ce cv
          rwa [show List.range' 0 os.length = List.range (⟨os⟩ : Array Oper).size by rw [List.range_eq_range']; rfl] at this
      · cases hx
    | seq p q =>
      simp only [exec] at hx
      refine aw_seq ?_
      cases hp : exec M n N lv p e h with
      | none => rw [hp] at hx; cases hx
      | some r =>
        obtain ⟨y, e1, h1⟩ := r
        rw [hp] at hx
        refine (ih _ _ _ _ _ _ _ _ hp a σ ce cv).mono ?_
        rintro z a' σ' ⟨rfl, k1, k2⟩
        cases z with
        | normal => exact ih _ _ _ _ _ _ _ _ hx a' σ' k1 k2
        | exit id => simp only at hx; injection hx with hx; injection hx with q1 hx; injection hx with q2 q3; subst q1; subst q2; subst q3; exact ⟨rfl, k1, k2⟩
        | goto id => simp only at hx; injection hx with hx; injection hx with q1 hx; injection hx with q2 q3; subst q1; subst q2; subst q3; exact ⟨rfl, k1, k2⟩
        | ret => simp only at hx; injection hx with hx; injection hx with q1 hx; injection hx with q2 q3; subst q1; subst q2; subst q3; exact ⟨rfl, k1, k2⟩
        | panic id => simp only at hx; injection hx with hx; injection hx with q1 hx; injection hx with q2 q3; subst q1; subst q2; subst q3; exact ⟨rfl, k1, k2⟩
        | outgrown => simp only at hx; injection hx with hx; injection hx with q1 hx; injection hx with q2 q3; subst q1; subst q2; subst q3; exact ⟨rfl, k1, k2⟩
    | cond cc p q =>
      simp only [exec] at hx
      split at hx
      · rename_i t ht
        exact aw_cond (ce.ev ht) (ih _ _ _ _ _ _ _ _ hx a σ ce cv)
      · cases hx
    | block id b =>
      simp only [exec] at hx
      refine aw_block ?_
      cases hp : exec M n N lv b e h with
      | none => rw [hp] at hx; cases hx
      | some r =>
        obtain ⟨y, e1, h1⟩ := r
        rw [hp] at hx
        refine (ih _ _ _ _ _ _ _ _ hp a σ ce cv).mono ?_
        rintro z a' σ' ⟨rfl, k1, k2⟩
        cases z with
        | exit id' =>
          simp only at hx
          simp only [Ab]
          cases hb : Nat.beq id' id with
          | true => rw [hb] at hx; simp only [cond_true] at hx ⊢; injection hx with hx; injection hx with q1 hx; injection hx with q2 q3; subst q1; subst q2; subst q3; exact ⟨rfl, k1, k2⟩
          | false => rw [hb] at hx; simp only [cond_false] at hx ⊢; injection hx with hx; injection hx with q1 hx; injection hx with q2 q3; subst q1; subst q2; subst q3; exact ⟨rfl, k1, k2⟩
        | normal => simp only at hx; injection hx with hx; injection hx with q1 hx; injection hx with q2 q3; subst q1; subst q2; subst q3; exact ⟨rfl, k1, k2⟩
        | goto id => simp only at hx; injection hx with hx; injection hx with q1 hx; injection hx with q2 q3; subst q1; subst q2; subst q3; exact ⟨rfl, k1, k2⟩
        | ret => simp only at hx; injection hx with hx; injection hx with q1 hx; injection hx with q2 q3; subst q1; subst q2; subst q3; exact ⟨rfl, k1, k2⟩
        | panic id => simp only at hx; injection hx with hx; injection hx with q1 hx; injection hx with q2 q3; subst q1; subst q2; subst q3; exact ⟨rfl, k1, k2⟩
        | outgrown => simp only at hx; injection hx with hx; injection hx with q1 hx; injection hx with q2 q3; subst q1; subst q2; subst q3; exact ⟨rfl, k1, k2⟩
    | loop b =>
      simp only [exec] at hx
      intro av w μ hi hra
      refine loop_of_lw ?_
      -- as often as there is fuel
      have key : ∀ m, m ≤ n → ∀ e h, (match exec M m N lv b e h with
          | some (.normal, e', h') => exec M m N lv (.loop b) e' h'
          | r => r) = some (x, e', h') → ∀ a σ, CovE a e → HCov σ h → ∀ av w μ, Inv w μ σ → RelA w μ σ N av a →
          LW P b (fun y av' w' => ∃ a2 σ2 μ2, Ev w μ σ w' μ2 σ2 ∧ Inv w' μ2 σ2 ∧ RelA w' μ2 σ2 N av' a2 ∧ (y = x ∧ CovE a2 e' ∧ HCov σ2 h')) av w := by
        intro m
        induction m with
        | zero => intro hm e h hx; simp [exec] at hx
        | succ m ihm =>
          intro hm e h hx a σ ce cv
          refine aw_loop_unfold ?_
          cases hp : exec M (m + 1) N lv b e h with
          | none => rw [hp] at hx; cases hx
          | some r =>
            obtain ⟨y, e1, h1⟩ := r
            rw [hp] at hx
            have ihb : RunOK P (exec M (m + 1)) := by
              by_cases hmn : m + 1 = n
              · rw [hmn]; exact ih
              · exact exec_ok hM (m + 1)
            refine (ihb _ _ _ _ _ _ _ _ hp a σ ce cv).mono ?_
            rintro z a' σ' ⟨rfl, k1, k2⟩
            cases z with
            | normal =>
              simp only [exec] at hx
              exact ihm (by omega) e1 h1 hx a' σ' k1 k2
            | exit id => simp only at hx; injection hx with hx; injection hx with q1 hx; injection hx with q2 q3; subst q1; subst q2; subst q3; exact ⟨rfl, k1, k2⟩
            | goto id => simp only at hx; injection hx with hx; injection hx with q1 hx; injection hx with q2 q3; subst q1; subst q2; subst q3; exact ⟨rfl, k1, k2⟩
            | ret => simp only at hx; injection hx with hx; injection hx with q1 hx; injection hx with q2 q3; subst q1; subst q2; subst q3; exact ⟨rfl, k1, k2⟩
            | panic id => simp only at hx; injection hx with hx; injection hx with q1 hx; injection hx with q2 q3; subst q1; subst q2; subst q3; exact ⟨rfl, k1, k2⟩
            | outgrown => simp only at hx; injection hx with hx; injection hx with q1 hx; injection hx with q2 q3; subst q1; subst q2; subst q3; exact ⟨rfl, k1, k2⟩
      exact key n (Nat.le_refl _) e h hx a σ ce cv av w μ hi hra
    | scope b =>
      simp only [exec] at hx
      intro av w μ hi hra
      exact scope_of_sw (jumps_ok ih n b e h x e' h' hx a σ ce cv av w μ hi hra)
    | rangeFunc f ps aa b => simp only [exec] at hx; cases hx
    | refuse why => simp only [exec] at hx; cases hx
termination_by n => n

theorem callX_ok (hM : MachOK P M) (n : Nat) : CallsOK P (callX M n) := callW_ok hM (exec_ok hM n)

def hs0 : HS := ⟨.leaf, .leaf, 0⟩
end
end Go.Ts
set_option linter.unusedVariables false
namespace Go.Ts
def tabG (t : Tr (Option TI)) (i : Nat) : Option TI := match t.get i with
  | some x => x
  | none => none
theorem tabG_fits {P : Program} {L : List (Option TI)} (h : Fits P (tab L)) : Fits P (tabG (Tr.of L)) := by
  intro t i ht
  refine h t i ?_
  unfold tabG at ht
  split at ht
  · rename_i x hx
    unfold tab; rw [Tr.get_of hx]; exact ht
  · cases ht
def namesOK : List Func → Bool
  | [] => true
  | f :: fs => !(f.name == "runtime.NumGoroutine") && namesOK fs
theorem namesOK_at : ∀ {l : List Func} {i : Nat} {f : Func}, namesOK l = true → l[i]? = some f → (f.name == "runtime.NumGoroutine") = false
  | [], i, f, _, h => by simp at h
  | g :: l, 0, f, hn, h => by
    simp at h; subst h
    simp only [namesOK, Bool.and_eq_true, Bool.not_eq_true'] at hn; exact hn.1
  | g :: l, i + 1, f, hn, h => by
    simp only [namesOK, Bool.and_eq_true] at hn
    exact namesOK_at hn.2 (by simpa using h)
theorem func_ok {P : Program} (hn : namesOK P.funcs.toList = true) (f : FuncId) (fn : Func) (h : (Tr.of P.funcs.toList).get f = some fn) : P.funcs[f]? = some fn ∧ (fn.name == "runtime.NumGoroutine") = false := by
  have h1 := Tr.get_of h
  exact ⟨by simpa using h1, namesOK_at hn h1⟩
end Go.Ts
namespace Go.Proofs.Ytnmpgipfbbilbaa
open Go.Ts
noncomputable def GT : Tr (Option TI) := Tr.of L
noncomputable def FT : Tr Func := Tr.of Try.prog.funcs.toList
noncomputable def mach (live : FuncId → Nat → Bool) (known : FuncId → Option (List T → HS → Option (T × HS))) : Mach := ⟨tabG GT, FT, live, known⟩
theorem names_ok : namesOK Try.prog.funcs.toList = true := by kernel_rfl
set_option maxRecDepth 100000 in
theorem mach_ok (live : FuncId → Nat → Bool) {known : FuncId → Option (List T → HS → Option (T × HS))} (hk : ∀ g f, known g = some f → ∀ ts h t h', f ts h = some (t, h') → ∀ σ, HCov σ h → ACalls Try.prog g ts σ (fun u σ' => u = t ∧ HCov σ' h')) :
    MachOK Try.prog (mach live known) := ⟨by kernel_rfl, tabG_fits hG, func_ok names_ok, hk⟩
def noKnown (_ : FuncId) : Option (List T → HS → Option (T × HS)) := none
end Go.Proofs.Ytnmpgipfbbilbaa
set_option linter.unusedVariables false
set_option linter.unusedSimpArgs false
namespace Go.Ts

section
variable {P : Program} {σ : St}
theorem HCov.newT {h : HS} (c : HCov σ h) : HCov (σ.newT h.nx) ⟨h.L, h.R.set h.nx (), h.nx + 1⟩ := by
  refine ⟨c.th, c.mp, fun l u hl => ?_, by simp [St.newT, c.nx]⟩
  rcases Tr.get_set (show (h.R.set h.nx ()).get l = some u from hl) with ⟨q1, _⟩ | ⟨q1, q2⟩
  · subst q1; exact List.mem_cons_self
  · exact List.mem_cons_of_mem _ (c.room l u q2)
end
end Go.Ts
set_option linter.unusedVariables false
set_option linter.unusedSimpArgs false
namespace Go.Ts
section
variable {P : Program} {M : Mach}
theorem HCov.none {σ : St} {h : HS} (c : HCov σ h) : HCov σ ⟨.leaf, .leaf, h.nx⟩ :=
  ⟨fun i n zn z ov hi => by simp [Tr.get] at hi, fun i es hi => by simp [Tr.get] at hi, fun k u hk => by simp [Tr.get] at hk, c.nx⟩
theorem cold_pure {f nx : Nat} (hc : ∀ σ, HCov σ hs0 → ACalls P f [] σ (fun u σ' => u = .bool true ∧ HCov σ' ⟨.leaf, .leaf, nx⟩)) : Pure P f [] (.bool true) := by
  intro off
  have hcov : HCov ⟨[], [], off, some 0⟩ hs0 := ⟨fun i n zn z ov h => by simp [hs0, Tr.get] at h, fun i es h => by simp [hs0, Tr.get] at h, fun k u h => by simp [hs0, Tr.get] at h, rfl⟩
  obtain ⟨h1, h2⟩ := hc _ hcov
  refine ⟨h1, fun vs w μ hi hn hr => ?_⟩
  have hi' : Inv w ⟨fun _ => none, fun _ => none⟩ ⟨[], [], off, some 0⟩ := by
    refine ⟨fun i ts h => by simp at h, fun i es h => by simp at h, fun n m i j x y b p q h => by simp at h, fun k h => by simp at h, fun n m k l b f t g u h => by simp at h, ⟨0, fun i _ => ⟨rfl, rfl⟩, fun m hm => by injection hm with hm; exact hm.symm⟩, fun b o h => hi.offlt b o h, fun i ob b p h => by simp at h⟩
  refine (h2 vs w _ hi' hn (fun j t v h => by simp at h)).mono ?_
  rintro e w' ⟨v, t, σ', μ', rfl, ev, hi2, rv, rfl, _⟩
  have noL : ∀ b, ¬ Live μ ⟨[], [], off, none⟩ b := by
    rintro b (⟨i, ob, p, h, _⟩ | ⟨k, f, t, h, _⟩) <;> simp at h
  have noL' : ∀ b, ¬ Live ⟨fun _ => none, fun _ => none⟩ ⟨[], [], off, some 0⟩ b := by
    rintro b (⟨i, ob, p, h, _⟩ | ⟨k, f, t, h, _⟩) <;> simp at h
  refine ⟨v, _, ⟨[], [], off, none⟩, μ, rfl, ⟨ev.below, fun _ _ h => h, fun _ _ h => h, rfl, ev.shape, fun b hb hl => ⟨noL b, (ev.live b hb (noL' b)).2⟩, fun b o him => ?_⟩, ?_, ?_, rfl, rfl⟩
  · obtain ⟨k1, k2⟩ := ev.imm b o ⟨him.lt, him.off, fun i ob p h => by simp at h, fun k f t h => by simp at h⟩
    exact ⟨⟨k1.lt, him.off, fun i ob p h => by simp at h, fun k f t h => by simp at h⟩, k2⟩
  · obtain ⟨n, hn1, _⟩ := hi.fin
    exact ⟨fun i ts h => by simp at h, fun i es h => by simp at h, fun n m i j x y b p q h => by simp at h, fun k h => by simp at h, fun n m k l b f t g u h => by simp at h, ⟨n, hn1, fun m hm => by simp at hm⟩, fun b o h => Nat.lt_of_lt_of_le (hi.offlt b o h) ev.below.size, fun i ob b p h => by simp at h⟩
  · cases rv; exact .bool _
theorem run_pure (hM : MachOK P M) {n f nx : Nat} (h : (match callX M n f [] hs0 with | some (.bool true, h') => Nat.beq h'.nx nx | _ => false) = true) : Pure P f [] (.bool true) := by
  refine cold_pure (nx := nx) fun σ c => ?_
  revert h
  cases hx : callX M n f [] hs0 with
  | none => intro h; cases h
  | some q =>
    obtain ⟨t, h'⟩ := q
    cases t with
    | bool b => cases b with
      | true =>
        intro h
        refine (callX_ok hM n f [] hs0 _ h' hx σ c).mono ?_
        rintro u σ' ⟨rfl, k⟩
        have := k.none
        rw [Nat.eq_of_beq_eq_true h] at this
        exact ⟨rfl, this⟩
      | false => intro h; cases h
    | _ => intro h; cases h
theorem run_pure0 (hM : MachOK P M) {n f : Nat} (h : (match callX M n f [] hs0 with | some (.bool true, _) => true | _ => false) = true) : Pure P f [] (.bool true) := by
  revert h
  cases hx : callX M n f [] hs0 with
  | none => intro h; cases h
  | some q =>
    obtain ⟨t, h'⟩ := q
    cases t with
    | bool b => cases b with
      | true =>
        intro _
        refine cold_pure (nx := h'.nx) fun σ c => (callX_ok hM n f [] hs0 _ h' hx σ c).mono ?_
        rintro u σ' ⟨rfl, k⟩
        exact ⟨rfl, k.none⟩
      | false => intro h; cases h
    | _ => intro h; cases h
end
end Go.Ts
namespace Go.Proofs.Ytnmpgipfbbilbaa
open Go.Ts
def lvC (f _t : Nat) : Bool := Nat.beq f 28
theorem kn0_ok : ∀ g f, noKnown g = some f → ∀ ts h t h', f ts h = some (t, h') → ∀ σ, HCov σ h → ACalls Try.prog g ts σ (fun u σ' => u = t ∧ HCov σ' h') := fun g f h => by cases h
set_option maxRecDepth 100000 in
theorem c_begun : Ts.Pure Try.prog 8 [] (.bool true) := run_pure0 (M := mach lvC noKnown) (mach_ok lvC kn0_ok) (n := 20000) (by kernel_rfl)
end Go.Proofs.Ytnmpgipfbbilbaa
namespace Go.Ts
set_option linter.unusedSimpArgs false
set_option linter.unusedVariables false
section
variable {G : Nat → Option TI}
theorem wf_u8 {n : Int} (h : (Lit.int .u8 n).wf = true) : 0 ≤ n ∧ n < 256 := by
  simp only [Lit.wf, IntKind.min, IntKind.max, IntKind.bits, IntKind.signed, Bool.and_eq_true] at h; simp at h; omega
theorem wf_u16 {n : Int} (h : (Lit.int .u16 n).wf = true) : 0 ≤ n ∧ n < 65536 := by
  simp only [Lit.wf, IntKind.min, IntKind.max, IntKind.bits, IntKind.signed, Bool.and_eq_true] at h; simp at h; omega
theorem argTy_cells {n t : Nat} {x : T} {ti : TI} (h : ArgTy G n t x) (ht : G t = some ti) (hd : ti.d.agg = false) : Ty G n t [x] := by
  have h1 := h.1
  rwa [(h.2 _ ht).2 hd] at h1
theorem ty_slice {n t e : Nat} {cs : List T} {ti : TI} (h : Ty G (n + 1) t cs) (ht : G t = some ti) (htd : ti.d = .slice e) :
    ∃ xs, cs = [.sl ((sizeT G e).getD 0) .no xs] ∧ xs.length ≤ bigLen ∧ ∀ y ∈ xs, Ty G n e y.cells ∧ AggOK G e y := by
  simpa only [Ty, ht, htd] using h
theorem bytes_of_ty {n e : Nat} {ie : TI} (he : G e = some ie) (hed : ie.d = .int .u8) : ∀ (xs : List T), (∀ y ∈ xs, Ty G (n + 1) e y.cells ∧ AggOK G e y) → ∃ b : List UInt8, xs = b.map bT
  | [], _ => ⟨[], rfl⟩
  | x :: xs, h => by
    obtain ⟨b, hb⟩ := bytes_of_ty he hed xs (fun y hy => h y (List.mem_cons_of_mem _ hy))
    obtain ⟨h1, h2⟩ := h x List.mem_cons_self
    simp only [Ty, he, hed] at h1
    obtain ⟨v, hv, hw⟩ := h1
    obtain ⟨l, u⟩ := wf_u8 hw
    refine ⟨UInt8.ofNat v.toNat :: b, ?_⟩
    have : x = .int .u8 v := by
      have h5 := (h2 _ he).2 (by rw [hed]; rfl)
      rw [h5] at hv; injection hv
    subst this
    rw [hb, List.map_cons]
    congr 1
    unfold bT
    have : (UInt8.ofNat v.toNat).toNat = v.toNat := by simp [UInt8.toNat_ofNat]; omega
    rw [this]; congr 1; omega
theorem cats_of_ty {n e : Nat} {ie : TI} (he : G e = some ie) (hed : ie.d = .int .u16) : ∀ (xs : List T), (∀ y ∈ xs, Ty G (n + 1) e y.cells ∧ AggOK G e y) → ∃ b : List UInt16, xs = b.map hT
  | [], _ => ⟨[], rfl⟩
  | x :: xs, h => by
    obtain ⟨b, hb⟩ := cats_of_ty he hed xs (fun y hy => h y (List.mem_cons_of_mem _ hy))
    obtain ⟨h1, h2⟩ := h x List.mem_cons_self
    simp only [Ty, he, hed] at h1
    obtain ⟨v, hv, hw⟩ := h1
    obtain ⟨l, u⟩ := wf_u16 hw
    refine ⟨UInt16.ofNat v.toNat :: b, ?_⟩
    have : x = .int .u16 v := by
      have h5 := (h2 _ he).2 (by rw [hed]; rfl)
      rw [h5] at hv; injection hv
    subst this
    rw [hb, List.map_cons]
    congr 1
    unfold hT
    have : (UInt16.ofNat v.toNat).toNat = v.toNat := by simp [UInt16.toNat_ofNat']; omega
    rw [this]; congr 1; omega
theorem ty_bytes {n t e : Nat} {cs : List T} {ti ie : TI} (h : Ty G (n + 2) t cs) (ht : G t = some ti) (htd : ti.d = .slice e) (he : G e = some ie) (hed : ie.d = .int .u8) (hs : ie.size = 1) : ∃ b : List UInt8, cs = [sT b] ∧ b.length ≤ bigLen := by
  obtain ⟨xs, h1, h2, h3⟩ := ty_slice h ht htd
  obtain ⟨b, rfl⟩ := bytes_of_ty he hed xs h3
  exact ⟨b, by rw [h1]; simp [sizeT, he, hs, sT], by simpa using h2⟩
theorem ty_cats {n t e : Nat} {cs : List T} {ti ie : TI} (h : Ty G (n + 2) t cs) (ht : G t = some ti) (htd : ti.d = .slice e) (he : G e = some ie) (hed : ie.d = .int .u16) (hs : ie.size = 1) : ∃ b : List UInt16, cs = [cT b] ∧ b.length ≤ bigLen := by
  obtain ⟨xs, h1, h2, h3⟩ := ty_slice h ht htd
  obtain ⟨b, rfl⟩ := cats_of_ty he hed xs h3
  exact ⟨b, by rw [h1]; simp [sizeT, he, hs, cT], by simpa using h2⟩
theorem argTy_bytes {n t e : Nat} {x : T} {ti ie : TI} (h : ArgTy G (n + 2) t x) (ht : G t = some ti) (htd : ti.d = .slice e) (he : G e = some ie) (hed : ie.d = .int .u8) (hs : ie.size = 1) : ∃ b : List UInt8, x = sT b ∧ b.length ≤ bigLen := by
  obtain ⟨b, h1, h2⟩ := ty_bytes (argTy_cells h ht (by rw [htd]; rfl)) ht htd he hed hs
  injection h1 with h1
  exact ⟨b, h1, h2⟩
theorem argTy_cats {n t e : Nat} {x : T} {ti ie : TI} (h : ArgTy G (n + 2) t x) (ht : G t = some ti) (htd : ti.d = .slice e) (he : G e = some ie) (hed : ie.d = .int .u16) (hs : ie.size = 1) : ∃ b : List UInt16, x = cT b ∧ b.length ≤ bigLen := by
  obtain ⟨b, h1, h2⟩ := ty_cats (argTy_cells h ht (by rw [htd]; rfl)) ht htd he hed hs
  injection h1 with h1
  exact ⟨b, h1, h2⟩
end
end Go.Ts
namespace Go.Proofs.Ytnmpgipfbbilbaa
open Go.Ts Go.Sets
set_option linter.unusedSimpArgs false
set_option linter.unusedVariables false
attribute [local irreducible] Go.Ts.AW Go.Ts.AOps Go.Ts.AL Go.Ts.AOp Go.Ts.ACalls Go.Ts.DL Go.Ts.DQ Go.Ts.EL
theorem same_eq {x y : T} {a : List UInt16} (hx : catsT x = some a) (hy : catsT y = some a) (hl : a.length ≤ 4294967296) : Pure Try.prog 11 [x, y] (.bool true) := by
  have := ref_SameSet hx hy hl hl
  rwa [decide_eq_true rfl] at this
end Go.Proofs.Ytnmpgipfbbilbaa
namespace Go.Proofs.Ytnmpgipfbbilbaa
open Go.Ts Go.Sets
attribute [local irreducible] Go.Ts.AW Go.Ts.AOps Go.Ts.AL Go.Ts.AOp Go.Ts.ACalls Go.Ts.DL Go.Ts.DQ Go.Ts.EL
theorem mayC_le {a : List UInt16} (h : mayC a = true) : a.length ≤ 16 := by
  unfold mayC at h; rw [Bool.and_eq_true, decide_eq_true_eq] at h; exact h.1
end Go.Proofs.Ytnmpgipfbbilbaa
namespace Go.Proofs.Ytnmpgipfbbilbaa
open Go.Ts Go.Sets
attribute [local irreducible] Go.Ts.AW Go.Ts.AOps Go.Ts.AL Go.Ts.AOp Go.Ts.ACalls Go.Ts.DL Go.Ts.DQ Go.Ts.EL
theorem takeC_used {s : List UInt8} {a : List UInt16} {n : Nat} (h : takeC s = (a, n, 0)) : n ≤ s.length ∧ a.length ≤ 16 ∧ 1 ≤ n := by
  unfold takeC at h
  split at h
  · injection h with h1 h2; injection h2 with h3 h4; cases h4
  · split at h
    · injection h with h1 h2; injection h2 with h3 h4; cases h4
    · split at h
      · rename_i q1 q2 q3
        injection h with h1 h2; injection h2 with h3 h4; subst h3; subst h1
        refine ⟨by omega, ?_, by omega⟩
        unfold mayC at q3
        rw [Bool.and_eq_true, decide_eq_true_eq] at q3
        exact q3.1
      · injection h with h1 h2; injection h2 with h3 h4; cases h4
theorem cats_Take_is {x : T} {s : List UInt8} {a : List UInt16} {n : Nat} {e : Int} (hx : bytesT x = some s) (hl : s.length ≤ 4294967296) (h : takeC s = (a, n, e)) : Pure Try.prog 15 [x] (.tup [cT a, .int .i64 n, .int .i64 e]) := by
  have := cats_Take hx hl; rw [h] at this; exact this
end Go.Proofs.Ytnmpgipfbbilbaa
namespace Go.Proofs.Ytnmpgipfbbilbaa
open Go.Ts Go.Sets
def flat2 (a : List UInt16) : List UInt8 := a.flatMap fun c => putI c.toNat 2
theorem flat2_cons (x : UInt16) (a : List UInt16) : flat2 (x :: a) = be x.toNat 2 ++ flat2 a := by
  unfold flat2; rw [List.flatMap_cons, putI, if_pos (by omega)]; rfl
theorem putC_nil (a : List UInt16) : putC [] a = UInt8.ofNat a.length :: flat2 a := by simp [putC, putI1, flat2]
theorem putC_len (a : List UInt16) : (putC [] a).length = 1 + 2 * a.length := by rw [putC_nil, List.length_cons, flat2, flat2_length]; omega
theorem beV_be2 (v : Nat) (h : v < 65536) : beV (be v 2) = v := by
  simp [be, beV, UInt8.toNat_ofNat']; omega
theorem flat2_drop : ∀ (a : List UInt16) (i : Nat) (t : List UInt8), i ≤ a.length → (flat2 a ++ t).drop (2 * i) = flat2 (a.drop i) ++ t
  | a, 0, t, _ => by simp
  | [], i + 1, t, h => by simp at h
  | x :: a, i + 1, t, h => by
    rw [flat2_cons, List.append_assoc, show 2 * (i + 1) = (be x.toNat 2).length + 2 * i by rw [be_length]; omega, List.drop_length_add_append, flat2_drop a i t (by simpa using h)]; rfl
theorem flat2_take (a : List UInt16) (t : List UInt8) (h : a ≠ []) : (flat2 a ++ t).take 2 = be (a.getD 0 default).toNat 2 := by
  cases a with
  | nil => exact absurd rfl h
  | cons x a =>
    rw [flat2_cons, List.append_assoc]
    have : (be x.toNat 2).length = 2 := be_length _ _
    rw [List.take_append_of_le_length (by omega), List.take_of_length_le (by omega)]; rfl
theorem range_map_eq {α : Type} [Inhabited α] (l : List α) (g : Nat → α) (h : ∀ i, i < l.length → g i = l.getD i default) : (List.range l.length).map g = l := by
  refine List.ext_getElem (by simp) fun i h1 h2 => ?_
  rw [List.getElem_map, List.getElem_range, h i h2]
  simp [List.getElem?_eq_getElem h2]
theorem takeC_putC {a : List UInt16} (ha : mayC a = true) (t : List UInt8) : takeC (putC [] a ++ t) = (a, 1 + 2 * a.length, 0) := by
  have hl := mayC_le ha
  have h1 : beV ((putC [] a ++ t).take 1) = a.length := by
    rw [putC_nil]; simp [beV, UInt8.toNat_ofNat']; omega
  have h2 : (putC [] a ++ t).length = 1 + 2 * a.length + t.length := by rw [List.length_append, putC_len]
  have h3 : (List.range a.length).map (fun i => UInt16.ofNat (beV (((putC [] a ++ t).drop (1 + 2 * i)).take 2))) = a := by
    refine range_map_eq a _ fun i hi => ?_
    have : (putC [] a ++ t).drop (1 + 2 * i) = flat2 (a.drop i) ++ t := by
      rw [putC_nil, List.cons_append, show 1 + 2 * i = 2 * i + 1 by omega, List.drop_succ_cons]
      exact flat2_drop a i t (by omega)
    rw [this, flat2_take _ _ (by intro h; have := congrArg List.length h; simp at this; omega), beV_be2 _ (UInt16.toNat_lt _)]
    simp [List.getD_eq_getElem?_getD]
  unfold takeC
  rw [h1, h3, if_neg (by omega), if_neg (by omega), if_pos ha]
theorem takeC_short {a : List UInt16} (hl : a.length ≤ 16) (k : Nat) (hk : k < 1 + 2 * a.length) (t : List UInt8) : takeC ((putC [] a ++ t).take k) = ([], 0, 3) := by
  have hp := putC_len a
  have e : (putC [] a ++ t).take k = (putC [] a).take k := List.take_append_of_le_length (by omega)
  have h2 : ((putC [] a).take k).length = k := by rw [List.length_take]; omega
  rw [e]
  unfold takeC
  by_cases h0 : k < 1
  · rw [if_pos (by omega)]
  · have h1 : beV (((putC [] a).take k).take 1) = a.length := by
      rw [List.take_take, show min 1 k = 1 by omega, putC_nil]; simp [beV, UInt8.toNat_ofNat']; omega
    rw [h1, if_neg (by omega), if_pos (by omega)]
theorem be_beV2 (x y : UInt8) : be (UInt16.ofNat (beV [x, y])).toNat 2 = [x, y] := by
  have hx := x.toNat_lt
  have hy := y.toNat_lt
  have : (UInt16.ofNat (beV [x, y])).toNat = x.toNat * 256 + y.toNat := by simp [beV, UInt16.toNat_ofNat']; omega
  rw [this]
  have e1 : UInt8.ofNat ((x.toNat * 256 + y.toNat) / 256) = x := by
    rw [← UInt8.toNat_inj, UInt8.toNat_ofNat']; omega
  have e2 : UInt8.ofNat (x.toNat * 256 + y.toNat) = y := by
    rw [← UInt8.toNat_inj, UInt8.toNat_ofNat']; omega
  simp only [be, Nat.mul_one, Nat.mul_zero, Nat.pow_zero, Nat.div_one, show 2 ^ 8 = 256 from rfl, e1, e2]
theorem flat2_snoc (a : List UInt16) (x : UInt16) : flat2 (a ++ [x]) = flat2 a ++ be x.toNat 2 := by
  unfold flat2; rw [List.flatMap_append]; simp [putI]
theorem flat2_back (r : List UInt8) : ∀ m, 2 * m ≤ r.length → flat2 ((List.range m).map fun i => UInt16.ofNat (beV ((r.drop (2 * i)).take 2))) = r.take (2 * m)
  | 0, _ => by simp [flat2]
  | m + 1, h => by
    rw [List.range_succ, List.map_append, List.map_singleton, flat2_snoc, flat2_back r m (by omega)]
    obtain ⟨x, y, hxy⟩ : ∃ x y, (r.drop (2 * m)).take 2 = [x, y] := by
      have : ((r.drop (2 * m)).take 2).length = 2 := by rw [List.length_take, List.length_drop]; omega
      match hh : (r.drop (2 * m)).take 2, this with
      | [x, y], _ => exact ⟨x, y, rfl⟩
    rw [hxy, be_beV2, ← hxy, show 2 * (m + 1) = 2 * m + 2 by omega, List.take_add]
theorem takeC_back {s : List UInt8} {a : List UInt16} {n : Nat} (h : takeC s = (a, n, 0)) : putC [] a = s.take n := by
  unfold takeC at h
  split at h
  · injection h with h1 h2; injection h2 with h3 h4; cases h4
  split at h
  · injection h with h1 h2; injection h2 with h3 h4; cases h4
  split at h
  · rename_i q1 q2 q3
    injection h with h1 h2; injection h2 with h3 h4
    cases s with
    | nil => simp at q1
    | cons x r =>
      have hx := x.toNat_lt
      have e0 : beV ((x :: r).take 1) = x.toNat := by simp [beV]
      rw [e0] at h1 h3 q2
      rw [putC_nil]
      subst h3
      rw [show 1 + 2 * x.toNat = 2 * x.toNat + 1 by omega, List.take_succ_cons]
      have hal : a.length = x.toNat := by rw [← h1]; simp
      congr 1
      · rw [hal]; simp
      · rw [← h1]
        have := flat2_back r x.toNat (by simp at q2; omega)
        rw [← this]
        congr 2
        funext i
        rw [show 1 + 2 * i = 2 * i + 1 by omega, List.drop_succ_cons]
  · injection h with h1 h2; injection h2 with h3 h4; cases h4
end Go.Proofs.Ytnmpgipfbbilbaa
namespace Go.Proofs.Ytnmpgipfbbilbaa
open Go.Ts
attribute [local irreducible] Go.Ts.AW Go.Ts.AOps Go.Ts.AL Go.Ts.AOp Go.Ts.ACalls Go.Ts.DL Go.Ts.DQ Go.Ts.EL
theorem neg_lt_tmod (p : Int) {n : Int} (h : 0 < n) : -n < p.tmod n := by
  have h1 := Int.tmod_lt_of_pos (-p) h
  rw [Int.neg_tmod] at h1; omega
def placeN (p n : Int) : Int := if n < 1 then 0 else if p.tmod n < 0 then p.tmod n + n else p.tmod n
theorem placeN_lt {p n : Int} (h : 1 ≤ n) : 0 ≤ placeN p n ∧ placeN p n < n := by
  unfold placeN
  rw [if_neg (by omega)]
  have h1 := Int.tmod_lt_of_pos p (by omega : 0 < n)
  have h2 : -n < p.tmod n := neg_lt_tmod p (by omega)
  split <;> omega
theorem law_Place {p n : Int} (h : 0 ≤ n ∧ n ≤ 9223372036854775807) : Ts.Pure Try.prog 16 [.int .i64 p, .int .i64 n] (.int .i64 (placeN p n)) := by
  intro off
  refine Bs (N := 16) (rs := [.tmp 4]) hG Try.func16 rfl rfl rfl rfl rfl ?_
  by_cases h1 : n < 1
  · repeat' (first
    | ((show AL _ _ _ _ _ _ _ _; refine Ae Y ?_); (first
      | (show AOp _ _ ⟨_, .move _, _, _, _, _⟩ _ _ _; refine Ar hG Y Y ?_)
      | (show AOp _ _ ⟨_, .assign _, _, _, _, _⟩ _ _ _; refine A2 hG Y Y ?_)
      | (show AOp _ _ ⟨_, .binOp .add _ _ _ _, _, _, _, _⟩ _ _ _; first | refine Aa hG Y Y Y Y Y (by omega) ?_)
      | (show AOp _ _ ⟨_, .binOp .rem _ _ _ _, _, _, _, _⟩ _ _ _; first | refine r_rem hG Y Y Y Y (by omega) ?_ | refine r_trem hG Y Y Y Y (by omega) ?_)
      | (show AOp _ _ ⟨_, .binOp _ _ _ _ _, _, _, _, _⟩ _ _ _; first | refine Ax hG Y Y Y Y Y (by omega) ?_ | refine Ay hG Y Y Y Y Y (by omega) ?_ | (refine Ak hG Y Y Y Y Y (fun h => ?_) (fun h => ?_)))
      | refine r_q hG Y Y Y ?_))
    | (show AL _ _ _ _ _ _ _ _; first | refine Bk Y Y Y ?_ | (refine As ?_; first | show AW _ _ _ _ _ _ | show ∃ x', _ < _ ∧ _)) | (show AW _ _ (.seq _ _) _ _ _; refine Ag ?_; intro Q1) | (show AW _ _ (.region _ _ false) _ _ _; refine Ac ?_; intro O1) | (show AW _ _ (.cond _ _ _) _ _ _; first | refine Ao Y ?_ | refine Ap Y ?_) | (show AW _ _ (.skip) _ _ _; refine Aj ?_; first | show AW _ _ _ _ _ _ | show ∃ x', _ < _ ∧ _) | (show AW _ _ (.ret) _ _ _; refine Au ?_; try dsimp only [Az, Ab, A4, Af]) | fail)
    exact B0 (Bi rfl Bj) (.int (by rw [placeN, if_pos h1])) rfl
  · have h3 := Int.tmod_lt_of_pos p (by omega : 0 < n)
    have h4 : -n < p.tmod n := neg_lt_tmod p (by omega)
    by_cases h2 : p.tmod n < 0
    · repeat' (first
    | ((show AL _ _ _ _ _ _ _ _; refine Ae Y ?_); (first
      | (show AOp _ _ ⟨_, .move _, _, _, _, _⟩ _ _ _; refine Ar hG Y Y ?_)
      | (show AOp _ _ ⟨_, .assign _, _, _, _, _⟩ _ _ _; refine A2 hG Y Y ?_)
      | (show AOp _ _ ⟨_, .binOp .add _ _ _ _, _, _, _, _⟩ _ _ _; first | refine Aa hG Y Y Y Y Y (by omega) ?_)
      | (show AOp _ _ ⟨_, .binOp .rem _ _ _ _, _, _, _, _⟩ _ _ _; first | refine r_rem hG Y Y Y Y (by omega) ?_ | refine r_trem hG Y Y Y Y (by omega) ?_)
      | (show AOp _ _ ⟨_, .binOp _ _ _ _ _, _, _, _, _⟩ _ _ _; first | refine Ax hG Y Y Y Y Y (by omega) ?_ | refine Ay hG Y Y Y Y Y (by omega) ?_ | (refine Ak hG Y Y Y Y Y (fun h => ?_) (fun h => ?_)))
      | refine r_q hG Y Y Y ?_))
    | (show AL _ _ _ _ _ _ _ _; first | refine Bk Y Y Y ?_ | (refine As ?_; first | show AW _ _ _ _ _ _ | show ∃ x', _ < _ ∧ _)) | (show AW _ _ (.seq _ _) _ _ _; refine Ag ?_; intro Q1) | (show AW _ _ (.region _ _ false) _ _ _; refine Ac ?_; intro O1) | (show AW _ _ (.cond _ _ _) _ _ _; first | refine Ao Y ?_ | refine Ap Y ?_) | (show AW _ _ (.skip) _ _ _; refine Aj ?_; first | show AW _ _ _ _ _ _ | show ∃ x', _ < _ ∧ _) | (show AW _ _ (.ret) _ _ _; refine Au ?_; try dsimp only [Az, Ab, A4, Af]) | fail)
      exact B0 (Bi rfl Bj) (.int (by rw [placeN, if_neg h1, if_pos h2])) rfl
    · repeat' (first
    | ((show AL _ _ _ _ _ _ _ _; refine Ae Y ?_); (first
      | (show AOp _ _ ⟨_, .move _, _, _, _, _⟩ _ _ _; refine Ar hG Y Y ?_)
      | (show AOp _ _ ⟨_, .assign _, _, _, _, _⟩ _ _ _; refine A2 hG Y Y ?_)
      | (show AOp _ _ ⟨_, .binOp .add _ _ _ _, _, _, _, _⟩ _ _ _; first | refine Aa hG Y Y Y Y Y (by omega) ?_)
      | (show AOp _ _ ⟨_, .binOp .rem _ _ _ _, _, _, _, _⟩ _ _ _; first | refine r_rem hG Y Y Y Y (by omega) ?_ | refine r_trem hG Y Y Y Y (by omega) ?_)
      | (show AOp _ _ ⟨_, .binOp _ _ _ _ _, _, _, _, _⟩ _ _ _; first | refine Ax hG Y Y Y Y Y (by omega) ?_ | refine Ay hG Y Y Y Y Y (by omega) ?_ | (refine Ak hG Y Y Y Y Y (fun h => ?_) (fun h => ?_)))
      | refine r_q hG Y Y Y ?_))
    | (show AL _ _ _ _ _ _ _ _; first | refine Bk Y Y Y ?_ | (refine As ?_; first | show AW _ _ _ _ _ _ | show ∃ x', _ < _ ∧ _)) | (show AW _ _ (.seq _ _) _ _ _; refine Ag ?_; intro Q1) | (show AW _ _ (.region _ _ false) _ _ _; refine Ac ?_; intro O1) | (show AW _ _ (.cond _ _ _) _ _ _; first | refine Ao Y ?_ | refine Ap Y ?_) | (show AW _ _ (.skip) _ _ _; refine Aj ?_; first | show AW _ _ _ _ _ _ | show ∃ x', _ < _ ∧ _) | (show AW _ _ (.ret) _ _ _; refine Au ?_; try dsimp only [Az, Ab, A4, Af]) | fail)
      exact B0 (Bi rfl Bj) (.int (by rw [placeN, if_neg h1, if_neg h2])) rfl
end Go.Proofs.Ytnmpgipfbbilbaa
namespace Go.Proofs.Ytnmpgipfbbilbaa
open Go.Ts Go.Sets
set_option linter.unusedSimpArgs false
set_option linter.unusedVariables false
attribute [local irreducible] Go.Ts.AW Go.Ts.AOps Go.Ts.AL Go.Ts.AOp Go.Ts.ACalls Go.Ts.DL Go.Ts.DQ Go.Ts.EL
set_option maxHeartbeats 1000000 in
theorem catsBack_pure {l : List UInt16} {t : List UInt8} {p : Int} {s : List UInt8} (hl : l.length ≤ 140737488351232) (ht : t.length ≤ 140737488351232) (hs : s.length ≤ 140737488351232) :
    Ts.Pure Try.prog 4 [cT l, sT t, .int .i64 p, sT s] (.bool true) := by
  intro off
  refine Bs (N := 106) (rs := [.tmp 8]) hG Try.func4 rfl rfl rfl rfl rfl ?_
  by_cases h20 : t.length ≤ 20
  case neg =>
    repeat' (first
    | ((first | (show AL _ _ _ _ _ _ _ _; refine Ae Y ?_) | (show DL _ _ _ _ _ _ _; refine' Aw Y Y (fun K kk => ?_) ?_; try (show Go.Ts.T; rotate_left))); (first
      | (show AOp _ _ ⟨_, .move _, _, _, _, _⟩ _ _ _; refine Ar hG Y Y ?_)
      | (show AOp _ _ ⟨_, .assign _, _, _, _, _⟩ _ _ _; refine A2 hG Y Y ?_)
      | (show AOp _ _ ⟨_, .call ⟨.builtin .len, _, _⟩, _, _, _, _⟩ _ _ _; first | refine Bz hG Y Y Y Y ?_ | refine r_len hG Y Y Y Y Y ?_)
      | (show AOp _ _ ⟨_, .binOp _ _ _ _ _, _, _, _, _⟩ _ _ _; first | refine Ax hG Y Y Y Y Y (by omega) ?_ | refine Ay hG Y Y Y Y Y (by omega) ?_ | refine r_strT hG Y Y Y Y (by first | rfl | assumption) ?_ | refine r_strnF hG Y Y Y Y (by first | rfl | assumption) ?_ | refine r_strF hG Y Y Y Y (by assumption) ?_ | refine r_strnT hG Y Y Y Y (by assumption) ?_ | ((fail_if_success have := kk); refine Ak hG Y Y Y Y Y (fun h => ?_) (fun h => ?_)) | ((fail_if_success have := kk); first | refine r_str hG Y Y Y Y (fun h => ?_) (fun h => ?_) | refine r_strn hG Y Y Y Y (fun h => ?_) (fun h => ?_)))
      | (show AOp _ _ ⟨_, .convert _ _ _, _, _, _, _⟩ _ _ _; first | refine r_tostr hG Y Y Y Y Y Y Y Y (by first | exact Am _ _ | exact A0 _ | rfl) ?_)
      | (show AOp _ _ ⟨_, .slice _ _ _ _ _, _, _, _, _⟩ _ _ _; first | refine Cb hG Y Y Y Y Y Y Y (by omega) ?_ | refine r_sl_hi hG Y Y Y Y Y Y Y (by omega) ?_ | refine op_cut0 hG Y Y Y Y Y Y Y Y Y Y ?_ | refine r_sl hG Y Y ?_)
      | (show AOp _ _ ⟨_, .pick _ _ _, _, _, _, _⟩ _ _ _; refine Ba hG Y Y Y ?_)
      | (show AOp _ _ ⟨_, .unOp _ _ _, _, _, _, _⟩ _ _ _; refine Bm hG Y Y Y ?_)
      | (show AOp _ _ ⟨_, .buildSlice _ _ _, _, _, _, _⟩ _ _ _; first | refine r_mk (sz := 1) hG Y Y Y Y Y Y Y ?_)
      | (show AOp _ _ ⟨_, .call ⟨.builtin .min, _, _⟩, _, _, _, _⟩ _ _ _; first | refine op_minl Y Y Y (by omega) Y Y ?_ | refine op_minr Y Y Y (by omega) Y Y ?_ | refine op_min Y Y Y Y Y ?_)
      | (show AOp _ _ ⟨_, .call ⟨.builtin .append, _, _⟩, _, _, _, _⟩ _ _ _; first | refine B7 (sz := 1) (xs := []) hG Y Y Y Y Y Y Y ⟨_, Y⟩ Y Y Y Y Y Y Y (by first | omega | (simp; omega)) (fun k => ?_) | refine Ca 0 hG Y Y Y Y Y Y Y ⟨_, Y⟩ Y Y Y Y Y (by first | omega | (simp only [List.length_append, List.length_cons, List.length_nil]; omega)) (fun k => ?_) | fail)
      | (show AOp _ _ ⟨_, .call ⟨.value _, _, _⟩, _, _, _, _⟩ _ _ _; first | refine Bp Y Y Y Y Y (by first | (apply c_begun <;> (first | assumption | omega | exact Am _ _ | exact A0 _ | exact A1 _ _ | exact Bc _ | rfl | (simp; omega))) | fail) ?_ | fail)
      | refine r_q hG Y Y Y ?_); try exact kk)
    | (show AL _ _ _ _ _ _ _ _; first | refine Bk Y Y Y ?_ | (refine As ?_; first | show AW _ _ _ _ _ _ | show ∃ x', _ < _ ∧ _)) | (show AW _ _ (.seq _ _) _ _ _; refine Ag ?_; intro Q1) | (show AW _ _ (.region _ _ false) _ _ _; refine Ac ?_; intro O1) | (show AW _ _ (.cond _ _ _) _ _ _; first | refine Ao Y ?_ | refine Ap Y ?_) | (show AW _ _ (.skip) _ _ _; refine Aj ?_; first | show AW _ _ _ _ _ _ | show ∃ x', _ < _ ∧ _) | (show AW _ _ (.ret) _ _ _; refine Au ?_; try dsimp only [Az, Ab, A4, Af])
    | (show DL _ _ _ _ _ _ _; refine Bq Y Y (fun K kt kf => Ak hG Y Y Y Y Y kt kf) (fun h => ?_) (fun h => ?_)) | (show DL _ _ _ _ _ _ _; refine Bq Y Y (fun K kt kf => r_str hG Y Y Y Y kt kf) (fun h => ?_) (fun h => ?_)) | (show DL _ _ _ _ _ _ _; refine dl_ne Y Y (fun K kt kf => r_strn hG Y Y Y Y kt kf) (fun h => ?_) (fun h => ?_))
    | (show DL _ _ _ _ _ _ _; refine Br Y Y Y ?_) | (show DL _ _ _ _ _ _ _; refine A9 ?_; first | show AW _ _ _ _ _ _ | show ∃ x', _ < _ ∧ _) | (show AW _ _ (.region _ _ true) _ _ _; refine Aq mix (by kernel_rfl) ?_; intro O1) | fail)
    exact B0 (Bi rfl Bj) (.refl _) rfl
  by_cases h80 : s.length ≤ 80
  case neg =>
    repeat' (first
    | ((first | (show AL _ _ _ _ _ _ _ _; refine Ae Y ?_) | (show DL _ _ _ _ _ _ _; refine' Aw Y Y (fun K kk => ?_) ?_; try (show Go.Ts.T; rotate_left))); (first
      | (show AOp _ _ ⟨_, .move _, _, _, _, _⟩ _ _ _; refine Ar hG Y Y ?_)
      | (show AOp _ _ ⟨_, .assign _, _, _, _, _⟩ _ _ _; refine A2 hG Y Y ?_)
      | (show AOp _ _ ⟨_, .call ⟨.builtin .len, _, _⟩, _, _, _, _⟩ _ _ _; first | refine Bz hG Y Y Y Y ?_ | refine r_len hG Y Y Y Y Y ?_)
      | (show AOp _ _ ⟨_, .binOp _ _ _ _ _, _, _, _, _⟩ _ _ _; first | refine Ax hG Y Y Y Y Y (by omega) ?_ | refine Ay hG Y Y Y Y Y (by omega) ?_ | refine r_strT hG Y Y Y Y (by first | rfl | assumption) ?_ | refine r_strnF hG Y Y Y Y (by first | rfl | assumption) ?_ | refine r_strF hG Y Y Y Y (by assumption) ?_ | refine r_strnT hG Y Y Y Y (by assumption) ?_ | ((fail_if_success have := kk); refine Ak hG Y Y Y Y Y (fun h => ?_) (fun h => ?_)) | ((fail_if_success have := kk); first | refine r_str hG Y Y Y Y (fun h => ?_) (fun h => ?_) | refine r_strn hG Y Y Y Y (fun h => ?_) (fun h => ?_)))
      | (show AOp _ _ ⟨_, .convert _ _ _, _, _, _, _⟩ _ _ _; first | refine r_tostr hG Y Y Y Y Y Y Y Y (by first | exact Am _ _ | exact A0 _ | rfl) ?_)
      | (show AOp _ _ ⟨_, .slice _ _ _ _ _, _, _, _, _⟩ _ _ _; first | refine Cb hG Y Y Y Y Y Y Y (by omega) ?_ | refine r_sl_hi hG Y Y Y Y Y Y Y (by omega) ?_ | refine op_cut0 hG Y Y Y Y Y Y Y Y Y Y ?_ | refine r_sl hG Y Y ?_)
      | (show AOp _ _ ⟨_, .pick _ _ _, _, _, _, _⟩ _ _ _; refine Ba hG Y Y Y ?_)
      | (show AOp _ _ ⟨_, .unOp _ _ _, _, _, _, _⟩ _ _ _; refine Bm hG Y Y Y ?_)
      | (show AOp _ _ ⟨_, .buildSlice _ _ _, _, _, _, _⟩ _ _ _; first | refine r_mk (sz := 1) hG Y Y Y Y Y Y Y ?_)
      | (show AOp _ _ ⟨_, .call ⟨.builtin .min, _, _⟩, _, _, _, _⟩ _ _ _; first | refine op_minl Y Y Y (by omega) Y Y ?_ | refine op_minr Y Y Y (by omega) Y Y ?_ | refine op_min Y Y Y Y Y ?_)
      | (show AOp _ _ ⟨_, .call ⟨.builtin .append, _, _⟩, _, _, _, _⟩ _ _ _; first | refine B7 (sz := 1) (xs := []) hG Y Y Y Y Y Y Y ⟨_, Y⟩ Y Y Y Y Y Y Y (by first | omega | (simp; omega)) (fun k => ?_) | refine Ca 0 hG Y Y Y Y Y Y Y ⟨_, Y⟩ Y Y Y Y Y (by first | omega | (simp only [List.length_append, List.length_cons, List.length_nil]; omega)) (fun k => ?_) | fail)
      | (show AOp _ _ ⟨_, .call ⟨.value _, _, _⟩, _, _, _, _⟩ _ _ _; first | refine Bp Y Y Y Y Y (by first | (apply c_begun <;> (first | assumption | omega | exact Am _ _ | exact A0 _ | exact A1 _ _ | exact Bc _ | rfl | (simp; omega))) | fail) ?_ | fail)
      | refine r_q hG Y Y Y ?_); try exact kk)
    | (show AL _ _ _ _ _ _ _ _; first | refine Bk Y Y Y ?_ | (refine As ?_; first | show AW _ _ _ _ _ _ | show ∃ x', _ < _ ∧ _)) | (show AW _ _ (.seq _ _) _ _ _; refine Ag ?_; intro Q1) | (show AW _ _ (.region _ _ false) _ _ _; refine Ac ?_; intro O1) | (show AW _ _ (.cond _ _ _) _ _ _; first | refine Ao Y ?_ | refine Ap Y ?_) | (show AW _ _ (.skip) _ _ _; refine Aj ?_; first | show AW _ _ _ _ _ _ | show ∃ x', _ < _ ∧ _) | (show AW _ _ (.ret) _ _ _; refine Au ?_; try dsimp only [Az, Ab, A4, Af])
    | (show DL _ _ _ _ _ _ _; refine Bq Y Y (fun K kt kf => Ak hG Y Y Y Y Y kt kf) (fun h => ?_) (fun h => ?_)) | (show DL _ _ _ _ _ _ _; refine Bq Y Y (fun K kt kf => r_str hG Y Y Y Y kt kf) (fun h => ?_) (fun h => ?_)) | (show DL _ _ _ _ _ _ _; refine dl_ne Y Y (fun K kt kf => r_strn hG Y Y Y Y kt kf) (fun h => ?_) (fun h => ?_))
    | (show DL _ _ _ _ _ _ _; refine Br Y Y Y ?_) | (show DL _ _ _ _ _ _ _; refine A9 ?_; first | show AW _ _ _ _ _ _ | show ∃ x', _ < _ ∧ _) | (show AW _ _ (.region _ _ true) _ _ _; refine Aq mix (by kernel_rfl) ?_; intro O1) | fail)
    exact B0 (Bi rfl Bj) (.refl _) rfl
  by_cases h16 : l.length ≤ 16
  · have hM := cats_Make (x := .sl 1 .no ((l.take l.length).map hT)) (A1 _ _) (show (l.take l.length).length < 256 by rw [List.length_take]; omega)
    rw [mkS_eq] at hM
    have hml := mk_length_le (l.take l.length)
    rw [List.length_take] at hml
    have ma : mayC (mk (l.take l.length)) = true := by
      rw [mayC, decide_eq_true (by omega), risesB_iff.2 (mk_up _)]; rfl
    have pa : (mk (l.take l.length)).length ≤ 16 := by omega
    clear hml
    generalize mk (l.take l.length) = a at hM ma pa
    have hpl := putC_len a
    have hP := cats_Put (x := .nilsl) (b := []) (y := cT a) rfl (Bc a) (by decide) (by omega)
    have hT1 := fun k => cats_Take_is (x := .sl 1 (.tok k) (([] ++ putC [] a ++ t).map bT)) (s := [] ++ putC [] a ++ t) (Am _ _) (by simp only [List.length_append, List.length_nil]; omega) (takeC_putC ma t)
    have hpc := law_Place (p := p) (n := ((putC [] a).length : Int)) (by omega)
    have hpn := placeN_lt (p := p) (n := ((putC [] a).length : Int)) (by omega)
    have hsh := takeC_short pa (placeN p ((putC [] a).length : Int)).toNat (by omega) []
    rw [List.append_nil] at hsh
    have hT2 := cats_Take_is (x := sT ((putC [] a).take (placeN p ((putC [] a).length : Int)).toNat)) (A0 _) (by rw [List.length_take]; omega) hsh
    obtain ⟨r, hr⟩ : ∃ r, takeC s = r := ⟨_, rfl⟩
    obtain ⟨y, m, g⟩ := r
    have hT3 := cats_Take_is (A0 s) (by omega) hr
    have hS := same_eq (x := cT a) (y := cT a) (Bc a) (Bc a) (by omega)
    rw [← hpl] at hT1
    by_cases he : g = 0
    · subst he
      have k1 := takeC_used hr
      have k2 := takeC_back hr
      have hP2 := cats_Put (x := .nilsl) (b := []) (y := cT y) rfl (Bc y) (by decide) (by omega)
      rw [k2] at hP2
      repeat' (first
    | ((first | (show AL _ _ _ _ _ _ _ _; refine Ae Y ?_) | (show DL _ _ _ _ _ _ _; refine' Aw Y Y (fun K kk => ?_) ?_; try (show Go.Ts.T; rotate_left))); (first
      | (show AOp _ _ ⟨_, .move _, _, _, _, _⟩ _ _ _; refine Ar hG Y Y ?_)
      | (show AOp _ _ ⟨_, .assign _, _, _, _, _⟩ _ _ _; refine A2 hG Y Y ?_)
      | (show AOp _ _ ⟨_, .call ⟨.builtin .len, _, _⟩, _, _, _, _⟩ _ _ _; first | refine Bz hG Y Y Y Y ?_ | refine r_len hG Y Y Y Y Y ?_)
      | (show AOp _ _ ⟨_, .binOp _ _ _ _ _, _, _, _, _⟩ _ _ _; first | refine Ax hG Y Y Y Y Y (by omega) ?_ | refine Ay hG Y Y Y Y Y (by omega) ?_ | refine r_strT hG Y Y Y Y (by first | rfl | assumption) ?_ | refine r_strnF hG Y Y Y Y (by first | rfl | assumption) ?_ | refine r_strF hG Y Y Y Y (by assumption) ?_ | refine r_strnT hG Y Y Y Y (by assumption) ?_ | ((fail_if_success have := kk); refine Ak hG Y Y Y Y Y (fun h => ?_) (fun h => ?_)) | ((fail_if_success have := kk); first | refine r_str hG Y Y Y Y (fun h => ?_) (fun h => ?_) | refine r_strn hG Y Y Y Y (fun h => ?_) (fun h => ?_)))
      | (show AOp _ _ ⟨_, .convert _ _ _, _, _, _, _⟩ _ _ _; first | refine r_tostr hG Y Y Y Y Y Y Y Y (by first | exact Am _ _ | exact A0 _ | rfl) ?_)
      | (show AOp _ _ ⟨_, .slice _ _ _ _ _, _, _, _, _⟩ _ _ _; first | refine Cb hG Y Y Y Y Y Y Y (by omega) ?_ | refine r_sl_hi hG Y Y Y Y Y Y Y (by omega) ?_ | refine op_cut0 hG Y Y Y Y Y Y Y Y Y Y ?_ | refine r_sl hG Y Y ?_)
      | (show AOp _ _ ⟨_, .pick _ _ _, _, _, _, _⟩ _ _ _; refine Ba hG Y Y Y ?_)
      | (show AOp _ _ ⟨_, .unOp _ _ _, _, _, _, _⟩ _ _ _; refine Bm hG Y Y Y ?_)
      | (show AOp _ _ ⟨_, .buildSlice _ _ _, _, _, _, _⟩ _ _ _; first | refine r_mk (sz := 1) hG Y Y Y Y Y Y Y ?_)
      | (show AOp _ _ ⟨_, .call ⟨.builtin .min, _, _⟩, _, _, _, _⟩ _ _ _; first | refine op_minl Y Y Y (by omega) Y Y ?_ | refine op_minr Y Y Y (by omega) Y Y ?_ | refine op_min Y Y Y Y Y ?_)
      | (show AOp _ _ ⟨_, .call ⟨.builtin .append, _, _⟩, _, _, _, _⟩ _ _ _; first | refine B7 (sz := 1) (xs := []) hG Y Y Y Y Y Y Y ⟨_, Y⟩ Y Y Y Y Y Y Y (by first | omega | (simp; omega)) (fun k => ?_) | refine Ca 0 hG Y Y Y Y Y Y Y ⟨_, Y⟩ Y Y Y Y Y (by first | omega | (simp only [List.length_append, List.length_cons, List.length_nil]; omega)) (fun k => ?_) | fail)
      | (show AOp _ _ ⟨_, .call ⟨.value _, _, _⟩, _, _, _, _⟩ _ _ _; first | refine Bp Y Y Y Y Y (by first | (apply c_begun <;> (first | assumption | omega | exact Am _ _ | exact A0 _ | exact A1 _ _ | exact Bc _ | rfl | (simp; omega))) | fail) ?_ | refine Bp Y Y Y Y Y (by first | (apply hM <;> (first | assumption | omega | exact Am _ _ | exact A0 _ | exact A1 _ _ | exact Bc _ | rfl | (simp; omega))) | fail) ?_ | refine Bp Y Y Y Y Y (by first | (apply hT1 <;> (first | assumption | omega | exact Am _ _ | exact A0 _ | exact A1 _ _ | exact Bc _ | rfl | (simp; omega))) | fail) ?_ | refine Bp Y Y Y Y Y (by first | (apply hpc <;> (first | assumption | omega | exact Am _ _ | exact A0 _ | exact A1 _ _ | exact Bc _ | rfl | (simp; omega))) | fail) ?_ | ((fail_if_success have := kk); refine r_owns Y Y Y Y Y (by first | (apply hP <;> (first | assumption | omega | exact Am _ _ | exact A0 _ | exact A1 _ _ | exact Bc _ | rfl | (simp; omega))) | fail) (fun k => ?_)) | (have := kk; clear this; refine Bp Y Y Y Y Y (Owns.pure (by first | (apply hP <;> (first | assumption | omega | exact Am _ _ | exact A0 _ | exact A1 _ _ | exact Bc _ | rfl | (simp; omega))) | fail)) ?_) | fail)
      | refine r_q hG Y Y Y ?_); try exact kk)
    | (show AL _ _ _ _ _ _ _ _; first | refine Bk Y Y Y ?_ | (refine As ?_; first | show AW _ _ _ _ _ _ | show ∃ x', _ < _ ∧ _)) | (show AW _ _ (.seq _ _) _ _ _; refine Ag ?_; intro Q1) | (show AW _ _ (.region _ _ false) _ _ _; refine Ac ?_; intro O1) | (show AW _ _ (.cond _ _ _) _ _ _; first | refine Ao Y ?_ | refine Ap Y ?_) | (show AW _ _ (.skip) _ _ _; refine Aj ?_; first | show AW _ _ _ _ _ _ | show ∃ x', _ < _ ∧ _) | (show AW _ _ (.ret) _ _ _; refine Au ?_; try dsimp only [Az, Ab, A4, Af])
    | (show DL _ _ _ _ _ _ _; refine Bq Y Y (fun K kt kf => Ak hG Y Y Y Y Y kt kf) (fun h => ?_) (fun h => ?_)) | (show DL _ _ _ _ _ _ _; refine Bq Y Y (fun K kt kf => r_str hG Y Y Y Y kt kf) (fun h => ?_) (fun h => ?_)) | (show DL _ _ _ _ _ _ _; refine dl_ne Y Y (fun K kt kf => r_strn hG Y Y Y Y kt kf) (fun h => ?_) (fun h => ?_))
    | (show DL _ _ _ _ _ _ _; refine Br Y Y Y ?_) | (show DL _ _ _ _ _ _ _; refine A9 ?_; first | show AW _ _ _ _ _ _ | show ∃ x', _ < _ ∧ _) | (show AW _ _ (.region _ _ true) _ _ _; refine Aq mix (by kernel_rfl) ?_; intro O1) | fail)
      repeat' (first
    | ((first | (show AL _ _ _ _ _ _ _ _; refine Ae Y ?_) | (show DL _ _ _ _ _ _ _; refine' Aw Y Y (fun K kk => ?_) ?_; try (show Go.Ts.T; rotate_left))); (first
      | (show AOp _ _ ⟨_, .move _, _, _, _, _⟩ _ _ _; refine Ar hG Y Y ?_)
      | (show AOp _ _ ⟨_, .assign _, _, _, _, _⟩ _ _ _; refine A2 hG Y Y ?_)
      | (show AOp _ _ ⟨_, .call ⟨.builtin .len, _, _⟩, _, _, _, _⟩ _ _ _; first | refine Bz hG Y Y Y Y ?_ | refine r_len hG Y Y Y Y Y ?_)
      | (show AOp _ _ ⟨_, .binOp _ _ _ _ _, _, _, _, _⟩ _ _ _; first | refine Ax hG Y Y Y Y Y (by omega) ?_ | refine Ay hG Y Y Y Y Y (by omega) ?_ | refine r_strT hG Y Y Y Y (by first | rfl | assumption) ?_ | refine r_strnF hG Y Y Y Y (by first | rfl | assumption) ?_ | refine r_strF hG Y Y Y Y (by assumption) ?_ | refine r_strnT hG Y Y Y Y (by assumption) ?_ | ((fail_if_success have := kk); refine Ak hG Y Y Y Y Y (fun h => ?_) (fun h => ?_)) | ((fail_if_success have := kk); first | refine r_str hG Y Y Y Y (fun h => ?_) (fun h => ?_) | refine r_strn hG Y Y Y Y (fun h => ?_) (fun h => ?_)))
      | (show AOp _ _ ⟨_, .convert _ _ _, _, _, _, _⟩ _ _ _; first | refine r_tostr hG Y Y Y Y Y Y Y Y (by first | exact Am _ _ | exact A0 _ | rfl) ?_)
      | (show AOp _ _ ⟨_, .slice _ _ _ _ _, _, _, _, _⟩ _ _ _; first | refine Cb hG Y Y Y Y Y Y Y (by omega) ?_ | refine r_sl_hi hG Y Y Y Y Y Y Y (by omega) ?_ | refine op_cut0 hG Y Y Y Y Y Y Y Y Y Y ?_ | refine r_sl hG Y Y ?_)
      | (show AOp _ _ ⟨_, .pick _ _ _, _, _, _, _⟩ _ _ _; refine Ba hG Y Y Y ?_)
      | (show AOp _ _ ⟨_, .unOp _ _ _, _, _, _, _⟩ _ _ _; refine Bm hG Y Y Y ?_)
      | (show AOp _ _ ⟨_, .buildSlice _ _ _, _, _, _, _⟩ _ _ _; first | refine r_mk (sz := 1) hG Y Y Y Y Y Y Y ?_)
      | (show AOp _ _ ⟨_, .call ⟨.builtin .min, _, _⟩, _, _, _, _⟩ _ _ _; first | refine op_minl Y Y Y (by omega) Y Y ?_ | refine op_minr Y Y Y (by omega) Y Y ?_ | refine op_min Y Y Y Y Y ?_)
      | (show AOp _ _ ⟨_, .call ⟨.builtin .append, _, _⟩, _, _, _, _⟩ _ _ _; first | refine B7 (sz := 1) (xs := []) hG Y Y Y Y Y Y Y ⟨_, Y⟩ Y Y Y Y Y Y Y (by first | omega | (simp; omega)) (fun k => ?_) | refine Ca 0 hG Y Y Y Y Y Y Y ⟨_, Y⟩ Y Y Y Y Y (by first | omega | (simp only [List.length_append, List.length_cons, List.length_nil]; omega)) (fun k => ?_) | fail)
      | (show AOp _ _ ⟨_, .call ⟨.value _, _, _⟩, _, _, _, _⟩ _ _ _; first | refine Bp Y Y Y Y Y (by first | (apply hT2 <;> (first | assumption | omega | exact Am _ _ | exact A0 _ | exact A1 _ _ | exact Bc _ | rfl | (simp; omega))) | fail) ?_ | fail)
      | refine r_q hG Y Y Y ?_); try exact kk)
    | (show AL _ _ _ _ _ _ _ _; first | refine Bk Y Y Y ?_ | (refine As ?_; first | show AW _ _ _ _ _ _ | show ∃ x', _ < _ ∧ _)) | (show AW _ _ (.seq _ _) _ _ _; refine Ag ?_; intro Q1) | (show AW _ _ (.region _ _ false) _ _ _; refine Ac ?_; intro O1) | (show AW _ _ (.cond _ _ _) _ _ _; first | refine Ao Y ?_ | refine Ap Y ?_) | (show AW _ _ (.skip) _ _ _; refine Aj ?_; first | show AW _ _ _ _ _ _ | show ∃ x', _ < _ ∧ _) | (show AW _ _ (.ret) _ _ _; refine Au ?_; try dsimp only [Az, Ab, A4, Af])
    | (show DL _ _ _ _ _ _ _; refine Bq Y Y (fun K kt kf => Ak hG Y Y Y Y Y kt kf) (fun h => ?_) (fun h => ?_)) | (show DL _ _ _ _ _ _ _; refine Bq Y Y (fun K kt kf => r_str hG Y Y Y Y kt kf) (fun h => ?_) (fun h => ?_)) | (show DL _ _ _ _ _ _ _; refine dl_ne Y Y (fun K kt kf => r_strn hG Y Y Y Y kt kf) (fun h => ?_) (fun h => ?_))
    | (show DL _ _ _ _ _ _ _; refine Br Y Y Y ?_) | (show DL _ _ _ _ _ _ _; refine A9 ?_; first | show AW _ _ _ _ _ _ | show ∃ x', _ < _ ∧ _) | (show AW _ _ (.region _ _ true) _ _ _; refine Aq mix (by kernel_rfl) ?_; intro O1) | fail)
      repeat' (first
    | ((first | (show AL _ _ _ _ _ _ _ _; refine Ae Y ?_) | (show DL _ _ _ _ _ _ _; refine' Aw Y Y (fun K kk => ?_) ?_; try (show Go.Ts.T; rotate_left))); (first
      | (show AOp _ _ ⟨_, .move _, _, _, _, _⟩ _ _ _; refine Ar hG Y Y ?_)
      | (show AOp _ _ ⟨_, .assign _, _, _, _, _⟩ _ _ _; refine A2 hG Y Y ?_)
      | (show AOp _ _ ⟨_, .call ⟨.builtin .len, _, _⟩, _, _, _, _⟩ _ _ _; first | refine Bz hG Y Y Y Y ?_ | refine r_len hG Y Y Y Y Y ?_)
      | (show AOp _ _ ⟨_, .binOp _ _ _ _ _, _, _, _, _⟩ _ _ _; first | refine Ax hG Y Y Y Y Y (by omega) ?_ | refine Ay hG Y Y Y Y Y (by omega) ?_ | refine r_strT hG Y Y Y Y (by first | rfl | assumption) ?_ | refine r_strnF hG Y Y Y Y (by first | rfl | assumption) ?_ | refine r_strF hG Y Y Y Y (by assumption) ?_ | refine r_strnT hG Y Y Y Y (by assumption) ?_ | ((fail_if_success have := kk); refine Ak hG Y Y Y Y Y (fun h => ?_) (fun h => ?_)) | ((fail_if_success have := kk); first | refine r_str hG Y Y Y Y (fun h => ?_) (fun h => ?_) | refine r_strn hG Y Y Y Y (fun h => ?_) (fun h => ?_)))
      | (show AOp _ _ ⟨_, .convert _ _ _, _, _, _, _⟩ _ _ _; first | refine r_tostr hG Y Y Y Y Y Y Y Y (by first | exact Am _ _ | exact A0 _ | rfl) ?_)
      | (show AOp _ _ ⟨_, .slice _ _ _ _ _, _, _, _, _⟩ _ _ _; first | refine Cb hG Y Y Y Y Y Y Y (by omega) ?_ | refine r_sl_hi hG Y Y Y Y Y Y Y (by omega) ?_ | refine op_cut0 hG Y Y Y Y Y Y Y Y Y Y ?_ | refine r_sl hG Y Y ?_)
      | (show AOp _ _ ⟨_, .pick _ _ _, _, _, _, _⟩ _ _ _; refine Ba hG Y Y Y ?_)
      | (show AOp _ _ ⟨_, .unOp _ _ _, _, _, _, _⟩ _ _ _; refine Bm hG Y Y Y ?_)
      | (show AOp _ _ ⟨_, .buildSlice _ _ _, _, _, _, _⟩ _ _ _; first | refine r_mk (sz := 1) hG Y Y Y Y Y Y Y ?_)
      | (show AOp _ _ ⟨_, .call ⟨.builtin .min, _, _⟩, _, _, _, _⟩ _ _ _; first | refine op_minl Y Y Y (by omega) Y Y ?_ | refine op_minr Y Y Y (by omega) Y Y ?_ | refine op_min Y Y Y Y Y ?_)
      | (show AOp _ _ ⟨_, .call ⟨.builtin .append, _, _⟩, _, _, _, _⟩ _ _ _; first | refine B7 (sz := 1) (xs := []) hG Y Y Y Y Y Y Y ⟨_, Y⟩ Y Y Y Y Y Y Y (by first | omega | (simp; omega)) (fun k => ?_) | refine Ca 0 hG Y Y Y Y Y Y Y ⟨_, Y⟩ Y Y Y Y Y (by first | omega | (simp only [List.length_append, List.length_cons, List.length_nil]; omega)) (fun k => ?_) | fail)
      | (show AOp _ _ ⟨_, .call ⟨.value _, _, _⟩, _, _, _, _⟩ _ _ _; first | refine Bp Y Y Y Y Y (by first | (apply hT3 <;> (first | assumption | omega | exact Am _ _ | exact A0 _ | exact A1 _ _ | exact Bc _ | rfl | (simp; omega))) | fail) ?_ | fail)
      | refine r_q hG Y Y Y ?_); try exact kk)
    | (show AL _ _ _ _ _ _ _ _; first | refine Bk Y Y Y ?_ | (refine As ?_; first | show AW _ _ _ _ _ _ | show ∃ x', _ < _ ∧ _)) | (show AW _ _ (.seq _ _) _ _ _; refine Ag ?_; intro Q1) | (show AW _ _ (.region _ _ false) _ _ _; (fail_if_success show AW _ _ (.region 10 _ _) _ _ _); refine Ac ?_; intro O1) | (show AW _ _ (.cond _ _ _) _ _ _; first | refine Ao Y ?_ | refine Ap Y ?_) | (show AW _ _ (.skip) _ _ _; refine Aj ?_; first | show AW _ _ _ _ _ _ | show ∃ x', _ < _ ∧ _) | (show AW _ _ (.ret) _ _ _; refine Au ?_; try dsimp only [Az, Ab, A4, Af])
    | (show DL _ _ _ _ _ _ _; refine Bq Y Y (fun K kt kf => Ak hG Y Y Y Y Y kt kf) (fun h => ?_) (fun h => ?_)) | (show DL _ _ _ _ _ _ _; refine Bq Y Y (fun K kt kf => r_str hG Y Y Y Y kt kf) (fun h => ?_) (fun h => ?_)) | (show DL _ _ _ _ _ _ _; refine dl_ne Y Y (fun K kt kf => r_strn hG Y Y Y Y kt kf) (fun h => ?_) (fun h => ?_))
    | (show DL _ _ _ _ _ _ _; refine Br Y Y Y ?_) | (show DL _ _ _ _ _ _ _; refine A9 ?_; first | show AW _ _ _ _ _ _ | show ∃ x', _ < _ ∧ _) | (show AW _ _ (.region _ _ true) _ _ _; (fail_if_success show AW _ _ (.region 10 _ _) _ _ _); refine Aq mix (by kernel_rfl) ?_; intro O1) | fail)
      repeat' (first
    | ((first | (show AL _ _ _ _ _ _ _ _; refine Ae Y ?_) | (show DL _ _ _ _ _ _ _; refine' Aw Y Y (fun K kk => ?_) ?_; try (show Go.Ts.T; rotate_left))); (first
      | (show AOp _ _ ⟨_, .move _, _, _, _, _⟩ _ _ _; refine Ar hG Y Y ?_)
      | (show AOp _ _ ⟨_, .assign _, _, _, _, _⟩ _ _ _; refine A2 hG Y Y ?_)
      | (show AOp _ _ ⟨_, .call ⟨.builtin .len, _, _⟩, _, _, _, _⟩ _ _ _; first | refine Bz hG Y Y Y Y ?_ | refine r_len hG Y Y Y Y Y ?_)
      | (show AOp _ _ ⟨_, .binOp _ _ _ _ _, _, _, _, _⟩ _ _ _; first | refine Ax hG Y Y Y Y Y (by omega) ?_ | refine Ay hG Y Y Y Y Y (by omega) ?_ | refine r_strT hG Y Y Y Y (by first | rfl | assumption) ?_ | refine r_strnF hG Y Y Y Y (by first | rfl | assumption) ?_ | refine r_strF hG Y Y Y Y (by assumption) ?_ | refine r_strnT hG Y Y Y Y (by assumption) ?_ | ((fail_if_success have := kk); refine Ak hG Y Y Y Y Y (fun h => ?_) (fun h => ?_)) | ((fail_if_success have := kk); first | refine r_str hG Y Y Y Y (fun h => ?_) (fun h => ?_) | refine r_strn hG Y Y Y Y (fun h => ?_) (fun h => ?_)))
      | (show AOp _ _ ⟨_, .convert _ _ _, _, _, _, _⟩ _ _ _; first | refine r_tostr hG Y Y Y Y Y Y Y Y (by first | exact Am _ _ | exact A0 _ | rfl) ?_)
      | (show AOp _ _ ⟨_, .slice _ _ _ _ _, _, _, _, _⟩ _ _ _; first | refine Cb hG Y Y Y Y Y Y Y (by omega) ?_ | refine r_sl_hi hG Y Y Y Y Y Y Y (by omega) ?_ | refine op_cut0 hG Y Y Y Y Y Y Y Y Y Y ?_ | refine r_sl hG Y Y ?_)
      | (show AOp _ _ ⟨_, .pick _ _ _, _, _, _, _⟩ _ _ _; refine Ba hG Y Y Y ?_)
      | (show AOp _ _ ⟨_, .unOp _ _ _, _, _, _, _⟩ _ _ _; refine Bm hG Y Y Y ?_)
      | (show AOp _ _ ⟨_, .buildSlice _ _ _, _, _, _, _⟩ _ _ _; first | refine r_mk (sz := 1) hG Y Y Y Y Y Y Y ?_)
      | (show AOp _ _ ⟨_, .call ⟨.builtin .min, _, _⟩, _, _, _, _⟩ _ _ _; first | refine op_minl Y Y Y (by omega) Y Y ?_ | refine op_minr Y Y Y (by omega) Y Y ?_ | refine op_min Y Y Y Y Y ?_)
      | (show AOp _ _ ⟨_, .call ⟨.builtin .append, _, _⟩, _, _, _, _⟩ _ _ _; first | refine B7 (sz := 1) (xs := []) hG Y Y Y Y Y Y Y ⟨_, Y⟩ Y Y Y Y Y Y Y (by first | omega | (simp; omega)) (fun k => ?_) | refine Ca 0 hG Y Y Y Y Y Y Y ⟨_, Y⟩ Y Y Y Y Y (by first | omega | (simp only [List.length_append, List.length_cons, List.length_nil]; omega)) (fun k => ?_) | fail)
      | (show AOp _ _ ⟨_, .call ⟨.value _, _, _⟩, _, _, _, _⟩ _ _ _; first | refine Bp Y Y Y Y Y (by first | (apply hS <;> (first | assumption | omega | exact Am _ _ | exact A0 _ | exact A1 _ _ | exact Bc _ | rfl | (simp; omega))) | fail) ?_ | ((fail_if_success have := kk); refine r_owns Y Y Y Y Y (by first | (apply hP2 <;> (first | assumption | omega | exact Am _ _ | exact A0 _ | exact A1 _ _ | exact Bc _ | rfl | (simp; omega))) | fail) (fun k => ?_)) | (have := kk; clear this; refine Bp Y Y Y Y Y (Owns.pure (by first | (apply hP2 <;> (first | assumption | omega | exact Am _ _ | exact A0 _ | exact A1 _ _ | exact Bc _ | rfl | (simp; omega))) | fail)) ?_) | fail)
      | refine r_q hG Y Y Y ?_); try exact kk)
    | (show AL _ _ _ _ _ _ _ _; first | refine Bk Y Y Y ?_ | (refine As ?_; first | show AW _ _ _ _ _ _ | show ∃ x', _ < _ ∧ _)) | (show AW _ _ (.seq _ _) _ _ _; refine Ag ?_; intro Q1) | (show AW _ _ (.region _ _ false) _ _ _; refine Ac ?_; intro O1) | (show AW _ _ (.cond _ _ _) _ _ _; first | refine Ao Y ?_ | refine Ap Y ?_) | (show AW _ _ (.skip) _ _ _; refine Aj ?_; first | show AW _ _ _ _ _ _ | show ∃ x', _ < _ ∧ _) | (show AW _ _ (.ret) _ _ _; refine Au ?_; try dsimp only [Az, Ab, A4, Af])
    | (show DL _ _ _ _ _ _ _; refine Bq Y Y (fun K kt kf => Ak hG Y Y Y Y Y kt kf) (fun h => ?_) (fun h => ?_)) | (show DL _ _ _ _ _ _ _; refine Bq Y Y (fun K kt kf => r_str hG Y Y Y Y kt kf) (fun h => ?_) (fun h => ?_)) | (show DL _ _ _ _ _ _ _; refine dl_ne Y Y (fun K kt kf => r_strn hG Y Y Y Y kt kf) (fun h => ?_) (fun h => ?_))
    | (show DL _ _ _ _ _ _ _; refine Br Y Y Y ?_) | (show DL _ _ _ _ _ _ _; refine A9 ?_; first | show AW _ _ _ _ _ _ | show ∃ x', _ < _ ∧ _) | (show AW _ _ (.region _ _ true) _ _ _; refine Aq mix (by kernel_rfl) ?_; intro O1) | fail)
      exact B0 (Bi rfl Bj) (.refl _) rfl
    · repeat' (first
    | ((first | (show AL _ _ _ _ _ _ _ _; refine Ae Y ?_) | (show DL _ _ _ _ _ _ _; refine' Aw Y Y (fun K kk => ?_) ?_; try (show Go.Ts.T; rotate_left))); (first
      | (show AOp _ _ ⟨_, .move _, _, _, _, _⟩ _ _ _; refine Ar hG Y Y ?_)
      | (show AOp _ _ ⟨_, .assign _, _, _, _, _⟩ _ _ _; refine A2 hG Y Y ?_)
      | (show AOp _ _ ⟨_, .call ⟨.builtin .len, _, _⟩, _, _, _, _⟩ _ _ _; first | refine Bz hG Y Y Y Y ?_ | refine r_len hG Y Y Y Y Y ?_)
      | (show AOp _ _ ⟨_, .binOp _ _ _ _ _, _, _, _, _⟩ _ _ _; first | refine Ax hG Y Y Y Y Y (by omega) ?_ | refine Ay hG Y Y Y Y Y (by omega) ?_ | refine r_strT hG Y Y Y Y (by first | rfl | assumption) ?_ | refine r_strnF hG Y Y Y Y (by first | rfl | assumption) ?_ | refine r_strF hG Y Y Y Y (by assumption) ?_ | refine r_strnT hG Y Y Y Y (by assumption) ?_ | ((fail_if_success have := kk); refine Ak hG Y Y Y Y Y (fun h => ?_) (fun h => ?_)) | ((fail_if_success have := kk); first | refine r_str hG Y Y Y Y (fun h => ?_) (fun h => ?_) | refine r_strn hG Y Y Y Y (fun h => ?_) (fun h => ?_)))
      | (show AOp _ _ ⟨_, .convert _ _ _, _, _, _, _⟩ _ _ _; first | refine r_tostr hG Y Y Y Y Y Y Y Y (by first | exact Am _ _ | exact A0 _ | rfl) ?_)
      | (show AOp _ _ ⟨_, .slice _ _ _ _ _, _, _, _, _⟩ _ _ _; first | refine Cb hG Y Y Y Y Y Y Y (by omega) ?_ | refine r_sl_hi hG Y Y Y Y Y Y Y (by omega) ?_ | refine op_cut0 hG Y Y Y Y Y Y Y Y Y Y ?_ | refine r_sl hG Y Y ?_)
      | (show AOp _ _ ⟨_, .pick _ _ _, _, _, _, _⟩ _ _ _; refine Ba hG Y Y Y ?_)
      | (show AOp _ _ ⟨_, .unOp _ _ _, _, _, _, _⟩ _ _ _; refine Bm hG Y Y Y ?_)
      | (show AOp _ _ ⟨_, .buildSlice _ _ _, _, _, _, _⟩ _ _ _; first | refine r_mk (sz := 1) hG Y Y Y Y Y Y Y ?_)
      | (show AOp _ _ ⟨_, .call ⟨.builtin .min, _, _⟩, _, _, _, _⟩ _ _ _; first | refine op_minl Y Y Y (by omega) Y Y ?_ | refine op_minr Y Y Y (by omega) Y Y ?_ | refine op_min Y Y Y Y Y ?_)
      | (show AOp _ _ ⟨_, .call ⟨.builtin .append, _, _⟩, _, _, _, _⟩ _ _ _; first | refine B7 (sz := 1) (xs := []) hG Y Y Y Y Y Y Y ⟨_, Y⟩ Y Y Y Y Y Y Y (by first | omega | (simp; omega)) (fun k => ?_) | refine Ca 0 hG Y Y Y Y Y Y Y ⟨_, Y⟩ Y Y Y Y Y (by first | omega | (simp only [List.length_append, List.length_cons, List.length_nil]; omega)) (fun k => ?_) | fail)
      | (show AOp _ _ ⟨_, .call ⟨.value _, _, _⟩, _, _, _, _⟩ _ _ _; first | refine Bp Y Y Y Y Y (by first | (apply c_begun <;> (first | assumption | omega | exact Am _ _ | exact A0 _ | exact A1 _ _ | exact Bc _ | rfl | (simp; omega))) | fail) ?_ | refine Bp Y Y Y Y Y (by first | (apply hM <;> (first | assumption | omega | exact Am _ _ | exact A0 _ | exact A1 _ _ | exact Bc _ | rfl | (simp; omega))) | fail) ?_ | refine Bp Y Y Y Y Y (by first | (apply hT1 <;> (first | assumption | omega | exact Am _ _ | exact A0 _ | exact A1 _ _ | exact Bc _ | rfl | (simp; omega))) | fail) ?_ | refine Bp Y Y Y Y Y (by first | (apply hpc <;> (first | assumption | omega | exact Am _ _ | exact A0 _ | exact A1 _ _ | exact Bc _ | rfl | (simp; omega))) | fail) ?_ | ((fail_if_success have := kk); refine r_owns Y Y Y Y Y (by first | (apply hP <;> (first | assumption | omega | exact Am _ _ | exact A0 _ | exact A1 _ _ | exact Bc _ | rfl | (simp; omega))) | fail) (fun k => ?_)) | (have := kk; clear this; refine Bp Y Y Y Y Y (Owns.pure (by first | (apply hP <;> (first | assumption | omega | exact Am _ _ | exact A0 _ | exact A1 _ _ | exact Bc _ | rfl | (simp; omega))) | fail)) ?_) | fail)
      | refine r_q hG Y Y Y ?_); try exact kk)
    | (show AL _ _ _ _ _ _ _ _; first | refine Bk Y Y Y ?_ | (refine As ?_; first | show AW _ _ _ _ _ _ | show ∃ x', _ < _ ∧ _)) | (show AW _ _ (.seq _ _) _ _ _; refine Ag ?_; intro Q1) | (show AW _ _ (.region _ _ false) _ _ _; refine Ac ?_; intro O1) | (show AW _ _ (.cond _ _ _) _ _ _; first | refine Ao Y ?_ | refine Ap Y ?_) | (show AW _ _ (.skip) _ _ _; refine Aj ?_; first | show AW _ _ _ _ _ _ | show ∃ x', _ < _ ∧ _) | (show AW _ _ (.ret) _ _ _; refine Au ?_; try dsimp only [Az, Ab, A4, Af])
    | (show DL _ _ _ _ _ _ _; refine Bq Y Y (fun K kt kf => Ak hG Y Y Y Y Y kt kf) (fun h => ?_) (fun h => ?_)) | (show DL _ _ _ _ _ _ _; refine Bq Y Y (fun K kt kf => r_str hG Y Y Y Y kt kf) (fun h => ?_) (fun h => ?_)) | (show DL _ _ _ _ _ _ _; refine dl_ne Y Y (fun K kt kf => r_strn hG Y Y Y Y kt kf) (fun h => ?_) (fun h => ?_))
    | (show DL _ _ _ _ _ _ _; refine Br Y Y Y ?_) | (show DL _ _ _ _ _ _ _; refine A9 ?_; first | show AW _ _ _ _ _ _ | show ∃ x', _ < _ ∧ _) | (show AW _ _ (.region _ _ true) _ _ _; refine Aq mix (by kernel_rfl) ?_; intro O1) | fail)
      repeat' (first
    | ((first | (show AL _ _ _ _ _ _ _ _; refine Ae Y ?_) | (show DL _ _ _ _ _ _ _; refine' Aw Y Y (fun K kk => ?_) ?_; try (show Go.Ts.T; rotate_left))); (first
      | (show AOp _ _ ⟨_, .move _, _, _, _, _⟩ _ _ _; refine Ar hG Y Y ?_)
      | (show AOp _ _ ⟨_, .assign _, _, _, _, _⟩ _ _ _; refine A2 hG Y Y ?_)
      | (show AOp _ _ ⟨_, .call ⟨.builtin .len, _, _⟩, _, _, _, _⟩ _ _ _; first | refine Bz hG Y Y Y Y ?_ | refine r_len hG Y Y Y Y Y ?_)
      | (show AOp _ _ ⟨_, .binOp _ _ _ _ _, _, _, _, _⟩ _ _ _; first | refine Ax hG Y Y Y Y Y (by omega) ?_ | refine Ay hG Y Y Y Y Y (by omega) ?_ | refine r_strT hG Y Y Y Y (by first | rfl | assumption) ?_ | refine r_strnF hG Y Y Y Y (by first | rfl | assumption) ?_ | refine r_strF hG Y Y Y Y (by assumption) ?_ | refine r_strnT hG Y Y Y Y (by assumption) ?_ | ((fail_if_success have := kk); refine Ak hG Y Y Y Y Y (fun h => ?_) (fun h => ?_)) | ((fail_if_success have := kk); first | refine r_str hG Y Y Y Y (fun h => ?_) (fun h => ?_) | refine r_strn hG Y Y Y Y (fun h => ?_) (fun h => ?_)))
      | (show AOp _ _ ⟨_, .convert _ _ _, _, _, _, _⟩ _ _ _; first | refine r_tostr hG Y Y Y Y Y Y Y Y (by first | exact Am _ _ | exact A0 _ | rfl) ?_)
      | (show AOp _ _ ⟨_, .slice _ _ _ _ _, _, _, _, _⟩ _ _ _; first | refine Cb hG Y Y Y Y Y Y Y (by omega) ?_ | refine r_sl_hi hG Y Y Y Y Y Y Y (by omega) ?_ | refine op_cut0 hG Y Y Y Y Y Y Y Y Y Y ?_ | refine r_sl hG Y Y ?_)
      | (show AOp _ _ ⟨_, .pick _ _ _, _, _, _, _⟩ _ _ _; refine Ba hG Y Y Y ?_)
      | (show AOp _ _ ⟨_, .unOp _ _ _, _, _, _, _⟩ _ _ _; refine Bm hG Y Y Y ?_)
      | (show AOp _ _ ⟨_, .buildSlice _ _ _, _, _, _, _⟩ _ _ _; first | refine r_mk (sz := 1) hG Y Y Y Y Y Y Y ?_)
      | (show AOp _ _ ⟨_, .call ⟨.builtin .min, _, _⟩, _, _, _, _⟩ _ _ _; first | refine op_minl Y Y Y (by omega) Y Y ?_ | refine op_minr Y Y Y (by omega) Y Y ?_ | refine op_min Y Y Y Y Y ?_)
      | (show AOp _ _ ⟨_, .call ⟨.builtin .append, _, _⟩, _, _, _, _⟩ _ _ _; first | refine B7 (sz := 1) (xs := []) hG Y Y Y Y Y Y Y ⟨_, Y⟩ Y Y Y Y Y Y Y (by first | omega | (simp; omega)) (fun k => ?_) | refine Ca 0 hG Y Y Y Y Y Y Y ⟨_, Y⟩ Y Y Y Y Y (by first | omega | (simp only [List.length_append, List.length_cons, List.length_nil]; omega)) (fun k => ?_) | fail)
      | (show AOp _ _ ⟨_, .call ⟨.value _, _, _⟩, _, _, _, _⟩ _ _ _; first | refine Bp Y Y Y Y Y (by first | (apply hT2 <;> (first | assumption | omega | exact Am _ _ | exact A0 _ | exact A1 _ _ | exact Bc _ | rfl | (simp; omega))) | fail) ?_ | fail)
      | refine r_q hG Y Y Y ?_); try exact kk)
    | (show AL _ _ _ _ _ _ _ _; first | refine Bk Y Y Y ?_ | (refine As ?_; first | show AW _ _ _ _ _ _ | show ∃ x', _ < _ ∧ _)) | (show AW _ _ (.seq _ _) _ _ _; refine Ag ?_; intro Q1) | (show AW _ _ (.region _ _ false) _ _ _; refine Ac ?_; intro O1) | (show AW _ _ (.cond _ _ _) _ _ _; first | refine Ao Y ?_ | refine Ap Y ?_) | (show AW _ _ (.skip) _ _ _; refine Aj ?_; first | show AW _ _ _ _ _ _ | show ∃ x', _ < _ ∧ _) | (show AW _ _ (.ret) _ _ _; refine Au ?_; try dsimp only [Az, Ab, A4, Af])
    | (show DL _ _ _ _ _ _ _; refine Bq Y Y (fun K kt kf => Ak hG Y Y Y Y Y kt kf) (fun h => ?_) (fun h => ?_)) | (show DL _ _ _ _ _ _ _; refine Bq Y Y (fun K kt kf => r_str hG Y Y Y Y kt kf) (fun h => ?_) (fun h => ?_)) | (show DL _ _ _ _ _ _ _; refine dl_ne Y Y (fun K kt kf => r_strn hG Y Y Y Y kt kf) (fun h => ?_) (fun h => ?_))
    | (show DL _ _ _ _ _ _ _; refine Br Y Y Y ?_) | (show DL _ _ _ _ _ _ _; refine A9 ?_; first | show AW _ _ _ _ _ _ | show ∃ x', _ < _ ∧ _) | (show AW _ _ (.region _ _ true) _ _ _; refine Aq mix (by kernel_rfl) ?_; intro O1) | fail)
      repeat' (first
    | ((first | (show AL _ _ _ _ _ _ _ _; refine Ae Y ?_) | (show DL _ _ _ _ _ _ _; refine' Aw Y Y (fun K kk => ?_) ?_; try (show Go.Ts.T; rotate_left))); (first
      | (show AOp _ _ ⟨_, .move _, _, _, _, _⟩ _ _ _; refine Ar hG Y Y ?_)
      | (show AOp _ _ ⟨_, .assign _, _, _, _, _⟩ _ _ _; refine A2 hG Y Y ?_)
      | (show AOp _ _ ⟨_, .call ⟨.builtin .len, _, _⟩, _, _, _, _⟩ _ _ _; first | refine Bz hG Y Y Y Y ?_ | refine r_len hG Y Y Y Y Y ?_)
      | (show AOp _ _ ⟨_, .binOp _ _ _ _ _, _, _, _, _⟩ _ _ _; first | refine Ax hG Y Y Y Y Y (by omega) ?_ | refine Ay hG Y Y Y Y Y (by omega) ?_ | refine r_strT hG Y Y Y Y (by first | rfl | assumption) ?_ | refine r_strnF hG Y Y Y Y (by first | rfl | assumption) ?_ | refine r_strF hG Y Y Y Y (by assumption) ?_ | refine r_strnT hG Y Y Y Y (by assumption) ?_ | ((fail_if_success have := kk); refine Ak hG Y Y Y Y Y (fun h => ?_) (fun h => ?_)) | ((fail_if_success have := kk); first | refine r_str hG Y Y Y Y (fun h => ?_) (fun h => ?_) | refine r_strn hG Y Y Y Y (fun h => ?_) (fun h => ?_)))
      | (show AOp _ _ ⟨_, .convert _ _ _, _, _, _, _⟩ _ _ _; first | refine r_tostr hG Y Y Y Y Y Y Y Y (by first | exact Am _ _ | exact A0 _ | rfl) ?_)
      | (show AOp _ _ ⟨_, .slice _ _ _ _ _, _, _, _, _⟩ _ _ _; first | refine Cb hG Y Y Y Y Y Y Y (by omega) ?_ | refine r_sl_hi hG Y Y Y Y Y Y Y (by omega) ?_ | refine op_cut0 hG Y Y Y Y Y Y Y Y Y Y ?_ | refine r_sl hG Y Y ?_)
      | (show AOp _ _ ⟨_, .pick _ _ _, _, _, _, _⟩ _ _ _; refine Ba hG Y Y Y ?_)
      | (show AOp _ _ ⟨_, .unOp _ _ _, _, _, _, _⟩ _ _ _; refine Bm hG Y Y Y ?_)
      | (show AOp _ _ ⟨_, .buildSlice _ _ _, _, _, _, _⟩ _ _ _; first | refine r_mk (sz := 1) hG Y Y Y Y Y Y Y ?_)
      | (show AOp _ _ ⟨_, .call ⟨.builtin .min, _, _⟩, _, _, _, _⟩ _ _ _; first | refine op_minl Y Y Y (by omega) Y Y ?_ | refine op_minr Y Y Y (by omega) Y Y ?_ | refine op_min Y Y Y Y Y ?_)
      | (show AOp _ _ ⟨_, .call ⟨.builtin .append, _, _⟩, _, _, _, _⟩ _ _ _; first | refine B7 (sz := 1) (xs := []) hG Y Y Y Y Y Y Y ⟨_, Y⟩ Y Y Y Y Y Y Y (by first | omega | (simp; omega)) (fun k => ?_) | refine Ca 0 hG Y Y Y Y Y Y Y ⟨_, Y⟩ Y Y Y Y Y (by first | omega | (simp only [List.length_append, List.length_cons, List.length_nil]; omega)) (fun k => ?_) | fail)
      | (show AOp _ _ ⟨_, .call ⟨.value _, _, _⟩, _, _, _, _⟩ _ _ _; first | refine Bp Y Y Y Y Y (by first | (apply hT3 <;> (first | assumption | omega | exact Am _ _ | exact A0 _ | exact A1 _ _ | exact Bc _ | rfl | (simp; omega))) | fail) ?_ | fail)
      | refine r_q hG Y Y Y ?_); try exact kk)
    | (show AL _ _ _ _ _ _ _ _; first | refine Bk Y Y Y ?_ | (refine As ?_; first | show AW _ _ _ _ _ _ | show ∃ x', _ < _ ∧ _)) | (show AW _ _ (.seq _ _) _ _ _; refine Ag ?_; intro Q1) | (show AW _ _ (.region _ _ false) _ _ _; (fail_if_success show AW _ _ (.region 10 _ _) _ _ _); refine Ac ?_; intro O1) | (show AW _ _ (.cond _ _ _) _ _ _; first | refine Ao Y ?_ | refine Ap Y ?_) | (show AW _ _ (.skip) _ _ _; refine Aj ?_; first | show AW _ _ _ _ _ _ | show ∃ x', _ < _ ∧ _) | (show AW _ _ (.ret) _ _ _; refine Au ?_; try dsimp only [Az, Ab, A4, Af])
    | (show DL _ _ _ _ _ _ _; refine Bq Y Y (fun K kt kf => Ak hG Y Y Y Y Y kt kf) (fun h => ?_) (fun h => ?_)) | (show DL _ _ _ _ _ _ _; refine Bq Y Y (fun K kt kf => r_str hG Y Y Y Y kt kf) (fun h => ?_) (fun h => ?_)) | (show DL _ _ _ _ _ _ _; refine dl_ne Y Y (fun K kt kf => r_strn hG Y Y Y Y kt kf) (fun h => ?_) (fun h => ?_))
    | (show DL _ _ _ _ _ _ _; refine Br Y Y Y ?_) | (show DL _ _ _ _ _ _ _; refine A9 ?_; first | show AW _ _ _ _ _ _ | show ∃ x', _ < _ ∧ _) | (show AW _ _ (.region _ _ true) _ _ _; (fail_if_success show AW _ _ (.region 10 _ _) _ _ _); refine Aq mix (by kernel_rfl) ?_; intro O1) | fail)
      repeat' (first
    | ((first | (show AL _ _ _ _ _ _ _ _; refine Ae Y ?_) | (show DL _ _ _ _ _ _ _; refine' Aw Y Y (fun K kk => ?_) ?_; try (show Go.Ts.T; rotate_left))); (first
      | (show AOp _ _ ⟨_, .move _, _, _, _, _⟩ _ _ _; refine Ar hG Y Y ?_)
      | (show AOp _ _ ⟨_, .assign _, _, _, _, _⟩ _ _ _; refine A2 hG Y Y ?_)
      | (show AOp _ _ ⟨_, .call ⟨.builtin .len, _, _⟩, _, _, _, _⟩ _ _ _; first | refine Bz hG Y Y Y Y ?_ | refine r_len hG Y Y Y Y Y ?_)
      | (show AOp _ _ ⟨_, .binOp _ _ _ _ _, _, _, _, _⟩ _ _ _; first | refine Ax hG Y Y Y Y Y (by omega) ?_ | refine Ay hG Y Y Y Y Y (by omega) ?_ | refine r_strT hG Y Y Y Y (by first | rfl | assumption) ?_ | refine r_strnF hG Y Y Y Y (by first | rfl | assumption) ?_ | refine r_strF hG Y Y Y Y (by assumption) ?_ | refine r_strnT hG Y Y Y Y (by assumption) ?_ | ((fail_if_success have := kk); refine Ak hG Y Y Y Y Y (fun h => ?_) (fun h => ?_)) | ((fail_if_success have := kk); first | refine r_str hG Y Y Y Y (fun h => ?_) (fun h => ?_) | refine r_strn hG Y Y Y Y (fun h => ?_) (fun h => ?_)))
      | (show AOp _ _ ⟨_, .convert _ _ _, _, _, _, _⟩ _ _ _; first | refine r_tostr hG Y Y Y Y Y Y Y Y (by first | exact Am _ _ | exact A0 _ | rfl) ?_)
      | (show AOp _ _ ⟨_, .slice _ _ _ _ _, _, _, _, _⟩ _ _ _; first | refine Cb hG Y Y Y Y Y Y Y (by omega) ?_ | refine r_sl_hi hG Y Y Y Y Y Y Y (by omega) ?_ | refine op_cut0 hG Y Y Y Y Y Y Y Y Y Y ?_ | refine r_sl hG Y Y ?_)
      | (show AOp _ _ ⟨_, .pick _ _ _, _, _, _, _⟩ _ _ _; refine Ba hG Y Y Y ?_)
      | (show AOp _ _ ⟨_, .unOp _ _ _, _, _, _, _⟩ _ _ _; refine Bm hG Y Y Y ?_)
      | (show AOp _ _ ⟨_, .buildSlice _ _ _, _, _, _, _⟩ _ _ _; first | refine r_mk (sz := 1) hG Y Y Y Y Y Y Y ?_)
      | (show AOp _ _ ⟨_, .call ⟨.builtin .min, _, _⟩, _, _, _, _⟩ _ _ _; first | refine op_minl Y Y Y (by omega) Y Y ?_ | refine op_minr Y Y Y (by omega) Y Y ?_ | refine op_min Y Y Y Y Y ?_)
      | (show AOp _ _ ⟨_, .call ⟨.builtin .append, _, _⟩, _, _, _, _⟩ _ _ _; first | refine B7 (sz := 1) (xs := []) hG Y Y Y Y Y Y Y ⟨_, Y⟩ Y Y Y Y Y Y Y (by first | omega | (simp; omega)) (fun k => ?_) | refine Ca 0 hG Y Y Y Y Y Y Y ⟨_, Y⟩ Y Y Y Y Y (by first | omega | (simp only [List.length_append, List.length_cons, List.length_nil]; omega)) (fun k => ?_) | fail)
      | (show AOp _ _ ⟨_, .call ⟨.value _, _, _⟩, _, _, _, _⟩ _ _ _; first | refine Bp Y Y Y Y Y (by first | (apply hS <;> (first | assumption | omega | exact Am _ _ | exact A0 _ | exact A1 _ _ | exact Bc _ | rfl | (simp; omega))) | fail) ?_ | fail)
      | refine r_q hG Y Y Y ?_); try exact kk)
    | (show AL _ _ _ _ _ _ _ _; first | refine Bk Y Y Y ?_ | (refine As ?_; first | show AW _ _ _ _ _ _ | show ∃ x', _ < _ ∧ _)) | (show AW _ _ (.seq _ _) _ _ _; refine Ag ?_; intro Q1) | (show AW _ _ (.region _ _ false) _ _ _; refine Ac ?_; intro O1) | (show AW _ _ (.cond _ _ _) _ _ _; first | refine Ao Y ?_ | refine Ap Y ?_) | (show AW _ _ (.skip) _ _ _; refine Aj ?_; first | show AW _ _ _ _ _ _ | show ∃ x', _ < _ ∧ _) | (show AW _ _ (.ret) _ _ _; refine Au ?_; try dsimp only [Az, Ab, A4, Af])
    | (show DL _ _ _ _ _ _ _; refine Bq Y Y (fun K kt kf => Ak hG Y Y Y Y Y kt kf) (fun h => ?_) (fun h => ?_)) | (show DL _ _ _ _ _ _ _; refine Bq Y Y (fun K kt kf => r_str hG Y Y Y Y kt kf) (fun h => ?_) (fun h => ?_)) | (show DL _ _ _ _ _ _ _; refine dl_ne Y Y (fun K kt kf => r_strn hG Y Y Y Y kt kf) (fun h => ?_) (fun h => ?_))
    | (show DL _ _ _ _ _ _ _; refine Br Y Y Y ?_) | (show DL _ _ _ _ _ _ _; refine A9 ?_; first | show AW _ _ _ _ _ _ | show ∃ x', _ < _ ∧ _) | (show AW _ _ (.region _ _ true) _ _ _; refine Aq mix (by kernel_rfl) ?_; intro O1) | fail)
      exact B0 (Bi rfl Bj) (.refl _) rfl
  · have hM := cats_Make (x := .sl 1 .no ((l.take (16 : Int).toNat).map hT)) (A1 _ _) (show (l.take (16 : Int).toNat).length < 256 by rw [List.length_take]; omega)
    rw [mkS_eq] at hM
    have hml := mk_length_le (l.take (16 : Int).toNat)
    rw [List.length_take] at hml
    have ma : mayC (mk (l.take (16 : Int).toNat)) = true := by
      rw [mayC, decide_eq_true (by omega), risesB_iff.2 (mk_up _)]; rfl
    have pa : (mk (l.take (16 : Int).toNat)).length ≤ 16 := by omega
    clear hml
    generalize mk (l.take (16 : Int).toNat) = a at hM ma pa
    have hpl := putC_len a
    have hP := cats_Put (x := .nilsl) (b := []) (y := cT a) rfl (Bc a) (by decide) (by omega)
    have hT1 := fun k => cats_Take_is (x := .sl 1 (.tok k) (([] ++ putC [] a ++ t).map bT)) (s := [] ++ putC [] a ++ t) (Am _ _) (by simp only [List.length_append, List.length_nil]; omega) (takeC_putC ma t)
    have hpc := law_Place (p := p) (n := ((putC [] a).length : Int)) (by omega)
    have hpn := placeN_lt (p := p) (n := ((putC [] a).length : Int)) (by omega)
    have hsh := takeC_short pa (placeN p ((putC [] a).length : Int)).toNat (by omega) []
    rw [List.append_nil] at hsh
    have hT2 := cats_Take_is (x := sT ((putC [] a).take (placeN p ((putC [] a).length : Int)).toNat)) (A0 _) (by rw [List.length_take]; omega) hsh
    obtain ⟨r, hr⟩ : ∃ r, takeC s = r := ⟨_, rfl⟩
    obtain ⟨y, m, g⟩ := r
    have hT3 := cats_Take_is (A0 s) (by omega) hr
    have hS := same_eq (x := cT a) (y := cT a) (Bc a) (Bc a) (by omega)
    rw [← hpl] at hT1
    by_cases he : g = 0
    · subst he
      have k1 := takeC_used hr
      have k2 := takeC_back hr
      have hP2 := cats_Put (x := .nilsl) (b := []) (y := cT y) rfl (Bc y) (by decide) (by omega)
      rw [k2] at hP2
      repeat' (first
    | ((first | (show AL _ _ _ _ _ _ _ _; refine Ae Y ?_) | (show DL _ _ _ _ _ _ _; refine' Aw Y Y (fun K kk => ?_) ?_; try (show Go.Ts.T; rotate_left))); (first
      | (show AOp _ _ ⟨_, .move _, _, _, _, _⟩ _ _ _; refine Ar hG Y Y ?_)
      | (show AOp _ _ ⟨_, .assign _, _, _, _, _⟩ _ _ _; refine A2 hG Y Y ?_)
      | (show AOp _ _ ⟨_, .call ⟨.builtin .len, _, _⟩, _, _, _, _⟩ _ _ _; first | refine Bz hG Y Y Y Y ?_ | refine r_len hG Y Y Y Y Y ?_)
      | (show AOp _ _ ⟨_, .binOp _ _ _ _ _, _, _, _, _⟩ _ _ _; first | refine Ax hG Y Y Y Y Y (by omega) ?_ | refine Ay hG Y Y Y Y Y (by omega) ?_ | refine r_strT hG Y Y Y Y (by first | rfl | assumption) ?_ | refine r_strnF hG Y Y Y Y (by first | rfl | assumption) ?_ | refine r_strF hG Y Y Y Y (by assumption) ?_ | refine r_strnT hG Y Y Y Y (by assumption) ?_ | ((fail_if_success have := kk); refine Ak hG Y Y Y Y Y (fun h => ?_) (fun h => ?_)) | ((fail_if_success have := kk); first | refine r_str hG Y Y Y Y (fun h => ?_) (fun h => ?_) | refine r_strn hG Y Y Y Y (fun h => ?_) (fun h => ?_)))
      | (show AOp _ _ ⟨_, .convert _ _ _, _, _, _, _⟩ _ _ _; first | refine r_tostr hG Y Y Y Y Y Y Y Y (by first | exact Am _ _ | exact A0 _ | rfl) ?_)
      | (show AOp _ _ ⟨_, .slice _ _ _ _ _, _, _, _, _⟩ _ _ _; first | refine Cb hG Y Y Y Y Y Y Y (by omega) ?_ | refine r_sl_hi hG Y Y Y Y Y Y Y (by omega) ?_ | refine op_cut0 hG Y Y Y Y Y Y Y Y Y Y ?_ | refine r_sl hG Y Y ?_)
      | (show AOp _ _ ⟨_, .pick _ _ _, _, _, _, _⟩ _ _ _; refine Ba hG Y Y Y ?_)
      | (show AOp _ _ ⟨_, .unOp _ _ _, _, _, _, _⟩ _ _ _; refine Bm hG Y Y Y ?_)
      | (show AOp _ _ ⟨_, .buildSlice _ _ _, _, _, _, _⟩ _ _ _; first | refine r_mk (sz := 1) hG Y Y Y Y Y Y Y ?_)
      | (show AOp _ _ ⟨_, .call ⟨.builtin .min, _, _⟩, _, _, _, _⟩ _ _ _; first | refine op_minl Y Y Y (by omega) Y Y ?_ | refine op_minr Y Y Y (by omega) Y Y ?_ | refine op_min Y Y Y Y Y ?_)
      | (show AOp _ _ ⟨_, .call ⟨.builtin .append, _, _⟩, _, _, _, _⟩ _ _ _; first | refine B7 (sz := 1) (xs := []) hG Y Y Y Y Y Y Y ⟨_, Y⟩ Y Y Y Y Y Y Y (by first | omega | (simp; omega)) (fun k => ?_) | refine Ca 0 hG Y Y Y Y Y Y Y ⟨_, Y⟩ Y Y Y Y Y (by first | omega | (simp only [List.length_append, List.length_cons, List.length_nil]; omega)) (fun k => ?_) | fail)
      | (show AOp _ _ ⟨_, .call ⟨.value _, _, _⟩, _, _, _, _⟩ _ _ _; first | refine Bp Y Y Y Y Y (by first | (apply c_begun <;> (first | assumption | omega | exact Am _ _ | exact A0 _ | exact A1 _ _ | exact Bc _ | rfl | (simp; omega))) | fail) ?_ | refine Bp Y Y Y Y Y (by first | (apply hM <;> (first | assumption | omega | exact Am _ _ | exact A0 _ | exact A1 _ _ | exact Bc _ | rfl | (simp; omega))) | fail) ?_ | refine Bp Y Y Y Y Y (by first | (apply hT1 <;> (first | assumption | omega | exact Am _ _ | exact A0 _ | exact A1 _ _ | exact Bc _ | rfl | (simp; omega))) | fail) ?_ | refine Bp Y Y Y Y Y (by first | (apply hpc <;> (first | assumption | omega | exact Am _ _ | exact A0 _ | exact A1 _ _ | exact Bc _ | rfl | (simp; omega))) | fail) ?_ | ((fail_if_success have := kk); refine r_owns Y Y Y Y Y (by first | (apply hP <;> (first | assumption | omega | exact Am _ _ | exact A0 _ | exact A1 _ _ | exact Bc _ | rfl | (simp; omega))) | fail) (fun k => ?_)) | (have := kk; clear this; refine Bp Y Y Y Y Y (Owns.pure (by first | (apply hP <;> (first | assumption | omega | exact Am _ _ | exact A0 _ | exact A1 _ _ | exact Bc _ | rfl | (simp; omega))) | fail)) ?_) | fail)
      | refine r_q hG Y Y Y ?_); try exact kk)
    | (show AL _ _ _ _ _ _ _ _; first | refine Bk Y Y Y ?_ | (refine As ?_; first | show AW _ _ _ _ _ _ | show ∃ x', _ < _ ∧ _)) | (show AW _ _ (.seq _ _) _ _ _; refine Ag ?_; intro Q1) | (show AW _ _ (.region _ _ false) _ _ _; refine Ac ?_; intro O1) | (show AW _ _ (.cond _ _ _) _ _ _; first | refine Ao Y ?_ | refine Ap Y ?_) | (show AW _ _ (.skip) _ _ _; refine Aj ?_; first | show AW _ _ _ _ _ _ | show ∃ x', _ < _ ∧ _) | (show AW _ _ (.ret) _ _ _; refine Au ?_; try dsimp only [Az, Ab, A4, Af])
    | (show DL _ _ _ _ _ _ _; refine Bq Y Y (fun K kt kf => Ak hG Y Y Y Y Y kt kf) (fun h => ?_) (fun h => ?_)) | (show DL _ _ _ _ _ _ _; refine Bq Y Y (fun K kt kf => r_str hG Y Y Y Y kt kf) (fun h => ?_) (fun h => ?_)) | (show DL _ _ _ _ _ _ _; refine dl_ne Y Y (fun K kt kf => r_strn hG Y Y Y Y kt kf) (fun h => ?_) (fun h => ?_))
    | (show DL _ _ _ _ _ _ _; refine Br Y Y Y ?_) | (show DL _ _ _ _ _ _ _; refine A9 ?_; first | show AW _ _ _ _ _ _ | show ∃ x', _ < _ ∧ _) | (show AW _ _ (.region _ _ true) _ _ _; refine Aq mix (by kernel_rfl) ?_; intro O1) | fail)
      repeat' (first
    | ((first | (show AL _ _ _ _ _ _ _ _; refine Ae Y ?_) | (show DL _ _ _ _ _ _ _; refine' Aw Y Y (fun K kk => ?_) ?_; try (show Go.Ts.T; rotate_left))); (first
      | (show AOp _ _ ⟨_, .move _, _, _, _, _⟩ _ _ _; refine Ar hG Y Y ?_)
      | (show AOp _ _ ⟨_, .assign _, _, _, _, _⟩ _ _ _; refine A2 hG Y Y ?_)
      | (show AOp _ _ ⟨_, .call ⟨.builtin .len, _, _⟩, _, _, _, _⟩ _ _ _; first | refine Bz hG Y Y Y Y ?_ | refine r_len hG Y Y Y Y Y ?_)
      | (show AOp _ _ ⟨_, .binOp _ _ _ _ _, _, _, _, _⟩ _ _ _; first | refine Ax hG Y Y Y Y Y (by omega) ?_ | refine Ay hG Y Y Y Y Y (by omega) ?_ | refine r_strT hG Y Y Y Y (by first | rfl | assumption) ?_ | refine r_strnF hG Y Y Y Y (by first | rfl | assumption) ?_ | refine r_strF hG Y Y Y Y (by assumption) ?_ | refine r_strnT hG Y Y Y Y (by assumption) ?_ | ((fail_if_success have := kk); refine Ak hG Y Y Y Y Y (fun h => ?_) (fun h => ?_)) | ((fail_if_success have := kk); first | refine r_str hG Y Y Y Y (fun h => ?_) (fun h => ?_) | refine r_strn hG Y Y Y Y (fun h => ?_) (fun h => ?_)))
      | (show AOp _ _ ⟨_, .convert _ _ _, _, _, _, _⟩ _ _ _; first | refine r_tostr hG Y Y Y Y Y Y Y Y (by first | exact Am _ _ | exact A0 _ | rfl) ?_)
      | (show AOp _ _ ⟨_, .slice _ _ _ _ _, _, _, _, _⟩ _ _ _; first | refine Cb hG Y Y Y Y Y Y Y (by omega) ?_ | refine r_sl_hi hG Y Y Y Y Y Y Y (by omega) ?_ | refine op_cut0 hG Y Y Y Y Y Y Y Y Y Y ?_ | refine r_sl hG Y Y ?_)
      | (show AOp _ _ ⟨_, .pick _ _ _, _, _, _, _⟩ _ _ _; refine Ba hG Y Y Y ?_)
      | (show AOp _ _ ⟨_, .unOp _ _ _, _, _, _, _⟩ _ _ _; refine Bm hG Y Y Y ?_)
      | (show AOp _ _ ⟨_, .buildSlice _ _ _, _, _, _, _⟩ _ _ _; first | refine r_mk (sz := 1) hG Y Y Y Y Y Y Y ?_)
      | (show AOp _ _ ⟨_, .call ⟨.builtin .min, _, _⟩, _, _, _, _⟩ _ _ _; first | refine op_minl Y Y Y (by omega) Y Y ?_ | refine op_minr Y Y Y (by omega) Y Y ?_ | refine op_min Y Y Y Y Y ?_)
      | (show AOp _ _ ⟨_, .call ⟨.builtin .append, _, _⟩, _, _, _, _⟩ _ _ _; first | refine B7 (sz := 1) (xs := []) hG Y Y Y Y Y Y Y ⟨_, Y⟩ Y Y Y Y Y Y Y (by first | omega | (simp; omega)) (fun k => ?_) | refine Ca 0 hG Y Y Y Y Y Y Y ⟨_, Y⟩ Y Y Y Y Y (by first | omega | (simp only [List.length_append, List.length_cons, List.length_nil]; omega)) (fun k => ?_) | fail)
      | (show AOp _ _ ⟨_, .call ⟨.value _, _, _⟩, _, _, _, _⟩ _ _ _; first | refine Bp Y Y Y Y Y (by first | (apply hT2 <;> (first | assumption | omega | exact Am _ _ | exact A0 _ | exact A1 _ _ | exact Bc _ | rfl | (simp; omega))) | fail) ?_ | fail)
      | refine r_q hG Y Y Y ?_); try exact kk)
    | (show AL _ _ _ _ _ _ _ _; first | refine Bk Y Y Y ?_ | (refine As ?_; first | show AW _ _ _ _ _ _ | show ∃ x', _ < _ ∧ _)) | (show AW _ _ (.seq _ _) _ _ _; refine Ag ?_; intro Q1) | (show AW _ _ (.region _ _ false) _ _ _; refine Ac ?_; intro O1) | (show AW _ _ (.cond _ _ _) _ _ _; first | refine Ao Y ?_ | refine Ap Y ?_) | (show AW _ _ (.skip) _ _ _; refine Aj ?_; first | show AW _ _ _ _ _ _ | show ∃ x', _ < _ ∧ _) | (show AW _ _ (.ret) _ _ _; refine Au ?_; try dsimp only [Az, Ab, A4, Af])
    | (show DL _ _ _ _ _ _ _; refine Bq Y Y (fun K kt kf => Ak hG Y Y Y Y Y kt kf) (fun h => ?_) (fun h => ?_)) | (show DL _ _ _ _ _ _ _; refine Bq Y Y (fun K kt kf => r_str hG Y Y Y Y kt kf) (fun h => ?_) (fun h => ?_)) | (show DL _ _ _ _ _ _ _; refine dl_ne Y Y (fun K kt kf => r_strn hG Y Y Y Y kt kf) (fun h => ?_) (fun h => ?_))
    | (show DL _ _ _ _ _ _ _; refine Br Y Y Y ?_) | (show DL _ _ _ _ _ _ _; refine A9 ?_; first | show AW _ _ _ _ _ _ | show ∃ x', _ < _ ∧ _) | (show AW _ _ (.region _ _ true) _ _ _; refine Aq mix (by kernel_rfl) ?_; intro O1) | fail)
      repeat' (first
    | ((first | (show AL _ _ _ _ _ _ _ _; refine Ae Y ?_) | (show DL _ _ _ _ _ _ _; refine' Aw Y Y (fun K kk => ?_) ?_; try (show Go.Ts.T; rotate_left))); (first
      | (show AOp _ _ ⟨_, .move _, _, _, _, _⟩ _ _ _; refine Ar hG Y Y ?_)
      | (show AOp _ _ ⟨_, .assign _, _, _, _, _⟩ _ _ _; refine A2 hG Y Y ?_)
      | (show AOp _ _ ⟨_, .call ⟨.builtin .len, _, _⟩, _, _, _, _⟩ _ _ _; first | refine Bz hG Y Y Y Y ?_ | refine r_len hG Y Y Y Y Y ?_)
      | (show AOp _ _ ⟨_, .binOp _ _ _ _ _, _, _, _, _⟩ _ _ _; first | refine Ax hG Y Y Y Y Y (by omega) ?_ | refine Ay hG Y Y Y Y Y (by omega) ?_ | refine r_strT hG Y Y Y Y (by first | rfl | assumption) ?_ | refine r_strnF hG Y Y Y Y (by first | rfl | assumption) ?_ | refine r_strF hG Y Y Y Y (by assumption) ?_ | refine r_strnT hG Y Y Y Y (by assumption) ?_ | ((fail_if_success have := kk); refine Ak hG Y Y Y Y Y (fun h => ?_) (fun h => ?_)) | ((fail_if_success have := kk); first | refine r_str hG Y Y Y Y (fun h => ?_) (fun h => ?_) | refine r_strn hG Y Y Y Y (fun h => ?_) (fun h => ?_)))
      | (show AOp _ _ ⟨_, .convert _ _ _, _, _, _, _⟩ _ _ _; first | refine r_tostr hG Y Y Y Y Y Y Y Y (by first | exact Am _ _ | exact A0 _ | rfl) ?_)
      | (show AOp _ _ ⟨_, .slice _ _ _ _ _, _, _, _, _⟩ _ _ _; first | refine Cb hG Y Y Y Y Y Y Y (by omega) ?_ | refine r_sl_hi hG Y Y Y Y Y Y Y (by omega) ?_ | refine op_cut0 hG Y Y Y Y Y Y Y Y Y Y ?_ | refine r_sl hG Y Y ?_)
      | (show AOp _ _ ⟨_, .pick _ _ _, _, _, _, _⟩ _ _ _; refine Ba hG Y Y Y ?_)
      | (show AOp _ _ ⟨_, .unOp _ _ _, _, _, _, _⟩ _ _ _; refine Bm hG Y Y Y ?_)
      | (show AOp _ _ ⟨_, .buildSlice _ _ _, _, _, _, _⟩ _ _ _; first | refine r_mk (sz := 1) hG Y Y Y Y Y Y Y ?_)
      | (show AOp _ _ ⟨_, .call ⟨.builtin .min, _, _⟩, _, _, _, _⟩ _ _ _; first | refine op_minl Y Y Y (by omega) Y Y ?_ | refine op_minr Y Y Y (by omega) Y Y ?_ | refine op_min Y Y Y Y Y ?_)
      | (show AOp _ _ ⟨_, .call ⟨.builtin .append, _, _⟩, _, _, _, _⟩ _ _ _; first | refine B7 (sz := 1) (xs := []) hG Y Y Y Y Y Y Y ⟨_, Y⟩ Y Y Y Y Y Y Y (by first | omega | (simp; omega)) (fun k => ?_) | refine Ca 0 hG Y Y Y Y Y Y Y ⟨_, Y⟩ Y Y Y Y Y (by first | omega | (simp only [List.length_append, List.length_cons, List.length_nil]; omega)) (fun k => ?_) | fail)
      | (show AOp _ _ ⟨_, .call ⟨.value _, _, _⟩, _, _, _, _⟩ _ _ _; first | refine Bp Y Y Y Y Y (by first | (apply hT3 <;> (first | assumption | omega | exact Am _ _ | exact A0 _ | exact A1 _ _ | exact Bc _ | rfl | (simp; omega))) | fail) ?_ | fail)
      | refine r_q hG Y Y Y ?_); try exact kk)
    | (show AL _ _ _ _ _ _ _ _; first | refine Bk Y Y Y ?_ | (refine As ?_; first | show AW _ _ _ _ _ _ | show ∃ x', _ < _ ∧ _)) | (show AW _ _ (.seq _ _) _ _ _; refine Ag ?_; intro Q1) | (show AW _ _ (.region _ _ false) _ _ _; (fail_if_success show AW _ _ (.region 10 _ _) _ _ _); refine Ac ?_; intro O1) | (show AW _ _ (.cond _ _ _) _ _ _; first | refine Ao Y ?_ | refine Ap Y ?_) | (show AW _ _ (.skip) _ _ _; refine Aj ?_; first | show AW _ _ _ _ _ _ | show ∃ x', _ < _ ∧ _) | (show AW _ _ (.ret) _ _ _; refine Au ?_; try dsimp only [Az, Ab, A4, Af])
    | (show DL _ _ _ _ _ _ _; refine Bq Y Y (fun K kt kf => Ak hG Y Y Y Y Y kt kf) (fun h => ?_) (fun h => ?_)) | (show DL _ _ _ _ _ _ _; refine Bq Y Y (fun K kt kf => r_str hG Y Y Y Y kt kf) (fun h => ?_) (fun h => ?_)) | (show DL _ _ _ _ _ _ _; refine dl_ne Y Y (fun K kt kf => r_strn hG Y Y Y Y kt kf) (fun h => ?_) (fun h => ?_))
    | (show DL _ _ _ _ _ _ _; refine Br Y Y Y ?_) | (show DL _ _ _ _ _ _ _; refine A9 ?_; first | show AW _ _ _ _ _ _ | show ∃ x', _ < _ ∧ _) | (show AW _ _ (.region _ _ true) _ _ _; (fail_if_success show AW _ _ (.region 10 _ _) _ _ _); refine Aq mix (by kernel_rfl) ?_; intro O1) | fail)
      repeat' (first
    | ((first | (show AL _ _ _ _ _ _ _ _; refine Ae Y ?_) | (show DL _ _ _ _ _ _ _; refine' Aw Y Y (fun K kk => ?_) ?_; try (show Go.Ts.T; rotate_left))); (first
      | (show AOp _ _ ⟨_, .move _, _, _, _, _⟩ _ _ _; refine Ar hG Y Y ?_)
      | (show AOp _ _ ⟨_, .assign _, _, _, _, _⟩ _ _ _; refine A2 hG Y Y ?_)
      | (show AOp _ _ ⟨_, .call ⟨.builtin .len, _, _⟩, _, _, _, _⟩ _ _ _; first | refine Bz hG Y Y Y Y ?_ | refine r_len hG Y Y Y Y Y ?_)
      | (show AOp _ _ ⟨_, .binOp _ _ _ _ _, _, _, _, _⟩ _ _ _; first | refine Ax hG Y Y Y Y Y (by omega) ?_ | refine Ay hG Y Y Y Y Y (by omega) ?_ | refine r_strT hG Y Y Y Y (by first | rfl | assumption) ?_ | refine r_strnF hG Y Y Y Y (by first | rfl | assumption) ?_ | refine r_strF hG Y Y Y Y (by assumption) ?_ | refine r_strnT hG Y Y Y Y (by assumption) ?_ | ((fail_if_success have := kk); refine Ak hG Y Y Y Y Y (fun h => ?_) (fun h => ?_)) | ((fail_if_success have := kk); first | refine r_str hG Y Y Y Y (fun h => ?_) (fun h => ?_) | refine r_strn hG Y Y Y Y (fun h => ?_) (fun h => ?_)))
      | (show AOp _ _ ⟨_, .convert _ _ _, _, _, _, _⟩ _ _ _; first | refine r_tostr hG Y Y Y Y Y Y Y Y (by first | exact Am _ _ | exact A0 _ | rfl) ?_)
      | (show AOp _ _ ⟨_, .slice _ _ _ _ _, _, _, _, _⟩ _ _ _; first | refine Cb hG Y Y Y Y Y Y Y (by omega) ?_ | refine r_sl_hi hG Y Y Y Y Y Y Y (by omega) ?_ | refine op_cut0 hG Y Y Y Y Y Y Y Y Y Y ?_ | refine r_sl hG Y Y ?_)
      | (show AOp _ _ ⟨_, .pick _ _ _, _, _, _, _⟩ _ _ _; refine Ba hG Y Y Y ?_)
      | (show AOp _ _ ⟨_, .unOp _ _ _, _, _, _, _⟩ _ _ _; refine Bm hG Y Y Y ?_)
      | (show AOp _ _ ⟨_, .buildSlice _ _ _, _, _, _, _⟩ _ _ _; first | refine r_mk (sz := 1) hG Y Y Y Y Y Y Y ?_)
      | (show AOp _ _ ⟨_, .call ⟨.builtin .min, _, _⟩, _, _, _, _⟩ _ _ _; first | refine op_minl Y Y Y (by omega) Y Y ?_ | refine op_minr Y Y Y (by omega) Y Y ?_ | refine op_min Y Y Y Y Y ?_)
      | (show AOp _ _ ⟨_, .call ⟨.builtin .append, _, _⟩, _, _, _, _⟩ _ _ _; first | refine B7 (sz := 1) (xs := []) hG Y Y Y Y Y Y Y ⟨_, Y⟩ Y Y Y Y Y Y Y (by first | omega | (simp; omega)) (fun k => ?_) | refine Ca 0 hG Y Y Y Y Y Y Y ⟨_, Y⟩ Y Y Y Y Y (by first | omega | (simp only [List.length_append, List.length_cons, List.length_nil]; omega)) (fun k => ?_) | fail)
      | (show AOp _ _ ⟨_, .call ⟨.value _, _, _⟩, _, _, _, _⟩ _ _ _; first | refine Bp Y Y Y Y Y (by first | (apply hS <;> (first | assumption | omega | exact Am _ _ | exact A0 _ | exact A1 _ _ | exact Bc _ | rfl | (simp; omega))) | fail) ?_ | ((fail_if_success have := kk); refine r_owns Y Y Y Y Y (by first | (apply hP2 <;> (first | assumption | omega | exact Am _ _ | exact A0 _ | exact A1 _ _ | exact Bc _ | rfl | (simp; omega))) | fail) (fun k => ?_)) | (have := kk; clear this; refine Bp Y Y Y Y Y (Owns.pure (by first | (apply hP2 <;> (first | assumption | omega | exact Am _ _ | exact A0 _ | exact A1 _ _ | exact Bc _ | rfl | (simp; omega))) | fail)) ?_) | fail)
      | refine r_q hG Y Y Y ?_); try exact kk)
    | (show AL _ _ _ _ _ _ _ _; first | refine Bk Y Y Y ?_ | (refine As ?_; first | show AW _ _ _ _ _ _ | show ∃ x', _ < _ ∧ _)) | (show AW _ _ (.seq _ _) _ _ _; refine Ag ?_; intro Q1) | (show AW _ _ (.region _ _ false) _ _ _; refine Ac ?_; intro O1) | (show AW _ _ (.cond _ _ _) _ _ _; first | refine Ao Y ?_ | refine Ap Y ?_) | (show AW _ _ (.skip) _ _ _; refine Aj ?_; first | show AW _ _ _ _ _ _ | show ∃ x', _ < _ ∧ _) | (show AW _ _ (.ret) _ _ _; refine Au ?_; try dsimp only [Az, Ab, A4, Af])
    | (show DL _ _ _ _ _ _ _; refine Bq Y Y (fun K kt kf => Ak hG Y Y Y Y Y kt kf) (fun h => ?_) (fun h => ?_)) | (show DL _ _ _ _ _ _ _; refine Bq Y Y (fun K kt kf => r_str hG Y Y Y Y kt kf) (fun h => ?_) (fun h => ?_)) | (show DL _ _ _ _ _ _ _; refine dl_ne Y Y (fun K kt kf => r_strn hG Y Y Y Y kt kf) (fun h => ?_) (fun h => ?_))
    | (show DL _ _ _ _ _ _ _; refine Br Y Y Y ?_) | (show DL _ _ _ _ _ _ _; refine A9 ?_; first | show AW _ _ _ _ _ _ | show ∃ x', _ < _ ∧ _) | (show AW _ _ (.region _ _ true) _ _ _; refine Aq mix (by kernel_rfl) ?_; intro O1) | fail)
      exact B0 (Bi rfl Bj) (.refl _) rfl
    · repeat' (first
    | ((first | (show AL _ _ _ _ _ _ _ _; refine Ae Y ?_) | (show DL _ _ _ _ _ _ _; refine' Aw Y Y (fun K kk => ?_) ?_; try (show Go.Ts.T; rotate_left))); (first
      | (show AOp _ _ ⟨_, .move _, _, _, _, _⟩ _ _ _; refine Ar hG Y Y ?_)
      | (show AOp _ _ ⟨_, .assign _, _, _, _, _⟩ _ _ _; refine A2 hG Y Y ?_)
      | (show AOp _ _ ⟨_, .call ⟨.builtin .len, _, _⟩, _, _, _, _⟩ _ _ _; first | refine Bz hG Y Y Y Y ?_ | refine r_len hG Y Y Y Y Y ?_)
      | (show AOp _ _ ⟨_, .binOp _ _ _ _ _, _, _, _, _⟩ _ _ _; first | refine Ax hG Y Y Y Y Y (by omega) ?_ | refine Ay hG Y Y Y Y Y (by omega) ?_ | refine r_strT hG Y Y Y Y (by first | rfl | assumption) ?_ | refine r_strnF hG Y Y Y Y (by first | rfl | assumption) ?_ | refine r_strF hG Y Y Y Y (by assumption) ?_ | refine r_strnT hG Y Y Y Y (by assumption) ?_ | ((fail_if_success have := kk); refine Ak hG Y Y Y Y Y (fun h => ?_) (fun h => ?_)) | ((fail_if_success have := kk); first | refine r_str hG Y Y Y Y (fun h => ?_) (fun h => ?_) | refine r_strn hG Y Y Y Y (fun h => ?_) (fun h => ?_)))
      | (show AOp _ _ ⟨_, .convert _ _ _, _, _, _, _⟩ _ _ _; first | refine r_tostr hG Y Y Y Y Y Y Y Y (by first | exact Am _ _ | exact A0 _ | rfl) ?_)
      | (show AOp _ _ ⟨_, .slice _ _ _ _ _, _, _, _, _⟩ _ _ _; first | refine Cb hG Y Y Y Y Y Y Y (by omega) ?_ | refine r_sl_hi hG Y Y Y Y Y Y Y (by omega) ?_ | refine op_cut0 hG Y Y Y Y Y Y Y Y Y Y ?_ | refine r_sl hG Y Y ?_)
      | (show AOp _ _ ⟨_, .pick _ _ _, _, _, _, _⟩ _ _ _; refine Ba hG Y Y Y ?_)
      | (show AOp _ _ ⟨_, .unOp _ _ _, _, _, _, _⟩ _ _ _; refine Bm hG Y Y Y ?_)
      | (show AOp _ _ ⟨_, .buildSlice _ _ _, _, _, _, _⟩ _ _ _; first | refine r_mk (sz := 1) hG Y Y Y Y Y Y Y ?_)
      | (show AOp _ _ ⟨_, .call ⟨.builtin .min, _, _⟩, _, _, _, _⟩ _ _ _; first | refine op_minl Y Y Y (by omega) Y Y ?_ | refine op_minr Y Y Y (by omega) Y Y ?_ | refine op_min Y Y Y Y Y ?_)
      | (show AOp _ _ ⟨_, .call ⟨.builtin .append, _, _⟩, _, _, _, _⟩ _ _ _; first | refine B7 (sz := 1) (xs := []) hG Y Y Y Y Y Y Y ⟨_, Y⟩ Y Y Y Y Y Y Y (by first | omega | (simp; omega)) (fun k => ?_) | refine Ca 0 hG Y Y Y Y Y Y Y ⟨_, Y⟩ Y Y Y Y Y (by first | omega | (simp only [List.length_append, List.length_cons, List.length_nil]; omega)) (fun k => ?_) | fail)
      | (show AOp _ _ ⟨_, .call ⟨.value _, _, _⟩, _, _, _, _⟩ _ _ _; first | refine Bp Y Y Y Y Y (by first | (apply c_begun <;> (first | assumption | omega | exact Am _ _ | exact A0 _ | exact A1 _ _ | exact Bc _ | rfl | (simp; omega))) | fail) ?_ | refine Bp Y Y Y Y Y (by first | (apply hM <;> (first | assumption | omega | exact Am _ _ | exact A0 _ | exact A1 _ _ | exact Bc _ | rfl | (simp; omega))) | fail) ?_ | refine Bp Y Y Y Y Y (by first | (apply hT1 <;> (first | assumption | omega | exact Am _ _ | exact A0 _ | exact A1 _ _ | exact Bc _ | rfl | (simp; omega))) | fail) ?_ | refine Bp Y Y Y Y Y (by first | (apply hpc <;> (first | assumption | omega | exact Am _ _ | exact A0 _ | exact A1 _ _ | exact Bc _ | rfl | (simp; omega))) | fail) ?_ | ((fail_if_success have := kk); refine r_owns Y Y Y Y Y (by first | (apply hP <;> (first | assumption | omega | exact Am _ _ | exact A0 _ | exact A1 _ _ | exact Bc _ | rfl | (simp; omega))) | fail) (fun k => ?_)) | (have := kk; clear this; refine Bp Y Y Y Y Y (Owns.pure (by first | (apply hP <;> (first | assumption | omega | exact Am _ _ | exact A0 _ | exact A1 _ _ | exact Bc _ | rfl | (simp; omega))) | fail)) ?_) | fail)
      | refine r_q hG Y Y Y ?_); try exact kk)
    | (show AL _ _ _ _ _ _ _ _; first | refine Bk Y Y Y ?_ | (refine As ?_; first | show AW _ _ _ _ _ _ | show ∃ x', _ < _ ∧ _)) | (show AW _ _ (.seq _ _) _ _ _; refine Ag ?_; intro Q1) | (show AW _ _ (.region _ _ false) _ _ _; refine Ac ?_; intro O1) | (show AW _ _ (.cond _ _ _) _ _ _; first | refine Ao Y ?_ | refine Ap Y ?_) | (show AW _ _ (.skip) _ _ _; refine Aj ?_; first | show AW _ _ _ _ _ _ | show ∃ x', _ < _ ∧ _) | (show AW _ _ (.ret) _ _ _; refine Au ?_; try dsimp only [Az, Ab, A4, Af])
    | (show DL _ _ _ _ _ _ _; refine Bq Y Y (fun K kt kf => Ak hG Y Y Y Y Y kt kf) (fun h => ?_) (fun h => ?_)) | (show DL _ _ _ _ _ _ _; refine Bq Y Y (fun K kt kf => r_str hG Y Y Y Y kt kf) (fun h => ?_) (fun h => ?_)) | (show DL _ _ _ _ _ _ _; refine dl_ne Y Y (fun K kt kf => r_strn hG Y Y Y Y kt kf) (fun h => ?_) (fun h => ?_))
    | (show DL _ _ _ _ _ _ _; refine Br Y Y Y ?_) | (show DL _ _ _ _ _ _ _; refine A9 ?_; first | show AW _ _ _ _ _ _ | show ∃ x', _ < _ ∧ _) | (show AW _ _ (.region _ _ true) _ _ _; refine Aq mix (by kernel_rfl) ?_; intro O1) | fail)
      repeat' (first
    | ((first | (show AL _ _ _ _ _ _ _ _; refine Ae Y ?_) | (show DL _ _ _ _ _ _ _; refine' Aw Y Y (fun K kk => ?_) ?_; try (show Go.Ts.T; rotate_left))); (first
      | (show AOp _ _ ⟨_, .move _, _, _, _, _⟩ _ _ _; refine Ar hG Y Y ?_)
      | (show AOp _ _ ⟨_, .assign _, _, _, _, _⟩ _ _ _; refine A2 hG Y Y ?_)
      | (show AOp _ _ ⟨_, .call ⟨.builtin .len, _, _⟩, _, _, _, _⟩ _ _ _; first | refine Bz hG Y Y Y Y ?_ | refine r_len hG Y Y Y Y Y ?_)
      | (show AOp _ _ ⟨_, .binOp _ _ _ _ _, _, _, _, _⟩ _ _ _; first | refine Ax hG Y Y Y Y Y (by omega) ?_ | refine Ay hG Y Y Y Y Y (by omega) ?_ | refine r_strT hG Y Y Y Y (by first | rfl | assumption) ?_ | refine r_strnF hG Y Y Y Y (by first | rfl | assumption) ?_ | refine r_strF hG Y Y Y Y (by assumption) ?_ | refine r_strnT hG Y Y Y Y (by assumption) ?_ | ((fail_if_success have := kk); refine Ak hG Y Y Y Y Y (fun h => ?_) (fun h => ?_)) | ((fail_if_success have := kk); first | refine r_str hG Y Y Y Y (fun h => ?_) (fun h => ?_) | refine r_strn hG Y Y Y Y (fun h => ?_) (fun h => ?_)))
      | (show AOp _ _ ⟨_, .convert _ _ _, _, _, _, _⟩ _ _ _; first | refine r_tostr hG Y Y Y Y Y Y Y Y (by first | exact Am _ _ | exact A0 _ | rfl) ?_)
      | (show AOp _ _ ⟨_, .slice _ _ _ _ _, _, _, _, _⟩ _ _ _; first | refine Cb hG Y Y Y Y Y Y Y (by omega) ?_ | refine r_sl_hi hG Y Y Y Y Y Y Y (by omega) ?_ | refine op_cut0 hG Y Y Y Y Y Y Y Y Y Y ?_ | refine r_sl hG Y Y ?_)
      | (show AOp _ _ ⟨_, .pick _ _ _, _, _, _, _⟩ _ _ _; refine Ba hG Y Y Y ?_)
      | (show AOp _ _ ⟨_, .unOp _ _ _, _, _, _, _⟩ _ _ _; refine Bm hG Y Y Y ?_)
      | (show AOp _ _ ⟨_, .buildSlice _ _ _, _, _, _, _⟩ _ _ _; first | refine r_mk (sz := 1) hG Y Y Y Y Y Y Y ?_)
      | (show AOp _ _ ⟨_, .call ⟨.builtin .min, _, _⟩, _, _, _, _⟩ _ _ _; first | refine op_minl Y Y Y (by omega) Y Y ?_ | refine op_minr Y Y Y (by omega) Y Y ?_ | refine op_min Y Y Y Y Y ?_)
      | (show AOp _ _ ⟨_, .call ⟨.builtin .append, _, _⟩, _, _, _, _⟩ _ _ _; first | refine B7 (sz := 1) (xs := []) hG Y Y Y Y Y Y Y ⟨_, Y⟩ Y Y Y Y Y Y Y (by first | omega | (simp; omega)) (fun k => ?_) | refine Ca 0 hG Y Y Y Y Y Y Y ⟨_, Y⟩ Y Y Y Y Y (by first | omega | (simp only [List.length_append, List.length_cons, List.length_nil]; omega)) (fun k => ?_) | fail)
      | (show AOp _ _ ⟨_, .call ⟨.value _, _, _⟩, _, _, _, _⟩ _ _ _; first | refine Bp Y Y Y Y Y (by first | (apply hT2 <;> (first | assumption | omega | exact Am _ _ | exact A0 _ | exact A1 _ _ | exact Bc _ | rfl | (simp; omega))) | fail) ?_ | fail)
      | refine r_q hG Y Y Y ?_); try exact kk)
    | (show AL _ _ _ _ _ _ _ _; first | refine Bk Y Y Y ?_ | (refine As ?_; first | show AW _ _ _ _ _ _ | show ∃ x', _ < _ ∧ _)) | (show AW _ _ (.seq _ _) _ _ _; refine Ag ?_; intro Q1) | (show AW _ _ (.region _ _ false) _ _ _; refine Ac ?_; intro O1) | (show AW _ _ (.cond _ _ _) _ _ _; first | refine Ao Y ?_ | refine Ap Y ?_) | (show AW _ _ (.skip) _ _ _; refine Aj ?_; first | show AW _ _ _ _ _ _ | show ∃ x', _ < _ ∧ _) | (show AW _ _ (.ret) _ _ _; refine Au ?_; try dsimp only [Az, Ab, A4, Af])
    | (show DL _ _ _ _ _ _ _; refine Bq Y Y (fun K kt kf => Ak hG Y Y Y Y Y kt kf) (fun h => ?_) (fun h => ?_)) | (show DL _ _ _ _ _ _ _; refine Bq Y Y (fun K kt kf => r_str hG Y Y Y Y kt kf) (fun h => ?_) (fun h => ?_)) | (show DL _ _ _ _ _ _ _; refine dl_ne Y Y (fun K kt kf => r_strn hG Y Y Y Y kt kf) (fun h => ?_) (fun h => ?_))
    | (show DL _ _ _ _ _ _ _; refine Br Y Y Y ?_) | (show DL _ _ _ _ _ _ _; refine A9 ?_; first | show AW _ _ _ _ _ _ | show ∃ x', _ < _ ∧ _) | (show AW _ _ (.region _ _ true) _ _ _; refine Aq mix (by kernel_rfl) ?_; intro O1) | fail)
      repeat' (first
    | ((first | (show AL _ _ _ _ _ _ _ _; refine Ae Y ?_) | (show DL _ _ _ _ _ _ _; refine' Aw Y Y (fun K kk => ?_) ?_; try (show Go.Ts.T; rotate_left))); (first
      | (show AOp _ _ ⟨_, .move _, _, _, _, _⟩ _ _ _; refine Ar hG Y Y ?_)
      | (show AOp _ _ ⟨_, .assign _, _, _, _, _⟩ _ _ _; refine A2 hG Y Y ?_)
      | (show AOp _ _ ⟨_, .call ⟨.builtin .len, _, _⟩, _, _, _, _⟩ _ _ _; first | refine Bz hG Y Y Y Y ?_ | refine r_len hG Y Y Y Y Y ?_)
      | (show AOp _ _ ⟨_, .binOp _ _ _ _ _, _, _, _, _⟩ _ _ _; first | refine Ax hG Y Y Y Y Y (by omega) ?_ | refine Ay hG Y Y Y Y Y (by omega) ?_ | refine r_strT hG Y Y Y Y (by first | rfl | assumption) ?_ | refine r_strnF hG Y Y Y Y (by first | rfl | assumption) ?_ | refine r_strF hG Y Y Y Y (by assumption) ?_ | refine r_strnT hG Y Y Y Y (by assumption) ?_ | ((fail_if_success have := kk); refine Ak hG Y Y Y Y Y (fun h => ?_) (fun h => ?_)) | ((fail_if_success have := kk); first | refine r_str hG Y Y Y Y (fun h => ?_) (fun h => ?_) | refine r_strn hG Y Y Y Y (fun h => ?_) (fun h => ?_)))
      | (show AOp _ _ ⟨_, .convert _ _ _, _, _, _, _⟩ _ _ _; first | refine r_tostr hG Y Y Y Y Y Y Y Y (by first | exact Am _ _ | exact A0 _ | rfl) ?_)
      | (show AOp _ _ ⟨_, .slice _ _ _ _ _, _, _, _, _⟩ _ _ _; first | refine Cb hG Y Y Y Y Y Y Y (by omega) ?_ | refine r_sl_hi hG Y Y Y Y Y Y Y (by omega) ?_ | refine op_cut0 hG Y Y Y Y Y Y Y Y Y Y ?_ | refine r_sl hG Y Y ?_)
      | (show AOp _ _ ⟨_, .pick _ _ _, _, _, _, _⟩ _ _ _; refine Ba hG Y Y Y ?_)
      | (show AOp _ _ ⟨_, .unOp _ _ _, _, _, _, _⟩ _ _ _; refine Bm hG Y Y Y ?_)
      | (show AOp _ _ ⟨_, .buildSlice _ _ _, _, _, _, _⟩ _ _ _; first | refine r_mk (sz := 1) hG Y Y Y Y Y Y Y ?_)
      | (show AOp _ _ ⟨_, .call ⟨.builtin .min, _, _⟩, _, _, _, _⟩ _ _ _; first | refine op_minl Y Y Y (by omega) Y Y ?_ | refine op_minr Y Y Y (by omega) Y Y ?_ | refine op_min Y Y Y Y Y ?_)
      | (show AOp _ _ ⟨_, .call ⟨.builtin .append, _, _⟩, _, _, _, _⟩ _ _ _; first | refine B7 (sz := 1) (xs := []) hG Y Y Y Y Y Y Y ⟨_, Y⟩ Y Y Y Y Y Y Y (by first | omega | (simp; omega)) (fun k => ?_) | refine Ca 0 hG Y Y Y Y Y Y Y ⟨_, Y⟩ Y Y Y Y Y (by first | omega | (simp only [List.length_append, List.length_cons, List.length_nil]; omega)) (fun k => ?_) | fail)
      | (show AOp _ _ ⟨_, .call ⟨.value _, _, _⟩, _, _, _, _⟩ _ _ _; first | refine Bp Y Y Y Y Y (by first | (apply hT3 <;> (first | assumption | omega | exact Am _ _ | exact A0 _ | exact A1 _ _ | exact Bc _ | rfl | (simp; omega))) | fail) ?_ | fail)
      | refine r_q hG Y Y Y ?_); try exact kk)
    | (show AL _ _ _ _ _ _ _ _; first | refine Bk Y Y Y ?_ | (refine As ?_; first | show AW _ _ _ _ _ _ | show ∃ x', _ < _ ∧ _)) | (show AW _ _ (.seq _ _) _ _ _; refine Ag ?_; intro Q1) | (show AW _ _ (.region _ _ false) _ _ _; (fail_if_success show AW _ _ (.region 10 _ _) _ _ _); refine Ac ?_; intro O1) | (show AW _ _ (.cond _ _ _) _ _ _; first | refine Ao Y ?_ | refine Ap Y ?_) | (show AW _ _ (.skip) _ _ _; refine Aj ?_; first | show AW _ _ _ _ _ _ | show ∃ x', _ < _ ∧ _) | (show AW _ _ (.ret) _ _ _; refine Au ?_; try dsimp only [Az, Ab, A4, Af])
    | (show DL _ _ _ _ _ _ _; refine Bq Y Y (fun K kt kf => Ak hG Y Y Y Y Y kt kf) (fun h => ?_) (fun h => ?_)) | (show DL _ _ _ _ _ _ _; refine Bq Y Y (fun K kt kf => r_str hG Y Y Y Y kt kf) (fun h => ?_) (fun h => ?_)) | (show DL _ _ _ _ _ _ _; refine dl_ne Y Y (fun K kt kf => r_strn hG Y Y Y Y kt kf) (fun h => ?_) (fun h => ?_))
    | (show DL _ _ _ _ _ _ _; refine Br Y Y Y ?_) | (show DL _ _ _ _ _ _ _; refine A9 ?_; first | show AW _ _ _ _ _ _ | show ∃ x', _ < _ ∧ _) | (show AW _ _ (.region _ _ true) _ _ _; (fail_if_success show AW _ _ (.region 10 _ _) _ _ _); refine Aq mix (by kernel_rfl) ?_; intro O1) | fail)
      repeat' (first
    | ((first | (show AL _ _ _ _ _ _ _ _; refine Ae Y ?_) | (show DL _ _ _ _ _ _ _; refine' Aw Y Y (fun K kk => ?_) ?_; try (show Go.Ts.T; rotate_left))); (first
      | (show AOp _ _ ⟨_, .move _, _, _, _, _⟩ _ _ _; refine Ar hG Y Y ?_)
      | (show AOp _ _ ⟨_, .assign _, _, _, _, _⟩ _ _ _; refine A2 hG Y Y ?_)
      | (show AOp _ _ ⟨_, .call ⟨.builtin .len, _, _⟩, _, _, _, _⟩ _ _ _; first | refine Bz hG Y Y Y Y ?_ | refine r_len hG Y Y Y Y Y ?_)
      | (show AOp _ _ ⟨_, .binOp _ _ _ _ _, _, _, _, _⟩ _ _ _; first | refine Ax hG Y Y Y Y Y (by omega) ?_ | refine Ay hG Y Y Y Y Y (by omega) ?_ | refine r_strT hG Y Y Y Y (by first | rfl | assumption) ?_ | refine r_strnF hG Y Y Y Y (by first | rfl | assumption) ?_ | refine r_strF hG Y Y Y Y (by assumption) ?_ | refine r_strnT hG Y Y Y Y (by assumption) ?_ | ((fail_if_success have := kk); refine Ak hG Y Y Y Y Y (fun h => ?_) (fun h => ?_)) | ((fail_if_success have := kk); first | refine r_str hG Y Y Y Y (fun h => ?_) (fun h => ?_) | refine r_strn hG Y Y Y Y (fun h => ?_) (fun h => ?_)))
      | (show AOp _ _ ⟨_, .convert _ _ _, _, _, _, _⟩ _ _ _; first | refine r_tostr hG Y Y Y Y Y Y Y Y (by first | exact Am _ _ | exact A0 _ | rfl) ?_)
      | (show AOp _ _ ⟨_, .slice _ _ _ _ _, _, _, _, _⟩ _ _ _; first | refine Cb hG Y Y Y Y Y Y Y (by omega) ?_ | refine r_sl_hi hG Y Y Y Y Y Y Y (by omega) ?_ | refine op_cut0 hG Y Y Y Y Y Y Y Y Y Y ?_ | refine r_sl hG Y Y ?_)
      | (show AOp _ _ ⟨_, .pick _ _ _, _, _, _, _⟩ _ _ _; refine Ba hG Y Y Y ?_)
      | (show AOp _ _ ⟨_, .unOp _ _ _, _, _, _, _⟩ _ _ _; refine Bm hG Y Y Y ?_)
      | (show AOp _ _ ⟨_, .buildSlice _ _ _, _, _, _, _⟩ _ _ _; first | refine r_mk (sz := 1) hG Y Y Y Y Y Y Y ?_)
      | (show AOp _ _ ⟨_, .call ⟨.builtin .min, _, _⟩, _, _, _, _⟩ _ _ _; first | refine op_minl Y Y Y (by omega) Y Y ?_ | refine op_minr Y Y Y (by omega) Y Y ?_ | refine op_min Y Y Y Y Y ?_)
      | (show AOp _ _ ⟨_, .call ⟨.builtin .append, _, _⟩, _, _, _, _⟩ _ _ _; first | refine B7 (sz := 1) (xs := []) hG Y Y Y Y Y Y Y ⟨_, Y⟩ Y Y Y Y Y Y Y (by first | omega | (simp; omega)) (fun k => ?_) | refine Ca 0 hG Y Y Y Y Y Y Y ⟨_, Y⟩ Y Y Y Y Y (by first | omega | (simp only [List.length_append, List.length_cons, List.length_nil]; omega)) (fun k => ?_) | fail)
      | (show AOp _ _ ⟨_, .call ⟨.value _, _, _⟩, _, _, _, _⟩ _ _ _; first | refine Bp Y Y Y Y Y (by first | (apply hS <;> (first | assumption | omega | exact Am _ _ | exact A0 _ | exact A1 _ _ | exact Bc _ | rfl | (simp; omega))) | fail) ?_ | fail)
      | refine r_q hG Y Y Y ?_); try exact kk)
    | (show AL _ _ _ _ _ _ _ _; first | refine Bk Y Y Y ?_ | (refine As ?_; first | show AW _ _ _ _ _ _ | show ∃ x', _ < _ ∧ _)) | (show AW _ _ (.seq _ _) _ _ _; refine Ag ?_; intro Q1) | (show AW _ _ (.region _ _ false) _ _ _; refine Ac ?_; intro O1) | (show AW _ _ (.cond _ _ _) _ _ _; first | refine Ao Y ?_ | refine Ap Y ?_) | (show AW _ _ (.skip) _ _ _; refine Aj ?_; first | show AW _ _ _ _ _ _ | show ∃ x', _ < _ ∧ _) | (show AW _ _ (.ret) _ _ _; refine Au ?_; try dsimp only [Az, Ab, A4, Af])
    | (show DL _ _ _ _ _ _ _; refine Bq Y Y (fun K kt kf => Ak hG Y Y Y Y Y kt kf) (fun h => ?_) (fun h => ?_)) | (show DL _ _ _ _ _ _ _; refine Bq Y Y (fun K kt kf => r_str hG Y Y Y Y kt kf) (fun h => ?_) (fun h => ?_)) | (show DL _ _ _ _ _ _ _; refine dl_ne Y Y (fun K kt kf => r_strn hG Y Y Y Y kt kf) (fun h => ?_) (fun h => ?_))
    | (show DL _ _ _ _ _ _ _; refine Br Y Y Y ?_) | (show DL _ _ _ _ _ _ _; refine A9 ?_; first | show AW _ _ _ _ _ _ | show ∃ x', _ < _ ∧ _) | (show AW _ _ (.region _ _ true) _ _ _; refine Aq mix (by kernel_rfl) ?_; intro O1) | fail)
      exact B0 (Bi rfl Bj) (.refl _) rfl
theorem catsBack_law (_W : World) (x : T) (tx : ArgTy G 6 22 x) (y : T) (ty : ArgTy G 6 27 y) (p : Int) (_ : (Lit.int .i64 p).wf = true) (z : T) (tz : ArgTy G 6 27 z) : ACalls Try.prog 4 [x, y, .int .i64 p, z] σ0 (fun r _ => r = .bool true) := by
  obtain ⟨l, rfl, hl⟩ := argTy_cats tx rfl rfl rfl rfl rfl
  obtain ⟨t, rfl, ht⟩ := argTy_bytes ty rfl rfl rfl rfl rfl
  obtain ⟨s, rfl, hs⟩ := argTy_bytes tz rfl rfl rfl rfl rfl
  exact (catsBack_pure hl ht hs (fun _ _ => False)).mono fun _ _ h => h.1
end Go.Proofs.Ytnmpgipfbbilbaa
