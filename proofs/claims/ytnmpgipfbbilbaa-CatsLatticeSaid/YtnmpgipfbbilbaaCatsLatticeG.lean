/- Part of the proof of the law CatsLattice: the texts TsXF, TsXG, TsXH, XM1, TsXI, TsXJ, CB, TsJ, CX. No conditions. -/
import Derived.Test.YtnmpgipfbbilbaaCatsLatticeF
import Derived.KernelRfl
set_option linter.unusedSimpArgs false
set_option linter.unusedVariables false
set_option linter.unusedVariables false
set_option linter.unusedSimpArgs false
namespace Go.Ts

abbrev CallF := FuncId → List T → HS → Option (T × HS)
def okOp (N : Nat) (o : Oper) : Bool := Bh N o.dst && (!isMk o.op || o.dst.isSome)

def runOps (G : Nat → Option TI) (lv : Nat → Bool) (callF : CallF) (all : List Oper) (N : Nat) : List Oper → Tr T → HS → Option (Tr T × HS)
  | [], e, h => some (e, h)
  | o :: os, e, h => cond (okOp N o) (match guardX all e o with
    | some true => match opX G lv callF e h o.op with
      | some (t, h') => runOps G lv callF all N os (putX e o.dst t) h'
      | none => none
    | some false => runOps G lv callF all N os (putX e o.dst (.tup [])) h
    | none => none) none

def userOf (ops : Array Oper) (d : Nat) : Nat → List Oper → Option Nat
  | _, [] => none
  | i, o :: os => cond (memB d (B4 ops o)) (some i) (userOf ops d (i + 1) os)
def usersOK (ops : Array Oper) (ms : List Nat) (d u : Nat) : Nat → List Oper → Bool
  | _, [] => true
  | i, o :: os => (!memB d (B4 ops o) || Nat.beq i u || fm ms i u) && usersOK ops ms d u (i + 1) os
def notAlloc : Op → Bool
  | .alloc _ => false
  | _ => true
def flX (lv : Nat → Bool) (os : List Oper) (ms : List Nat) (j : Nat) (o : Oper) : Option Nat :=
  match o with
  | ⟨some d, .alloc _, _, _, _, none⟩ => match userOf ⟨os⟩ d 0 os with
    | some u => match os[u]? with
      | some p => cond (Nat.blt j u && fm ms u j && isEff lv p.op && notAlloc p.op && usersOK ⟨os⟩ ms d u 0 os) (some u) none
      | none => none
    | none => none
  | _ => none
def flsX (lv : Nat → Bool) (all : List Oper) (ms : List Nat) : Nat → List Oper → List (Nat × Nat)
  | _, [] => []
  | j, o :: os => match flX lv all ms j o with
    | some u => (j, u) :: flsX lv all ms (j + 1) os
    | none => flsX lv all ms (j + 1) os
def flAt : List (Nat × Nat) → Nat → Option Nat
  | [], _ => none
  | (j, u) :: l, k => cond (Nat.beq j k) (some u) (flAt l k)
def bitX (m k : Nat) : Bool := Nat.beq (Nat.land 1 (Nat.shiftRight m k)) 1
def efMask (lv : Nat → Bool) (fls : List (Nat × Nat)) : Nat → List Oper → Nat
  | _, [] => 0
  | i, o :: os => cond (isEff lv o.op && (flAt fls i).isNone) (Nat.lor (2 ^ i) (efMask lv fls (i + 1) os)) (efMask lv fls (i + 1) os)
def regsOf (fls : List (Nat × Nat)) (u : Nat) : List Nat := (fls.filter fun p => Nat.beq p.2 u).map Prod.fst
def writers : Nat → List Oper → List (Nat × Nat)
  | _, [] => []
  | j, o :: os => match o.dst with
    | some s => (s, j) :: writers (j + 1) os
    | none => writers (j + 1) os
def fastOK (ops : Array Oper) (ms : List Nat) (efm : Nat) (W : List (Nat × Nat)) : Nat → Nat → List Oper → Bool
  | _, _, [] => true
  | i, dm, o :: os => (o.after.toList.all fun e => !Region.binds .any e || Nat.blt e.on i) &&
      (cond (bitX efm i) (Nat.beq (Nat.land (efm % 2 ^ i) (ms.getD i 0)) (efm % 2 ^ i)) true &&
      ((match o.dst with
        | some s => !bitX dm s
        | none => true) &&
      (((B4 ops o).all fun s => match flAt W s with
        | some j => Nat.beq j i || cond (Nat.blt j i) (bitX (ms.getD i 0) j) (bitX (ms.getD j 0) i)
        | none => true) &&
      fastOK ops ms efm W (i + 1) (match o.dst with
        | some s => Nat.lor dm (2 ^ s)
        | none => dm) os)))
def regX (G : Nat → Option TI) (os : List Oper) : List Nat → Tr T → HS → Option (Tr T × HS)
  | [], e, h => some (e, h)
  | j :: js, e, h => match os[j]? with
    | some ⟨some d, .alloc ty, _, _, _, _⟩ => match G ty with
      | some ti => regX G os js (e.set d (.ptr h.nx 0)) (h.new (thOf ti.tree.cells))
      | none => none
    | _ => none
def rsF : List Nat → Nat → Nat → T
  | [], _, _ => .nilp
  | k :: ks, nx, j => cond (Nat.beq k j) (.ptr nx 0) (rsF ks (nx + 1) j)

structure Rec where
  e : Tr T
  h : HS
  e1 : Tr T
  h1 : HS
  r : Tr T
  t : T
  g : Bool
def runD (G : Nat → Option TI) (lv : Nat → Bool) (callF : CallF) (all : List Oper) (fls : List (Nat × Nat)) (N : Nat) : Nat → List Oper → Tr T → HS → Option (List Rec × Tr T × HS)
  | _, [], e, h => some ([], e, h)
  | i, o :: os, e, h => cond (okOp N o) (match flAt fls i with
    | some _ => match o.dst with
      | some d => match runD G lv callF all fls N (i + 1) os (e.del d) h with
        | some (rs, e2, h2) => some (⟨e, h, e, h, .leaf, .nilp, true⟩ :: rs, e2, h2)
        | none => none
      | none => none
    | none => match regX G all (regsOf fls i) e h with
      | some (e1, h1) => match guardX all (fromEnv (restrL e1 (B4 ⟨all⟩ o))) o with
        | some true => match opX G lv callF (fromEnv (restrL e1 (B4 ⟨all⟩ o))) h1 o.op with
          | some (t, h') => match runD G lv callF all fls N (i + 1) os (putX e1 o.dst t) h' with
            | some (rs, e2, h2) => some (⟨e, h, e1, h1, fromEnv (restrL e1 (B4 ⟨all⟩ o)), t, true⟩ :: rs, e2, h2)
            | none => none
          | none => none
        | some false => match runD G lv callF all fls N (i + 1) os (putX e1 o.dst (.tup [])) h1 with
          | some (rs, e2, h2) => some (⟨e, h, e1, h1, fromEnv (restrL e1 (B4 ⟨all⟩ o)), .tup [], false⟩ :: rs, e2, h2)
          | none => none
        | none => none
      | none => none) none
def ceOf (recs : List Rec) (e2 : Tr T) (i : Nat) : Tr T := match recs[i]? with
  | some r => r.e
  | none => e2
def chOf (recs : List Rec) (h2 : HS) (i : Nat) : HS := match recs[i]? with
  | some r => r.h
  | none => h2
def cpOf (recs : List Rec) (e2 : Tr T) (i : Nat) : Tr T := match recs[i]? with
  | some r => r.e1
  | none => e2
def cqOf (recs : List Rec) (h2 : HS) (i : Nat) : HS := match recs[i]? with
  | some r => r.h1
  | none => h2
def rsOf (recs : List Rec) (h2 : HS) (fls : List (Nat × Nat)) (i : Nat) : T := match flAt fls i with
  | some u => rsF (regsOf fls u) (chOf recs h2 u).nx i
  | none => match recs[i]? with
    | some r => r.t
    | none => .nilp

def freeX (G : Nat → Option TI) (r : Tr T) (op : Op) : Bool := (Bx G (fun _ => none) (evX r) op).isSome || (immX G r op).isSome
def compatB (efm : Nat) (efl : List Nat) (ms : List Nat) (i p : Nat) : Bool := Nat.beq (Nat.shiftRight (Nat.land (ms.getD i 0) efm) p) 0 && efl.all fun k => !bitX (ms.getD k 0) i || Nat.ble p k
def qchk1 (G : Nat → Option TI) (efm : Nat) (efl : List Nat) (ms : List Nat) (fls : List (Nat × Nat)) (recs : List Rec) (h2 : HS) (i : Nat) (o : Oper) (r : Rec) : Bool :=
  bitX efm i || ((flAt fls i).isSome || (!r.g || (freeX G r.r o.op || (0 :: efl.map (· + 1)).all fun p => !compatB efm efl ms i p || (match heapX G r.r (chOf recs h2 p) o.op with
    | some t => beqT t r.t
    | none => false))))
def qchk (G : Nat → Option TI) (efm : Nat) (efl : List Nat) (ms : List Nat) (fls : List (Nat × Nat)) (recs : List Rec) (h2 : HS) : Nat → List Oper → List Rec → Bool
  | i, o :: os, r :: rs => qchk1 G efm efl ms fls recs h2 i o r && qchk G efm efl ms fls recs h2 (i + 1) os rs
  | _, [], _ => true
  | _, _ :: _, [] => false
def eflX (efm n : Nat) : List Nat := (List.range n).filter (bitX efm)
def drawW (G : Nat → Option TI) (lv : Nat → Bool) (callF : CallF) (N : Nat) (os : List Oper) (ms : List Nat) (fls : List (Nat × Nat)) (efm : Nat) (e : Tr T) (h : HS) : Option (Tr T × HS) :=
  cond (fastOK ⟨os⟩ ms efm (writers 0 os) 0 0 os) (match runD G lv callF os fls N 0 os e h with
    | some (recs, e2, h2) => cond (qchk G efm (eflX efm os.length) ms fls recs h2 0 os recs) (some (e2, h2)) none
    | none => none) none
def drawX (G : Nat → Option TI) (lv : Nat → Bool) (callF : CallF) (N : Nat) (os : List Oper) (e : Tr T) (h : HS) : Option (Tr T × HS) :=
  drawW G lv callF N os (masks os []) (flsX lv os (masks os []) 0 os) (efMask lv (flsX lv os (masks os []) 0 os) 0 os) e h

section
variable {P : Program} {G : Nat → Option TI} {lv : Nat → Bool} {callF : CallF} {N : Nat}

theorem opX_sound (hG : Fits P G) (hcall : CallsOK P callF) {o : Oper} {σ : St} {a : Env} {e : Tr T} {h h' : HS} {t : T} {K : Env → St → Prop} (hx : opX G lv callF e h o.op = some (t, h')) (c : HCov σ h) (ce : CovE a e) (ho : okOp N o = true)
    (k : ∀ σ', HCov σ' h' → K (put a o.dst t) σ') : AOp P N o a σ K := by
  unfold okOp at ho
  rw [Bool.and_eq_true, Bool.or_eq_true, Bool.not_eq_true'] at ho
  unfold opX at hx
  cases he : isEff lv o.op with
  | true =>
    rw [he, cond_true] at hx
    exact effX_sound hG hcall hx c ce ho.1 ho.2 k
  | false =>
    rw [he, cond_false] at hx
    split at hx
    · rename_i t' ht
      injection hx with hx; injection hx with h1 h2; subst h1; subst h2
      exact quietX_sound hG ht c ce ho.1 (k σ c)
    · cases hx

theorem runOps_sound (hG : Fits P G) (hcall : CallsOK P callF) {all : List Oper} : ∀ (os : List Oper) (k : Nat) (e : Tr T) (h : HS) (e2 : Tr T) (h2 : HS) (a : Env) (σ : St), runOps G lv callF all N os e h = some (e2, h2) → all.drop k = os → CovE a e → HCov σ h →
    AOps P N ⟨all⟩ (fun y a' σ' => y = .normal ∧ CovE a' e2 ∧ HCov σ' h2) (List.range' k os.length) a σ
  | [], k, e, h, e2, h2, a, σ, hx, hk, ce, c => by
    simp [runOps] at hx
    obtain ⟨rfl, rfl⟩ := hx
    exact aops_nil ⟨rfl, ce, c⟩
  | o :: os, k, e, h, e2, h2, a, σ, hx, hk, ce, c => by
    have hok : okOp N o = true := by
      cases hb : okOp N o with
      | true => rfl
      | false => simp only [runOps, hb, cond_false] at hx; cases hx
    simp only [runOps, hok, cond_true] at hx
    obtain ⟨ho, hk'⟩ := al_get (ops := ⟨all⟩) hk
    rw [List.length_cons, List.range'_succ]
    split at hx
    · rename_i hg
      split at hx
      · rename_i t h' hop
        refine aops_cons ho (ce.guard hg) (opX_sound hG hcall hop c ce hok fun σ' c' => ?_)
        exact runOps_sound hG hcall os (k + 1) _ _ _ _ _ _ hx hk' (ce.put _ _) c'
      · cases hx
    · rename_i hg
      refine aops_skip ho (ce.guard hg) (by unfold okOp at hok; rw [Bool.and_eq_true] at hok; exact hok.1) ?_
      exact runOps_sound hG hcall os (k + 1) _ _ _ _ _ _ hx hk' (ce.put _ _) c
    · cases hx

theorem bitX_eq (m k : Nat) : bitX m k = Nat.testBit m k := by
  have h1 : Nat.land 1 (Nat.shiftRight m k) = (m >>> k) % 2 := Nat.one_and_eq_mod_two _
  unfold bitX
  rw [h1, Nat.testBit_eq_decide_div_mod_eq, Nat.shiftRight_eq_div_pow]
  cases hb : decide (m / 2 ^ k % 2 = 1) with
  | true => rw [decide_eq_true_eq] at hb; rw [hb]; rfl
  | false => rw [decide_eq_false_iff_not] at hb; exact beqF hb
theorem flsX_ge {lv : Nat → Bool} {all : List Oper} {ms : List Nat} : ∀ (os : List Oper) (j0 : Nat) (p : Nat × Nat), p ∈ flsX lv all ms j0 os → j0 ≤ p.1 ∧ ∃ o, os[p.1 - j0]? = some o ∧ flX lv all ms p.1 o = some p.2
  | [], j0, p, h => by simp [flsX] at h
  | o :: os, j0, p, h => by
    have old : p ∈ flsX lv all ms (j0 + 1) os → j0 ≤ p.1 ∧ ∃ o', (o :: os)[p.1 - j0]? = some o' ∧ flX lv all ms p.1 o' = some p.2 := by
      intro h
      obtain ⟨h1, o', h2, h3⟩ := flsX_ge os (j0 + 1) p h
      exact ⟨by omega, o', by rw [show p.1 - j0 = (p.1 - (j0 + 1)) + 1 by omega]; simpa using h2, h3⟩
    simp only [flsX] at h
    split at h
    · rename_i u hu
      rcases List.mem_cons.1 h with rfl | h
      · exact ⟨Nat.le_refl _, o, by simp, hu⟩
      · exact old h
    · exact old h
theorem flsX_mem {lv : Nat → Bool} {all : List Oper} {ms : List Nat} : ∀ (os : List Oper) (j0 j u : Nat) (o : Oper), os[j]? = some o → flX lv all ms (j0 + j) o = some u → (j0 + j, u) ∈ flsX lv all ms j0 os
  | [], j0, j, u, o, h, _ => by simp at h
  | q :: os, j0, 0, u, o, h, hf => by
    simp at h; subst h
    simp only [flsX]
    rw [show j0 + 0 = j0 from rfl] at hf
    rw [hf]; simp
  | q :: os, j0, j + 1, u, o, h, hf => by
    have := flsX_mem os (j0 + 1) j u o (by simpa using h) (by rw [show j0 + 1 + j = j0 + (j + 1) by omega]; exact hf)
    rw [show j0 + 1 + j = j0 + (j + 1) by omega] at this
    simp only [flsX]
    split
    · exact List.mem_cons_of_mem _ this
    · exact this
theorem flsX_nodup {lv : Nat → Bool} {all : List Oper} {ms : List Nat} : ∀ (os : List Oper) (j0 : Nat), ((flsX lv all ms j0 os).map Prod.fst).Nodup
  | [], j0 => by simp [flsX]
  | o :: os, j0 => by
    simp only [flsX]
    split
    · rw [List.map_cons, List.nodup_cons]
      refine ⟨fun h => ?_, flsX_nodup os (j0 + 1)⟩
      obtain ⟨p, hp, he⟩ := List.mem_map.1 h
      have := (flsX_ge os (j0 + 1) p hp).1
      simp only at he; omega
    · exact flsX_nodup os (j0 + 1)
theorem flAt_mem : ∀ {l : List (Nat × Nat)} {j u : Nat}, flAt l j = some u → (j, u) ∈ l
  | [], j, u, h => by simp [flAt] at h
  | (k, v) :: l, j, u, h => by
    simp only [flAt] at h
    by_cases e : k = j
    · subst e; simp at h; subst h; simp
    · rw [beqF e, cond_false] at h; exact List.mem_cons_of_mem _ (flAt_mem h)
theorem mem_flAt : ∀ {l : List (Nat × Nat)} {j u : Nat}, (l.map Prod.fst).Nodup → (j, u) ∈ l → flAt l j = some u
  | [], j, u, _, h => by simp at h
  | (k, v) :: l, j, u, hn, h => by
    rw [List.map_cons, List.nodup_cons] at hn
    simp only [flAt]
    rcases List.mem_cons.1 h with h | h
    · injection h with h1 h2; subst h1; subst h2; simp
    · have : k ≠ j := by rintro rfl; exact hn.1 (List.mem_map.2 ⟨_, h, rfl⟩)
      rw [beqF this, cond_false]; exact mem_flAt hn.2 h
theorem flAt_of {lv : Nat → Bool} {os : List Oper} {j u : Nat} (h : flAt (flsX lv os (masks os []) 0 os) j = some u) : ∃ o, os[j]? = some o ∧ flX lv os (masks os []) j o = some u := by
  obtain ⟨_, o, h2, h3⟩ := flsX_ge _ _ _ (flAt_mem h)
  exact ⟨o, by simpa using h2, h3⟩
theorem flAt_eq {lv : Nat → Bool} {os : List Oper} {j : Nat} {o : Oper} (ho : os[j]? = some o) : flAt (flsX lv os (masks os []) 0 os) j = flX lv os (masks os []) j o := by
  cases h : flX lv os (masks os []) j o with
  | some u =>
    have := flsX_mem (lv := lv) (all := os) (ms := masks os []) os 0 j u o ho (by rw [Nat.zero_add]; exact h)
    rw [Nat.zero_add] at this
    exact mem_flAt (flsX_nodup _ _) this
  | none =>
    cases h2 : flAt (flsX lv os (masks os []) 0 os) j with
    | none => rfl
    | some u =>
      obtain ⟨o', h3, h4⟩ := flAt_of h2
      rw [ho] at h3; injection h3 with h3; subst h3
      rw [h] at h4; cases h4
theorem efMask_bit {lv : Nat → Bool} {fls : List (Nat × Nat)} : ∀ (os : List Oper) (i k : Nat), Nat.testBit (efMask lv fls i os) k = true ↔ i ≤ k ∧ ∃ o, os[k - i]? = some o ∧ isEff lv o.op = true ∧ flAt fls k = none
  | [], i, k => by simp [efMask]
  | o :: os, i, k => by
    have ih := efMask_bit (lv := lv) (fls := fls) os (i + 1) k
    have step : (i + 1 ≤ k ∧ ∃ o', os[k - (i + 1)]? = some o' ∧ isEff lv o'.op = true ∧ flAt fls k = none) ↔ i < k ∧ ∃ o', (o :: os)[k - i]? = some o' ∧ isEff lv o'.op = true ∧ flAt fls k = none := by
      constructor
      · rintro ⟨h1, o', h2, h3⟩
        exact ⟨h1, o', by rw [show k - i = (k - (i + 1)) + 1 by omega]; simpa using h2, h3⟩
      · rintro ⟨h1, o', h2, h3⟩
        exact ⟨h1, o', by rw [show k - i = (k - (i + 1)) + 1 by omega] at h2; simpa using h2, h3⟩
    rw [step] at ih
    simp only [efMask]
    cases hc : (isEff lv o.op && (flAt fls i).isNone) with
    | true =>
      rw [cond_true, show Nat.lor (2 ^ i) (efMask lv fls (i + 1) os) = 2 ^ i ||| efMask lv fls (i + 1) os from rfl, Nat.testBit_or, Nat.testBit_two_pow, Bool.or_eq_true, decide_eq_true_eq, ih]
      rw [Bool.and_eq_true, Option.isNone_iff_eq_none] at hc
      constructor
      · rintro (rfl | ⟨h1, h2⟩)
        · exact ⟨Nat.le_refl _, o, by simp, hc.1, hc.2⟩
        · exact ⟨by omega, h2⟩
      · rintro ⟨h1, h2⟩
        by_cases e : i = k
        · exact .inl e
        · exact .inr ⟨by omega, h2⟩
    | false =>
      rw [cond_false, ih]
      constructor
      · rintro ⟨h1, h2⟩; exact ⟨by omega, h2⟩
      · rintro ⟨h1, o', h2, h3, h4⟩
        by_cases e : i = k
        · subst e
          simp at h2; subst h2
          rw [h3, h4] at hc; simp at hc
        · exact ⟨by omega, o', h2, h3, h4⟩
theorem stat2_mk {ops : Array Oper} {ms : List Nat} {ef : Nat → Bool} {i : Nat} {o : Oper} : ∀ {j0 : Nat} {ps : List Oper}, (∀ (j : Nat) (p : Oper), ps[j]? = some p → pairX ops ms ef i (j0 + j) o p = true) → stat2 ops ms ef i o j0 ps = true
  | j0, [], h => rfl
  | j0, q :: ps, h => by
    rw [stat2, Bool.and_eq_true]
    refine ⟨by simpa using h 0 q rfl, stat2_mk fun j p hp => ?_⟩
    rw [show j0 + 1 + j = j0 + (j + 1) by omega]; exact h (j + 1) p (by simpa using hp)
theorem stat1_mk {ops : Array Oper} {ms : List Nat} {ef : Nat → Bool} {all : List Oper} : ∀ {i0 : Nat} {os : List Oper}, (∀ (i : Nat) (o : Oper), os[i]? = some o → (∀ e ∈ o.after.toList, Region.binds .any e = true → e.on < i0 + i) ∧ ∀ (j : Nat) (p : Oper), all[j]? = some p → pairX ops ms ef (i0 + i) j o p = true) → stat1 ops ms ef all i0 os = true
  | i0, [], h => rfl
  | i0, q :: os, h => by
    rw [stat1, Bool.and_eq_true, Bool.and_eq_true]
    refine ⟨⟨?_, stat2_mk fun j p hp => by simpa using (h 0 q rfl).2 j p hp⟩, stat1_mk fun i o ho => ?_⟩
    · rw [List.all_eq_true]
      intro e he
      cases hb : Region.binds .any e with
      | false => rfl
      | true => rw [Bool.not_true, Bool.false_or, Nat.blt_eq]; exact (h 0 q rfl).1 e he hb
    · rw [show i0 + 1 + i = i0 + (i + 1) by omega]; exact h (i + 1) o (by simpa using ho)
theorem writers_mem : ∀ (os : List Oper) (j0 : Nat) (s k : Nat), (s, k) ∈ writers j0 os ↔ j0 ≤ k ∧ ∃ o, os[k - j0]? = some o ∧ o.dst = some s
  | [], j0, s, k => by simp [writers]
  | o :: os, j0, s, k => by
    have ih := writers_mem os (j0 + 1) s k
    have step : (j0 + 1 ≤ k ∧ ∃ o', os[k - (j0 + 1)]? = some o' ∧ o'.dst = some s) ↔ j0 < k ∧ ∃ o', (o :: os)[k - j0]? = some o' ∧ o'.dst = some s := by
      constructor
      · rintro ⟨h1, o', h2, h3⟩
        exact ⟨h1, o', by rw [show k - j0 = (k - (j0 + 1)) + 1 by omega]; simpa using h2, h3⟩
      · rintro ⟨h1, o', h2, h3⟩
        exact ⟨h1, o', by rw [show k - j0 = (k - (j0 + 1)) + 1 by omega] at h2; simpa using h2, h3⟩
    rw [step] at ih
    simp only [writers]
    cases hd : o.dst with
    | some d =>
      simp only [List.mem_cons, Prod.mk.injEq]
      rw [ih]
      constructor
      · rintro (⟨rfl, rfl⟩ | ⟨h1, h2⟩)
        · exact ⟨Nat.le_refl _, o, by simp, hd⟩
        · exact ⟨by omega, h2⟩
      · rintro ⟨h1, o', h2, h3⟩
        by_cases e : k = j0
        · subst e
          simp at h2; subst h2
          rw [hd] at h3; injection h3 with h3; exact .inl ⟨h3.symm, rfl⟩
        · exact .inr ⟨by omega, o', h2, h3⟩
    | none =>
      simp only
      rw [ih]
      constructor
      · rintro ⟨h1, h2⟩; exact ⟨by omega, h2⟩
      · rintro ⟨h1, o', h2, h3⟩
        by_cases e : k = j0
        · subst e
          simp at h2; subst h2
          rw [hd] at h3; cases h3
        · exact ⟨by omega, o', h2, h3⟩
theorem flAt_some : ∀ {l : List (Nat × Nat)} {j u : Nat}, (j, u) ∈ l → ∃ v, flAt l j = some v
  | [], j, u, h => by simp at h
  | (k, v) :: l, j, u, h => by
    simp only [flAt]
    by_cases e : k = j
    · subst e; exact ⟨v, by simp⟩
    · rw [beqF e, cond_false]
      rcases List.mem_cons.1 h with h | h
      · injection h with h1 h2; exact absurd h1.symm e
      · exact flAt_some h
structure FastAt (ops : Array Oper) (ms : List Nat) (efm : Nat) (W : List (Nat × Nat)) (i dm : Nat) (o : Oper) : Prop where
  edge : ∀ e ∈ o.after.toList, Region.binds .any e = true → e.on < i
  eff : bitX efm i = true → Nat.land (efm % 2 ^ i) (ms.getD i 0) = efm % 2 ^ i
  dst : ∀ s, o.dst = some s → bitX dm s = false
  look : ∀ s, s ∈ B4 ops o → ∀ j, flAt W s = some j → j = i ∨ (j < i → bitX (ms.getD i 0) j = true) ∧ (¬ j < i → bitX (ms.getD j 0) i = true)
theorem fastOK_at {ops : Array Oper} {ms : List Nat} {efm : Nat} {W : List (Nat × Nat)} : ∀ {i0 dm : Nat} {os : List Oper}, fastOK ops ms efm W i0 dm os = true → ∀ (i : Nat) (o : Oper), os[i]? = some o →
    ∃ dm', FastAt ops ms efm W (i0 + i) dm' o ∧ (∀ s, bitX dm s = true → bitX dm' s = true) ∧ ∀ (j : Nat) (p : Oper) (s : Nat), j < i → os[j]? = some p → p.dst = some s → bitX dm' s = true
  | i0, dm, [], h, i, o, ho => by simp at ho
  | i0, dm, q :: os, h, i, o, ho => by
    simp only [fastOK, Bool.and_eq_true] at h
    obtain ⟨h1, h2, h3, h4, h5⟩ := h
    cases i with
    | zero =>
      simp at ho; subst ho
      refine ⟨dm, ⟨fun e he hb => ?_, fun he => ?_, fun s hs => ?_, fun s hs j hj => ?_⟩, fun s h => h, fun j p s hj => by omega⟩
      · have := List.all_eq_true.1 h1 e he
        rw [hb, Bool.not_true, Bool.false_or, Nat.blt_eq] at this; exact this
      · rw [Nat.add_zero] at he
        rw [he, cond_true] at h2
        exact Nat.eq_of_beq_eq_true h2
      · rw [hs] at h3
        simpa using h3
      · have := List.all_eq_true.1 h4 s hs
        rw [hj] at this
        simp only [Bool.or_eq_true] at this
        rcases this with h | h
        · exact .inl (Nat.eq_of_beq_eq_true h)
        · right
          constructor
          · intro hlt
            rw [show Nat.blt j i0 = true by rw [Nat.blt_eq]; exact hlt, cond_true] at h; exact h
          · intro hge
            have : Nat.blt j i0 = false := by
              cases hb : Nat.blt j i0 with
              | false => rfl
              | true => rw [Nat.blt_eq] at hb; exact absurd hb hge
            rw [this, cond_false] at h; exact h
    | succ i =>
      obtain ⟨dm', k1, k2, k3⟩ := fastOK_at h5 i o (by simpa using ho)
      have hmono : ∀ s, bitX dm s = true → bitX (match q.dst with | some s => Nat.lor dm (2 ^ s) | none => dm) s = true := by
        intro s hs
        split
        · rw [bitX_eq] at hs ⊢
          rw [show Nat.lor dm (2 ^ _) = dm ||| 2 ^ _ from rfl, Nat.testBit_or, hs]; rfl
        · exact hs
      refine ⟨dm', by rw [show i0 + 1 + i = i0 + (i + 1) by omega] at k1; exact k1, fun s hs => k2 s (hmono s hs), fun j p s hj hp hs => ?_⟩
      cases j with
      | zero =>
        simp at hp; subst hp
        refine k2 s ?_
        rw [hs]
        simp only
        rw [bitX_eq, show Nat.lor dm (2 ^ s) = dm ||| 2 ^ s from rfl, Nat.testBit_or, Nat.testBit_two_pow]; simp
      | succ j => exact k3 j p s (by omega) (by simpa using hp) hs
theorem fast_stat {os : List Oper} {efm : Nat} (h : fastOK ⟨os⟩ (masks os []) efm (writers 0 os) 0 0 os = true) : statOK (bitX efm) os = true := by
  have hat := fun i o ho => fastOK_at h i o ho
  have ssa : ∀ (i j : Nat) (o p : Oper) (s : Nat), os[i]? = some o → os[j]? = some p → o.dst = some s → p.dst = some s → i = j := by
    have lt : ∀ (i j : Nat) (o p : Oper) (s : Nat), os[i]? = some o → os[j]? = some p → o.dst = some s → p.dst = some s → ¬ j < i := by
      intro i j o p s ho hp hos hps hlt
      obtain ⟨dm', k1, _, k3⟩ := hat i o ho
      have h1 := k3 j p s hlt hp hps
      rw [k1.dst s hos] at h1; cases h1
    intro i j o p s ho hp hos hps
    have h1 := lt i j o p s ho hp hos hps
    have h2 := lt j i p o s hp ho hps hos
    omega
  refine stat1_mk fun i o ho => ?_
  obtain ⟨dm', k1, k2, k3⟩ := hat i o ho
  rw [Nat.zero_add] at k1 ⊢
  refine ⟨k1.edge, fun j p hp => ?_⟩
  unfold pairX
  rw [Bool.and_eq_true]
  constructor
  · cases hc : (bitX efm i && bitX efm j && Nat.blt j i) with
    | false => rfl
    | true =>
      rw [Bool.and_eq_true, Bool.and_eq_true, Nat.blt_eq] at hc
      rw [cond_true]
      have h1 := k1.eff hc.1.1
      have h2 : Nat.testBit (efm % 2 ^ i) j = true := by
        rw [Nat.testBit_mod_two_pow]; simp only [bitX_eq] at hc; simp [hc.2, hc.1.2]
      rw [← h1, show Nat.land (efm % 2 ^ i) ((masks os []).getD i 0) = efm % 2 ^ i &&& (masks os []).getD i 0 from rfl, Nat.testBit_and, Bool.and_eq_true] at h2
      exact h2.2
  · split
    · rfl
    · rename_i s hs
      rw [Bool.and_eq_true]
      constructor
      · cases hij : Nat.beq i j with
        | true => rfl
        | false =>
          rw [Bool.false_or, Bool.not_eq_true']
          split
          · rename_i s' hs'
            refine beqF ?_
            rintro rfl
            have := ssa i j o p s ho hp hs' hs
            subst this; simp at hij
          · rfl
      · cases hm : memB s (B4 ⟨os⟩ o) with
        | false => rfl
        | true =>
          rw [Bool.not_true, Bool.false_or]
          obtain ⟨v, hv⟩ := flAt_some ((writers_mem os 0 s j).2 ⟨Nat.zero_le _, p, by simpa using hp, hs⟩)
          obtain ⟨_, p', hp', hs'⟩ := (writers_mem os 0 s v).1 (flAt_mem hv)
          rw [Nat.sub_zero] at hp'
          obtain rfl := ssa v j p' p s hp' hp hs' hs
          rcases k1.look s (memB_iff.1 hm) v hv with e | ⟨e1, e2⟩
          · subst e
            have : Nat.blt v v = false := by cases hb : Nat.blt v v with | false => rfl | true => rw [Nat.blt_eq] at hb; omega
            rw [this]; rfl
          · cases hb : Nat.blt v i with
            | true =>
              rw [Nat.blt_eq] at hb
              rw [cond_true]; have := e1 hb; rw [bitX_eq] at this; exact this
            | false =>
              have hge : ¬ v < i := fun h => by rw [← Nat.blt_eq, hb] at h; cases h
              rw [cond_false]
              cases Nat.blt i v with
              | false => rfl
              | true => rw [cond_true]; have := e2 hge; rw [bitX_eq] at this; exact this
theorem usersOK_at {ops : Array Oper} {ms : List Nat} {d u : Nat} : ∀ {i0 : Nat} {os : List Oper}, usersOK ops ms d u i0 os = true → ∀ (i : Nat) (p : Oper), os[i]? = some p → d ∈ B4 ops p → i0 + i = u ∨ fm ms (i0 + i) u = true
  | i0, [], h, i, p, hp => by simp at hp
  | i0, q :: os, h, i, p, hp => by
    simp only [usersOK, Bool.and_eq_true] at h
    cases i with
    | zero =>
      simp at hp; subst hp
      intro hd
      have h1 := h.1
      rw [memB_of hd, Bool.not_true, Bool.false_or, Bool.or_eq_true] at h1
      exact h1.imp (fun h => Nat.eq_of_beq_eq_true h) id
    | succ i =>
      have := usersOK_at h.2 i p (by simpa using hp)
      rwa [show i0 + 1 + i = i0 + (i + 1) by omega] at this
theorem flOK_of {lv : Nat → Bool} {os : List Oper} : FlOK os (bitX (efMask lv (flsX lv os (masks os []) 0 os) 0 os)) (flAt (flsX lv os (masks os []) 0 os)) := by
  have key : ∀ j u, flAt (flsX lv os (masks os []) 0 os) j = some u → ∃ o d ty p, os[j]? = some o ∧ o.dst = some d ∧ o.op = .alloc ty ∧ o.guard = none ∧ os[u]? = some p ∧ j < u ∧ fm (masks os []) u j = true ∧ isEff lv p.op = true ∧ notAlloc p.op = true ∧ usersOK ⟨os⟩ (masks os []) d u 0 os = true := by
    intro j u h
    obtain ⟨o, ho, hf⟩ := flAt_of h
    unfold flX at hf
    split at hf
    · rename_i d ty t1 t2 t3
      split at hf
      · rename_i u' hu'
        split at hf
        · rename_i p hp
          revert hf
          cases hc : (Nat.blt j u' && fm (masks os []) u' j && isEff lv p.op && notAlloc p.op && usersOK ⟨os⟩ (masks os []) d u' 0 os) with
          | false => intro hf; cases hf
          | true =>
            intro hf
            injection hf with hf; subst hf
            simp only [Bool.and_eq_true] at hc
            obtain ⟨⟨⟨⟨c1, c2⟩, c3⟩, c4⟩, c5⟩ := hc
            rw [Nat.blt_eq] at c1
            exact ⟨_, d, ty, p, ho, rfl, rfl, rfl, hp, c1, c2, c3, c4, c5⟩
        · cases hf
      · cases hf
    · cases hf
  have na : ∀ u p, os[u]? = some p → notAlloc p.op = true → flAt (flsX lv os (masks os []) 0 os) u = none := by
    intro u p hp hn
    rw [flAt_eq hp]
    unfold flX
    split
    · simp [notAlloc] at hn
    · rfl
  refine ⟨fun j u h => ?_, fun j u o d i p h ho hd hp hl => ?_, fun j u h => ?_, fun j u h => ?_⟩
  · obtain ⟨o, d, ty, p, h1, h2, h3, h4, _⟩ := key j u h
    exact ⟨o, d, ty, h1, h2, h3, h4⟩
  · obtain ⟨o', d', ty, q, h1, h2, h3, h4, h5, h6, h7, h8, h9, h10⟩ := key j u h
    rw [ho] at h1; injection h1 with h1; subst h1
    rw [hd] at h2; injection h2 with h2; subst h2
    simpa using usersOK_at h10 i p hp hl
  · obtain ⟨o', d', ty, q, h1, h2, h3, h4, h5, h6, h7, h8, h9, h10⟩ := key j u h
    refine ⟨h7, h6, ?_, na u q h5 h9⟩
    rw [bitX_eq]
    exact (efMask_bit os 0 u).2 ⟨Nat.zero_le _, q, by simpa using h5, h8, na u q h5 h9⟩
  · cases hb : bitX (efMask lv (flsX lv os (masks os []) 0 os) 0 os) j with
    | false => rfl
    | true =>
      rw [bitX_eq] at hb
      obtain ⟨_, _, _, _, h2⟩ := (efMask_bit os 0 j).1 hb
      rw [h] at h2; cases h2

structure DRec (G : Nat → Option TI) (lv : Nat → Bool) (callF : CallF) (all : List Oper) (fls : List (Nat × Nat)) (N : Nat) (i : Nat) (o : Oper) (e e' : Tr T) (h h' : HS) (r : Rec) : Prop where
  ok : okOp N o = true
  way : (∃ u d, flAt fls i = some u ∧ o.dst = some d ∧ e' = e.del d ∧ h' = h ∧ r.e1 = e ∧ r.h1 = h) ∨
    (flAt fls i = none ∧ regX G all (regsOf fls i) e h = some (r.e1, r.h1) ∧ e' = putX r.e1 o.dst r.t ∧ r.r = fromEnv (restrL r.e1 (B4 ⟨all⟩ o)) ∧
      ((r.g = true ∧ guardX all r.r o = some true ∧ opX G lv callF r.r r.h1 o.op = some (r.t, h')) ∨ (r.g = false ∧ guardX all r.r o = some false ∧ r.t = .tup [] ∧ h' = r.h1)))

theorem runD_spec {all : List Oper} {fls : List (Nat × Nat)} : ∀ (os : List Oper) (i0 : Nat) (e : Tr T) (h : HS) (recs : List Rec) (e2 : Tr T) (h2 : HS), runD G lv callF all fls N i0 os e h = some (recs, e2, h2) →
    recs.length = os.length ∧ ceOf recs e2 0 = e ∧ chOf recs h2 0 = h ∧ ∀ i o, os[i]? = some o → ∃ r, recs[i]? = some r ∧ DRec G lv callF all fls N (i0 + i) o (ceOf recs e2 i) (ceOf recs e2 (i + 1)) (chOf recs h2 i) (chOf recs h2 (i + 1)) r
  | [], i0, e, h, recs, e2, h2, hx => by
    simp [runD] at hx
    obtain ⟨rfl, rfl, rfl⟩ := hx
    exact ⟨rfl, rfl, rfl, fun i o ho => by simp at ho⟩
  | o :: os, i0, e, h, recs, e2, h2, hx => by
    have hok : okOp N o = true := by
      cases hb : okOp N o with
      | true => rfl
      | false => simp only [runD, hb, cond_false] at hx; cases hx
    simp only [runD, hok, cond_true] at hx
    have shift : ∀ (r : Rec) (rs : List Rec) (i : Nat), ceOf (r :: rs) e2 (i + 1) = ceOf rs e2 i ∧ chOf (r :: rs) h2 (i + 1) = chOf rs h2 i := fun r rs i => ⟨by simp [ceOf], by simp [chOf]⟩
    have fin : ∀ (r : Rec) (rs : List Rec) (en : Tr T) (hn : HS), runD G lv callF all fls N (i0 + 1) os en hn = some (rs, e2, h2) → recs = r :: rs → r.e = e → r.h = h →
        DRec G lv callF all fls N i0 o e en h hn r → recs.length = (o :: os).length ∧ ceOf recs e2 0 = e ∧ chOf recs h2 0 = h ∧ ∀ i o', (o :: os)[i]? = some o' → ∃ r, recs[i]? = some r ∧ DRec G lv callF all fls N (i0 + i) o' (ceOf recs e2 i) (ceOf recs e2 (i + 1)) (chOf recs h2 i) (chOf recs h2 (i + 1)) r := by
      intro r rs en hn hr hrec he hh hd
      subst hrec
      obtain ⟨k1, k2, k3, k4⟩ := runD_spec os (i0 + 1) _ _ _ _ _ hr
      have c0 : ceOf (r :: rs) e2 0 = e := by rw [← he]; rfl
      have d0 : chOf (r :: rs) h2 0 = h := by rw [← hh]; rfl
      refine ⟨by simp [k1], c0, d0, fun i o' ho => ?_⟩
      cases i with
      | zero =>
        simp at ho; subst ho
        exact ⟨r, rfl, by rw [c0, d0, (shift _ _ 0).1, (shift _ _ 0).2, k2, k3]; exact hd⟩
      | succ i =>
        obtain ⟨r', l1, l2⟩ := k4 i o' (by simpa using ho)
        exact ⟨r', by simpa using l1, by rw [(shift _ _ i).1, (shift _ _ i).2, (shift _ _ (i + 1)).1, (shift _ _ (i + 1)).2, show i0 + (i + 1) = i0 + 1 + i by omega]; exact l2⟩
    split at hx
    · rename_i u hfl
      split at hx
      · rename_i d hd
        split at hx
        · rename_i rs e3 h3 hr
          injection hx with hx; injection hx with q1 hx; injection hx with q2 q3; subst q2; subst q3
          exact fin _ _ _ _ hr q1.symm rfl rfl ⟨hok, .inl ⟨u, d, hfl, hd, rfl, rfl, rfl, rfl⟩⟩
        · cases hx
      · cases hx
    · rename_i hfl
      split at hx
      · rename_i e1 h1 hreg
        split at hx
        · rename_i hg
          split at hx
          · rename_i t h' hop
            split at hx
            · rename_i rs e3 h3 hr
              injection hx with hx; injection hx with q1 hx; injection hx with q2 q3; subst q2; subst q3
              exact fin _ _ _ _ hr q1.symm rfl rfl ⟨hok, .inr ⟨hfl, hreg, rfl, rfl, .inl ⟨rfl, hg, hop⟩⟩⟩
            · cases hx
          · cases hx
        · rename_i hg
          split at hx
          · rename_i rs e3 h3 hr
            injection hx with hx; injection hx with q1 hx; injection hx with q2 q3; subst q2; subst q3
            exact fin _ _ _ _ hr q1.symm rfl rfl ⟨hok, .inr ⟨hfl, hreg, rfl, rfl, .inr ⟨rfl, hg, rfl, rfl⟩⟩⟩
          · cases hx
        · cases hx
      · cases hx
theorem qchk_at {efm : Nat} {efl ms : List Nat} {fls : List (Nat × Nat)} {recs : List Rec} {h2 : HS} : ∀ {i0 : Nat} {os : List Oper} {rs : List Rec}, qchk G efm efl ms fls recs h2 i0 os rs = true → ∀ (i : Nat) (o : Oper) (r : Rec), os[i]? = some o → rs[i]? = some r → qchk1 G efm efl ms fls recs h2 (i0 + i) o r = true
  | i0, [], rs, h, i, o, r, ho, hr => by simp at ho
  | i0, q :: os, [], h, i, o, r, ho, hr => by simp at hr
  | i0, q :: os, r0 :: rs, h, i, o, r, ho, hr => by
    simp only [qchk, Bool.and_eq_true] at h
    cases i with
    | zero => simp at ho hr; subst ho; subst hr; exact h.1
    | succ i =>
      have := qchk_at h.2 i o r (by simpa using ho) (by simpa using hr)
      rwa [show i0 + 1 + i = i0 + (i + 1) by omega] at this
theorem eflX_mem {efm n k : Nat} : k ∈ eflX efm n ↔ k < n ∧ bitX efm k = true := by
  unfold eflX; rw [List.mem_filter, List.mem_range]
theorem compatB_of {efm : Nat} {os : List Oper} {i p : Nat} (hb : ∀ k, bitX efm k = true → k < os.length) (h : Compat (bitX efm) os i p) : compatB efm (eflX efm os.length) (masks os []) i p = true := by
  unfold compatB
  rw [Bool.and_eq_true]
  constructor
  · have : Nat.shiftRight (Nat.land ((masks os []).getD i 0) efm) p = 0 := by
      rw [show Nat.shiftRight (Nat.land ((masks os []).getD i 0) efm) p = ((masks os []).getD i 0 &&& efm) >>> p from rfl]
      apply Nat.eq_of_testBit_eq
      intro k
      rw [Nat.testBit_shiftRight, Nat.testBit_and, Nat.zero_testBit]
      cases h1 : Nat.testBit efm (p + k) with
      | false => simp
      | true =>
        rw [Bool.and_true]
        cases h2 : Nat.testBit ((masks os []).getD i 0) (p + k) with
        | false => rfl
        | true =>
          have h3 : bitX efm (p + k) = true := by rw [bitX_eq]; exact h1
          have := (h.2 (p + k) (hb _ h3) h3).1 h2
          omega
    rw [this]; rfl
  · rw [List.all_eq_true]
    intro k hk
    obtain ⟨h1, h2⟩ := eflX_mem.1 hk
    cases hf : bitX ((masks os []).getD k 0) i with
    | false => rfl
    | true =>
      rw [bitX_eq] at hf
      rw [Bool.not_true, Bool.false_or]
      exact Nat.ble_eq_true_of_le ((h.2 k h1 h2).2 hf)

theorem regX_ok {os : List Oper} {rs : Nat → T} : ∀ (js : List Nat) (e : Tr T) (h : HS) (e' : Tr T) (h' : HS), regX G os js e h = some (e', h') → js.Nodup → (∀ j, j ∈ js → rs j = rsF js h.nx j) → RegOK G os rs js e h e' h'
  | [], e, h, e', h', hx, _, _ => by simp [regX] at hx; exact ⟨hx.1.symm, hx.2.symm⟩
  | j :: js, e, h, e', h', hx, hn, hr => by
    simp only [regX] at hx
    rw [List.nodup_cons] at hn
    split at hx
    · rename_i d ty z1 z2 z3 z4 ho
      split at hx
      · rename_i ti hti
        refine ⟨_, d, ty, ti, ho, rfl, rfl, hti, by rw [hr j List.mem_cons_self]; simp [rsF], regX_ok js _ _ _ _ hx hn.2 (fun k hk => ?_)⟩
        rw [hr k (List.mem_cons_of_mem _ hk)]
        simp only [rsF]
        rw [beqF (by rintro rfl; exact hn.1 hk), cond_false]
        rfl
      · cases hx
    · cases hx
theorem regsOf_mem {fls : List (Nat × Nat)} (hn : (fls.map Prod.fst).Nodup) (i j : Nat) : j ∈ regsOf fls i ↔ flAt fls j = some i := by
  unfold regsOf
  rw [List.mem_map]
  constructor
  · rintro ⟨⟨a, b⟩, h1, h2⟩
    rw [List.mem_filter] at h1
    simp only at h2; subst h2
    have := Nat.eq_of_beq_eq_true h1.2
    simp only at this; subst this
    exact mem_flAt hn h1.1
  · intro h
    exact ⟨(j, i), List.mem_filter.2 ⟨flAt_mem h, by simp⟩, rfl⟩
theorem regsOf_nodup {fls : List (Nat × Nat)} (hn : (fls.map Prod.fst).Nodup) (i : Nat) : (regsOf fls i).Nodup :=
  hn.sublist (List.Sublist.map _ List.filter_sublist)

theorem aw_drawX (hm : P.follows .mixedOrders = true) (hG : Fits P G) (hcall : CallsOK P callF) {id : Nat} {os : List Oper} {e e2 : Tr T} {h h2 : HS} {a : Env} {σ : St} (hx : drawX G lv callF N os e h = some (e2, h2)) (ce : CovE a e) (c : HCov σ h) :
    AW P N (.region id ⟨os⟩ true) (fun y a' σ' => y = .normal ∧ CovE a' e2 ∧ HCov σ' h2) a σ := by
  unfold drawX drawW at hx
  have hfl := flOK_of (lv := lv) (os := os)
  have hnd := flsX_nodup (lv := lv) (all := os) (ms := masks os []) os 0
  have hbit := fun k => efMask_bit (lv := lv) (fls := flsX lv os (masks os []) 0 os) os 0 k
  generalize hfls : flsX lv os (masks os []) 0 os = fls at hx hfl hnd hbit
  have hflo : ∀ j u, flAt fls j = some u → ∃ o, os[j]? = some o := fun j u h => let ⟨o, _, _, h1, _⟩ := hfl.op j u h; ⟨o, h1⟩
  generalize efMask lv fls 0 os = efm at hx hfl hbit
  have hblt : ∀ k, bitX efm k = true → k < os.length := by
    intro k hk
    rw [bitX_eq] at hk
    obtain ⟨_, o, h, _⟩ := (hbit k).1 hk
    exact B6 (by simpa using h)
  have hefe : ∀ (i : Nat) (o : Oper), os[i]? = some o → flAt fls i = none → bitX efm i = isEff lv o.op := by
    intro i o ho hf
    rw [bitX_eq]
    cases he : isEff lv o.op with
    | true => exact (hbit i).2 ⟨Nat.zero_le _, o, by simpa using ho, he, hf⟩
    | false =>
      cases hb : Nat.testBit efm i with
      | false => rfl
      | true =>
        obtain ⟨_, o', h1, h2, _⟩ := (hbit i).1 hb
        rw [Nat.sub_zero, ho] at h1; injection h1 with h1; subst h1
        rw [he] at h2; cases h2
  have hltf : ∀ j u, flAt fls j = some u → j < u := fun j u h => (hfl.reg j u h).2.1
  cases hst0 : fastOK ⟨os⟩ (masks os []) efm (writers 0 os) 0 0 os with
  | false => rw [hst0] at hx; cases hx
  | true =>
  rw [hst0, cond_true] at hx
  have hst := fast_stat hst0
  split at hx
  · rename_i recs e3 h3 hr
    cases hq : qchk G efm (eflX efm os.length) (masks os []) fls recs h3 0 os recs with
    | false => rw [hq] at hx; cases hx
    | true =>
    rw [hq, cond_true] at hx
    injection hx with hx; injection hx with q1 q2; subst q1; subst q2
    obtain ⟨k1, k2, k3, k4⟩ := runD_spec os _ _ _ _ _ _ hr
    simp only [Nat.zero_add] at k4
    have hend : ceOf recs e3 os.length = e3 ∧ chOf recs h3 os.length = h3 := by
      constructor
      · unfold ceOf; rw [List.getElem?_eq_none (by omega)]
      · unfold chOf; rw [List.getElem?_eq_none (by omega)]
    have hcp : ∀ i r, recs[i]? = some r → cpOf recs e3 i = r.e1 ∧ cqOf recs h3 i = r.h1 := fun i r hi => ⟨by unfold cpOf; rw [hi], by unfold cqOf; rw [hi]⟩
    have hrs : ∀ i r, flAt fls i = none → recs[i]? = some r → rsOf recs h3 fls i = r.t := fun i r hf hi => by unfold rsOf; rw [hf]; simp only; rw [hi]
    have hnoreg : ∀ i, bitX efm i = false → regsOf fls i = [] := by
      intro i he
      apply List.eq_nil_iff_forall_not_mem.2
      intro j hj
      have := (hfl.reg j i ((regsOf_mem hnd i j).1 hj)).2.2.1
      rw [he] at this; cases this
    have hregA : ∀ i, i < os.length → RegOK G os (rsOf recs h3 fls) (regsOf fls i) (ceOf recs e3 i) (chOf recs h3 i) (cpOf recs e3 i) (cqOf recs h3 i) := by
      intro i hi
      obtain ⟨o, ho⟩ : ∃ o, os[i]? = some o := ⟨_, List.getElem?_eq_getElem hi⟩
      obtain ⟨r, l1, l2⟩ := k4 i o ho
      obtain ⟨p1, p2⟩ := hcp i r l1
      rw [p1, p2]
      rcases l2.way with ⟨u, d, w1, w2, w3, w4, w5, w6⟩ | ⟨w1, w2, _⟩
      · have : regsOf fls i = [] := by
          apply hnoreg
          exact hfl.noeff i u w1
        rw [this, w5, w6]; exact ⟨rfl, rfl⟩
      · refine regX_ok _ _ _ _ _ w2 (regsOf_nodup hnd i) (fun j hj => ?_)
        have hj' := (regsOf_mem hnd i j).1 hj
        unfold rsOf; rw [hj']
    have hkeep : ∀ (i : Nat) (o : Oper), os[i]? = some o → bitX efm i = false → chOf recs h3 (i + 1) = chOf recs h3 i := by
      intro i o ho he
      obtain ⟨r, l1, l2⟩ := k4 i o ho
      rcases l2.way with ⟨u, d, w1, w2, w3, w4, _⟩ | ⟨w1, w2, w3, w4, w5⟩
      · exact w4
      · rw [hnoreg i he] at w2
        simp only [regX, Option.some.injEq, Prod.mk.injEq] at w2
        rcases w5 with ⟨_, _, l3⟩ | ⟨_, _, _, l3⟩
        · unfold opX at l3
          rw [← hefe i o ho w1, he, cond_false] at l3
          split at l3
          · injection l3 with l3; injection l3 with _ l3; rw [← l3, w2.2]
          · cases l3
        · rw [l3, w2.2]
    intro av w μ hi hra
    have hev : Ev w μ σ { w with drawn := w.drawn + 1 } μ σ := ev_same rfl rfl rfl rfl
    have hi' : Inv { w with drawn := w.drawn + 1 } μ σ := hi.ev_heap rfl hev
    have X1 : ∀ i, i ∈ List.range os.length ↔ i < os.length ∧ (Array.replicate os.length false).getD i true = false := by
      intro i
      simp only [List.mem_range]
      constructor
      · intro h; exact ⟨h, by simp [Array.getD]; omega⟩
      · intro h; exact h.1
    have hf : ∀ j, (Array.replicate os.length false).getD j false = true → False := by
      intro j hj
      simp [Array.getD] at hj
    have hsz : (⟨os⟩ : Array Oper).size = os.length := by simp
    refine wp_region_any hm ?_
    rw [hsz]
    have hfit0 : ∀ (i : Nat) (o : Oper), os[i]? = some o → Bh N o.dst = true := by
      intro i o ho
      obtain ⟨r, l1, l2⟩ := k4 i o ho
      have := l2.ok; unfold okOp at this; rw [Bool.and_eq_true] at this; exact this.1
    refine wpAny_can (w0 := w) (μ0 := μ) (σ0 := σ) (off0 := σ.off) (ef := bitX efm) (fl := flAt fls) (fs := regsOf fls) (e0 := e) (rs := rsOf recs h3 fls) (ce := ceOf recs e3) (cp := cpOf recs e3) (ch := chOf recs h3) (cq := cqOf recs h3) hG hi.offlt hst hfl (regsOf_mem hnd) (regsOf_nodup hnd) k2 hregA
      (fun i o ho hf0 => ?_) (fun i o d u ho hf0 hd => ?_) hkeep (fun i o u ho _ => hfit0 i o ho) (fun i o ho he σ1 c1 => ?_) (fun i o p ho he hf0 hcp' σ1 c1 => ?_) (fun av' w' μ' σ' g1 g2 g3 g4 g5 g6 g7 => ?_)
      _ (List.range os.length) _ 0 (fun _ => none) av _ μ σ List.nodup_range (by simp) (by simp) X1 hev.evO
      ⟨hi', hra.size, hra.defers, by rw [k3]; exact c, Nat.zero_le _, fun k _ hk => ⟨fun h => (hf k h).elim, fun h => by omega⟩, fun s t _ ht => (hra.ev hev).tmp s t (ce s t ht), fun j o s hj => (hf j hj).elim, fun j o hj => (hf j hj).elim, fun b o => ⟨.inl, fun h => h.resolve_right (by rintro ⟨j, hj⟩; cases hj)⟩, (fun j b h => by cases h), (fun i j b h => by cases h), fun j u o d ty _ hj => (hf j hj).elim⟩
    · obtain ⟨r, l1, l2⟩ := k4 i o ho
      rcases l2.way with ⟨u, d, w1, _⟩ | ⟨w1, w2, w3, _⟩
      · rw [hf0] at w1; cases w1
      · rw [hrs i r hf0 l1, (hcp i r l1).1]; exact w3
    · obtain ⟨r, l1, l2⟩ := k4 i o ho
      rcases l2.way with ⟨u', d', w1, w2, w3, _⟩ | ⟨w1, _⟩
      · rw [hd] at w2; injection w2 with w2; subst w2; exact w3
      · rw [hf0] at w1; cases w1
    · obtain ⟨r, l1, l2⟩ := k4 i o ho
      have hfn : flAt fls i = none := by
        cases hb : flAt fls i with
        | none => rfl
        | some u => have := hfl.noeff i u hb; rw [he] at this; cases this
      rw [hrs i r hfn l1, (hcp i r l1).1, (hcp i r l1).2]
      rw [(hcp i r l1).2] at c1
      rcases l2.way with ⟨u, d, w1, _⟩ | ⟨w1, w2, w3, w4, w5⟩
      · rw [hfn] at w1; cases w1
      · have cr : CovE (restrL r.e1 (B4 ⟨os⟩ o)) r.r := by rw [w4]; exact covE_fromEnv _
        rcases w5 with ⟨_, l3, l4⟩ | ⟨_, l3, l4, l5⟩
        · exact .inl ⟨cr.guard l3, fun K hK => opX_sound hG hcall l4 c1 cr l2.ok hK⟩
        · exact .inr ⟨cr.guard l3, l4, l5, hfit0 i o ho⟩
    · obtain ⟨r, l1, l2⟩ := k4 i o ho
      rw [hrs i r hf0 l1]
      have hlv : isEff lv o.op = false := by rw [← hefe i o ho hf0]; exact he
      rcases l2.way with ⟨u, d, w1, _⟩ | ⟨w1, w2, w3, w4, w5⟩
      · rw [hf0] at w1; cases w1
      · rw [hnoreg i he] at w2
        simp only [regX, Option.some.injEq, Prod.mk.injEq] at w2
        have cr : CovE (restrL (ceOf recs e3 i) (B4 ⟨os⟩ o)) r.r := by rw [w4, w2.1]; exact covE_fromEnv _
        rcases w5 with ⟨l0, l3, l4⟩ | ⟨_, l3, l4, l5⟩
        · refine .inl ⟨cr.guard l3, fun K hK => ?_⟩
          unfold opX at l4
          rw [hlv, cond_false] at l4
          have hqt : quietX G r.r (chOf recs h3 i) o.op = some r.t := by
            rw [w2.2]
            split at l4
            · rename_i t' ht; injection l4 with l4; injection l4 with l4 _; rw [ht, l4]
            · cases l4
          have hqp : quietX G r.r (chOf recs h3 p) o.op = some r.t := by
            have h0 := qchk_at hq i o r ho l1
            rw [Nat.zero_add] at h0
            unfold qchk1 at h0
            rw [he, hf0, l0, Bool.false_or, Option.isSome_none, Bool.false_or, Bool.not_true, Bool.false_or, Bool.or_eq_true] at h0
            unfold quietX at hqt ⊢
            cases h1 : Bx G (fun _ => none) (evX r.r) o.op with
            | some t => rw [h1] at hqt; exact hqt
            | none =>
              rw [h1] at hqt
              simp only at hqt ⊢
              cases h2 : immX G r.r o.op with
              | some t => rw [h2] at hqt; exact hqt
              | none =>
                simp only
                rcases h0 with h0 | h0
                · unfold freeX at h0; rw [h1, h2] at h0; cases h0
                · -- down to a state that was looked at
                  have at' : ∀ q, q = 0 ∨ (∃ k, q = k + 1 ∧ bitX efm k = true) → Compat (bitX efm) os i q → heapX G r.r (chOf recs h3 q) o.op = some r.t := by
                    intro q hq' hc
                    have hin : q ∈ (0 :: (eflX efm os.length).map (· + 1)) := by
                      rcases hq' with rfl | ⟨k, rfl, hk⟩
                      · simp
                      · exact List.mem_cons_of_mem _ (List.mem_map.2 ⟨k, eflX_mem.2 ⟨hblt k hk, hk⟩, rfl⟩)
                    have := List.all_eq_true.1 h0 q hin
                    rw [compatB_of hblt hc, Bool.not_true, Bool.false_or] at this
                    split at this
                    · rename_i t ht; rw [ht, beqT_eq _ _ this]
                    · cases this
                  have key : ∀ q, Compat (bitX efm) os i q → heapX G r.r (chOf recs h3 q) o.op = some r.t := by
                    intro q
                    induction q with
                    | zero => exact at' 0 (.inl rfl)
                    | succ q ih =>
                      intro hc
                      cases hb : bitX efm q with
                      | true => exact at' (q + 1) (.inr ⟨q, rfl, hb⟩) hc
                      | false =>
                        obtain ⟨oq, hq'⟩ : ∃ oq, os[q]? = some oq := ⟨_, List.getElem?_eq_getElem (by have := hc.1; omega)⟩
                        rw [hkeep q _ hq' hb]
                        refine ih ⟨by have := hc.1; omega, fun k hkl hk => ⟨fun hf => ?_, fun hf => ?_⟩⟩
                        · have h5 := (hc.2 k hkl hk).1 hf
                          have : k ≠ q := by rintro rfl; rw [hk] at hb; cases hb
                          omega
                        · have h5 := (hc.2 k hkl hk).2 hf
                          omega
                  exact key p hcp'
          exact quietX_sound hG hqp c1 cr (hfit0 i o ho) (hK σ1 c1)
        · exact .inr ⟨cr.guard l3, l4, rfl, hfit0 i o ho⟩
    · rw [hend.1] at g5
      rw [hend.2] at g6
      have hoff : σ'.off = σ.off := funext fun b => funext fun o => propext (g7 b o)
      refine ⟨restrL e3 (List.range N), σ', μ', ⟨g1.below, g1.loc, g1.tok, hoff, g1.shape, g1.live, g1.imm⟩, g2, ⟨g3, g4, fun s t ht => g5 s t (get_restrL ht).2⟩, rfl, fun s t ht => ?_, g6⟩
      obtain ⟨v, hv, _⟩ := g5 s t ht
      have : s < av'.tmps.size := (Array.getElem?_eq_some_iff.1 hv).1
      exact restrL_get ht (by rw [List.mem_range]; omega)
  · cases hx

def LW (P : Program) (c : Code) (Q : Exit → Act → World → Prop) (a : Act) (w : World) : Prop :=
  ∀ (b : Frame) (k : List Item) (cs : List Frame), ∃ e a' w', Q e a' w' ∧ Arrives P (lone (b.at a (.code c :: .inLoop c :: k)) cs w) b k cs e a' w'
theorem lw_mono {c : Code} {Q Q' : Exit → Act → World → Prop} {a : Act} {w : World} (h : LW P c Q a w) (hq : ∀ e a w, Q e a w → Q' e a w) : LW P c Q' a w :=
  fun b k cs => let ⟨e, a', w', q, r⟩ := h b k cs; ⟨e, a', w', hq _ _ _ q, r⟩
theorem lw_step {c : Code} {Q : Exit → Act → World → Prop} {a : Act} {w : World} (h : c.wp P (Exit.then (LW P c Q) Q) a w) : LW P c Q a w := by
  intro b k cs
  obtain ⟨e, a₁, w₁, hq, harr⟩ := h b (.inLoop c :: k) cs
  cases e with
  | normal =>
    obtain ⟨e₂, a₂, w₂, hq₂, harr₂⟩ := hq b k cs
    exact ⟨e₂, a₂, w₂, hq₂, .of_steps (Steps.trans harr (.one step_inLoop)) harr₂⟩
  | exit id => exact ⟨_, a₁, w₁, hq, .pass (x := .inLoop c) rfl (fun _ _ => .inl (by simp)) harr⟩
  | goto l => exact ⟨_, a₁, w₁, hq, .pass (x := .inLoop c) rfl (fun _ _ => .inl (by simp)) harr⟩
  | ret => exact ⟨_, a₁, w₁, hq, .pass (x := .inLoop c) rfl (fun _ _ => .inl (by simp)) harr⟩
  | panic ch => exact ⟨_, a₁, w₁, hq, .pass (x := .inLoop c) rfl (fun _ _ => .inl (by simp)) harr⟩
  | outgrown => exact ⟨_, a₁, w₁, hq, .pass (x := .inLoop c) rfl (fun _ _ => .inl (by simp)) harr⟩
theorem loop_of_lw {c : Code} {Q : Exit → Act → World → Prop} {a : Act} {w : World} (h : LW P c Q a w) : (Code.loop c).wp P Q a w := by
  intro b k cs
  obtain ⟨e, a', w', hq, harr⟩ := h b k cs
  exact ⟨e, a', w', hq, .of_steps (.one step_loop) harr⟩
theorem aw_loop_unfold {c : Code} {a : Env} {σ : St} {Q : Exit → Env → St → Prop} (h : AW P N c (Az (fun a' σ' => ∀ av w μ, Inv w μ σ' → RelA w μ σ' N av a' → LW P c (fun e av' w' => ∃ a2 σ2 μ2, Ev w μ σ' w' μ2 σ2 ∧ Inv w' μ2 σ2 ∧ RelA w' μ2 σ2 N av' a2 ∧ Q e a2 σ2) av w) Q) a σ) :
    ∀ av w μ, Inv w μ σ → RelA w μ σ N av a → LW P c (fun e av' w' => ∃ a2 σ2 μ2, Ev w μ σ w' μ2 σ2 ∧ Inv w' μ2 σ2 ∧ RelA w' μ2 σ2 N av' a2 ∧ Q e a2 σ2) av w := by
  intro av w μ hi hr
  refine lw_step (wp_mono (h av w μ hi hr) ?_)
  rintro e av' w' ⟨a', σ', μ', h1, h2, h3, h4⟩
  cases e with
  | normal => exact lw_mono (h4 av' w' μ' h2 h3) fun e av2 w2 ⟨a2, σ2, μ2, k1, k2, k3, k4⟩ => ⟨a2, σ2, μ2, h1.trans k1, k2, k3, k4⟩
  | exit id => exact ⟨a', σ', μ', h1, h2, h3, h4⟩
  | goto l => exact ⟨a', σ', μ', h1, h2, h3, h4⟩
  | ret => exact ⟨a', σ', μ', h1, h2, h3, h4⟩
  | panic ch => exact ⟨a', σ', μ', h1, h2, h3, h4⟩
  | outgrown => exact ⟨a', σ', μ', h1, h2, h3, h4⟩

def SW (P : Program) (c r : Code) (Q : Exit → Act → World → Prop) (a : Act) (w : World) : Prop :=
  ∀ (b : Frame) (k : List Item) (cs : List Frame), ∃ e a' w', Q e a' w' ∧ Arrives P (lone (b.at a (.code r :: .inScope c :: k)) cs w) b k cs e a' w'
theorem sw_mono {c r : Code} {Q Q' : Exit → Act → World → Prop} {a : Act} {w : World} (h : SW P c r Q a w) (hq : ∀ e a w, Q e a w → Q' e a w) : SW P c r Q' a w :=
  fun b k cs => let ⟨e, a', w', q, r⟩ := h b k cs; ⟨e, a', w', hq _ _ _ q, r⟩
def sjump (P : Program) (c : Code) (Q : Exit → Act → World → Prop) : Exit → Act → World → Prop
  | .goto l, a, w => match findLabel c l with
    | some rest => SW P c rest Q a w
    | none => Q (.goto l) a w
  | e, a, w => Q e a w
theorem sw_step {c r : Code} {Q : Exit → Act → World → Prop} {a : Act} {w : World} (h : r.wp P (sjump P c Q) a w) : SW P c r Q a w := by
  intro b k cs
  obtain ⟨e, a₁, w₁, hq, harr⟩ := h b (.inScope c :: k) cs
  cases e with
  | normal => exact ⟨.normal, a₁, w₁, hq, Steps.trans harr (.one step_inScope)⟩
  | exit id => exact ⟨.exit id, a₁, w₁, hq, fun k' hk => harr k' (by simp [exitTo, hk])⟩
  | goto l =>
    simp only [sjump] at hq
    cases hf : findLabel c l with
    | some rest =>
      rw [hf] at hq
      have hg : gotoIn l (.inScope c :: k) = some (.code rest :: .inScope c :: k) := by simp [gotoIn, hf]
      obtain ⟨e₂, a₂, w₂, hq₂, harr₂⟩ := hq b k cs
      exact ⟨e₂, a₂, w₂, hq₂, .of_steps (harr _ hg) harr₂⟩
    | none =>
      rw [hf] at hq
      exact ⟨.goto l, a₁, w₁, hq, fun k' hk => harr k' (by simp [gotoIn, hf, hk])⟩
  | ret => exact ⟨_, a₁, w₁, hq, harr⟩
  | panic ch => exact ⟨_, a₁, w₁, hq, harr⟩
  | outgrown => exact ⟨_, a₁, w₁, hq, harr⟩
theorem scope_of_sw {c : Code} {Q : Exit → Act → World → Prop} {a : Act} {w : World} (h : SW P c c Q a w) : (Code.scope c).wp P Q a w := by
  intro b k cs
  obtain ⟨e, a', w', hq, harr⟩ := h b k cs
  exact ⟨e, a', w', hq, .of_steps (.one step_scope) harr⟩
end
end Go.Ts
set_option linter.unusedVariables false
set_option linter.unusedSimpArgs false
namespace Go.Ts

structure Mach where
  G : Nat → Option TI
  F : Tr Func
  live : FuncId → Nat → Bool
  known : FuncId → Option (List T → HS → Option (T × HS))

abbrev Out := Option (Exit × Tr T × HS)
def jumps (run : Code → Tr T → HS → Out) (b : Code) : Nat → Out → Out
  | 0, _ => none
  | k + 1, r => match r with
    | some (.goto l, e, h) => match findLabel b l with
      | some rest => jumps run b k (run rest e h)
      | none => r
    | _ => r
def resX (G : Nat → Option TI) (e : Tr T) (h : HS) : List ResultVar → Option (List T)
  | [] => some []
  | .tmp x :: rs => match e.get x, resX G e h rs with
    | some t, some ts => some (t :: ts)
    | _, _ => none
  | .cell x ty :: rs => match e.get x, resX G e h rs with
    | some (.ptr i o), some ts => match readX G h ty i o with
      | some t => some (t :: ts)
      | none => none
    | _, _ => none
def callB (M : Mach) (run : Nat → (Nat → Bool) → Code → Tr T → HS → Out) (g : FuncId) (ts : List T) (h : HS) : Option (T × HS) :=
  match M.F.get g with
  | some fn => match fn.body with
    | some c => cond (Nat.ble ts.length fn.ntmps) (match run fn.ntmps (M.live g) c (Tr.of ts) h with
      | some (.ret, e', h') => match resX M.G e' h' fn.results.toList with
        | some us => some (tup1 us, h')
        | none => none
      | some (.normal, e', h') => match resX M.G e' h' fn.results.toList with
        | some us => some (tup1 us, h')
        | none => none
      | _ => none) none
    | none => none
  | none => none
def callW (M : Mach) (run : Nat → (Nat → Bool) → Code → Tr T → HS → Out) (g : FuncId) (ts : List T) (h : HS) : Option (T × HS) :=
  match M.known g with
  | some f => match f ts h with
    | some r => some r
    | none => callB M run g ts h
  | none => callB M run g ts h
def exec (M : Mach) : Nat → Nat → (Nat → Bool) → Code → Tr T → HS → Out
  | 0, _, _, _, _, _ => none
  | n + 1, N, lv, c, e, h => match c with
    | .skip => some (.normal, e, h)
    | .label _ => some (.normal, e, h)
    | .exit id => some (.exit id, e, h)
    | .goto l => some (.goto l, e, h)
    | .ret => some (.ret, e, h)
    | .region _ ops draw => match cond draw (drawX M.G lv (callW M (exec M n)) N ops.toList e h) (runOps M.G lv (callW M (exec M n)) ops.toList N ops.toList e h) with
      | some (e', h') => some (.normal, e', h')
      | none => none
    | .seq a b => match exec M n N lv a e h with
      | some (.normal, e', h') => exec M n N lv b e' h'
      | r => r
    | .cond c a b => match evX e c with
      | some (.bool t) => exec M n N lv (cond t a b) e h
      | _ => none
    | .block id b => match exec M n N lv b e h with
      | some (.exit id', e', h') => cond (Nat.beq id' id) (some (.normal, e', h')) (some (.exit id', e', h'))
      | r => r
    | .loop b => match exec M n N lv b e h with
      | some (.normal, e', h') => exec M n N lv (.loop b) e' h'
      | r => r
    | .scope b => jumps (exec M n N lv) b n (exec M n N lv b e h)
    | _ => none
def callX (M : Mach) (n : Nat) : CallF := callW M (exec M n)

structure MachOK (P : Program) (M : Mach) : Prop where
  mix : P.follows .mixedOrders = true
  fits : Fits P M.G
  func : ∀ f fn, M.F.get f = some fn → P.funcs[f]? = some fn ∧ (fn.name == "runtime.NumGoroutine") = false
  known : ∀ g f, M.known g = some f → ∀ ts h t h', f ts h = some (t, h') → ∀ σ, HCov σ h → ACalls P g ts σ (fun u σ' => u = t ∧ HCov σ' h')

section
variable {P : Program} {M : Mach}

def RunOK (P : Program) (run : Nat → (Nat → Bool) → Code → Tr T → HS → Out) : Prop :=
  ∀ N lv c e h x e' h', run N lv c e h = some (x, e', h') → ∀ a σ, CovE a e → HCov σ h → AW P N c (fun y a' σ' => y = x ∧ CovE a' e' ∧ HCov σ' h') a σ

theorem envOf_at : ∀ (ts : List T) (i j : Nat) (t : T), ts[j]? = some t → get (envOf i ts) (i + j) = some t
  | [], i, j, t, h => by simp at h
  | u :: ts, i, 0, t, h => by simp at h; subst h; simp [envOf, get]
  | u :: ts, i, j + 1, t, h => by
    simp only [envOf, get]
    rw [beqF (by omega), cond_false, show i + (j + 1) = i + 1 + j by omega]
    exact envOf_at ts (i + 1) j t (by simpa using h)
theorem resX_ok {G : Nat → Option TI} {a : Env} {e : Tr T} {σ : St} {h : HS} (ce : CovE a e) (c : HCov σ h) : ∀ (rs : List ResultVar) (ts : List T), resX G e h rs = some ts → ResRs G a σ rs ts
  | [], ts, hx => by simp [resX] at hx; subst hx; rfl
  | .tmp x :: rs, ts, hx => by
    simp only [resX] at hx
    split at hx
    · rename_i t us h1 h2
      injection hx with hx; subst hx
      exact ⟨t, us, ce _ _ h1, resX_ok ce c rs us h2, rfl⟩
    · cases hx
  | .cell x ty :: rs, ts, hx => by
    simp only [resX] at hx
    split at hx
    · rename_i i o us h1 h2
      split at hx
      · rename_i t ht
        injection hx with hx; subst hx
        obtain ⟨us', k1, k2⟩ := readX_ok c ht
        obtain ⟨n, hn⟩ := List.getElem?_of_mem k1
        exact ⟨t, us, ⟨n, i, o, us', ce _ _ h1, hn, k2⟩, resX_ok ce c rs us h2, rfl⟩
      · cases hx
    · cases hx
theorem callW_ok (hM : MachOK P M) {run : Nat → (Nat → Bool) → Code → Tr T → HS → Out} (hr : RunOK P run) : CallsOK P (callW M run) := by
  intro g ts h t h' hx σ c
  have body : callB M run g ts h = some (t, h') → ACalls P g ts σ (fun u σ' => u = t ∧ HCov σ' h') := by
    intro hx
    unfold callB at hx
    split at hx
    · rename_i fn hfn
      obtain ⟨hf1, hf2⟩ := hM.func g fn hfn
      split at hx
      · rename_i b hb
        cases hl : Nat.ble ts.length fn.ntmps with
        | false => rw [hl] at hx; cases hx
        | true =>
          rw [hl, cond_true] at hx
          have fin : ∀ (x : Exit) (e' : Tr T) (h2 : HS) (us : List T), (x = .ret ∨ x = .normal) → run fn.ntmps (M.live g) b (Tr.of ts) h = some (x, e', h2) → resX M.G e' h2 fn.results.toList = some us → t = tup1 us → h' = h2 → ACalls P g ts σ (fun u σ' => u = t ∧ HCov σ' h') := by
            intro x e' h2 us hxx hrun hres ht hh
            subst ht; subst hh
            refine Bn hM.fits hf1 hb rfl rfl hf2 hl ?_
            have := hr _ _ _ _ _ _ _ _ hrun (envOf 0 ts) σ (fun i t hi => by have := envOf_at ts 0 i t (Tr.get_of hi); simpa using this) c
            refine this.mono ?_
            rintro y a' σ' ⟨rfl, k1, k2⟩
            have hrs := resX_ok k1 k2 _ _ hres
            rcases hxx with rfl | rfl
            · exact ⟨us, hrs, (Conv.wk (Wk.refl _)).cr ⟨rfl, k2⟩⟩
            · exact ⟨us, hrs, (Conv.wk (Wk.refl _)).cr ⟨rfl, k2⟩⟩
          split at hx
          · rename_i e' h2 hrun
            split at hx
            · rename_i us hres
              injection hx with hx; injection hx with q1 q2
              exact fin _ _ _ us (.inl rfl) hrun hres q1.symm q2.symm
            · cases hx
          · rename_i e' h2 hrun
            split at hx
            · rename_i us hres
              injection hx with hx; injection hx with q1 q2
              exact fin _ _ _ us (.inr rfl) hrun hres q1.symm q2.symm
            · cases hx
          · cases hx
      · cases hx
    · cases hx
  unfold callW at hx
  split at hx
  · rename_i f hf
    split at hx
    · rename_i r hr'
      injection hx with hx; subst hx
      exact hM.known g f hf ts h t h' hr' σ c
    · exact body hx
  · exact body hx

theorem jumps_ok {N : Nat} {lv : Nat → Bool} {run : Nat → (Nat → Bool) → Code → Tr T → HS → Out} (hr : RunOK P run) {b : Code} : ∀ (k : Nat) (r : Code) (e : Tr T) (h : HS) (x : Exit) (e' : Tr T) (h' : HS), jumps (run N lv) b k (run N lv r e h) = some (x, e', h') →
    ∀ a σ, CovE a e → HCov σ h → ∀ av w μ, Inv w μ σ → RelA w μ σ N av a → SW P b r (fun y av' w' => ∃ a2 σ2 μ2, Ev w μ σ w' μ2 σ2 ∧ Inv w' μ2 σ2 ∧ RelA w' μ2 σ2 N av' a2 ∧ (y = x ∧ CovE a2 e' ∧ HCov σ2 h')) av w
  | 0, r, e, h, x, e', h', hx, a, σ, ce, c, av, w, μ, hi, hra => by simp [jumps] at hx
  | k + 1, r, e, h, x, e', h', hx, a, σ, ce, c, av, w, μ, hi, hra => by
    simp only [jumps] at hx
    cases hrun : run N lv r e h with
    | none => rw [hrun] at hx; cases hx
    | some q =>
      obtain ⟨y, e1, h1⟩ := q
      rw [hrun] at hx
      refine sw_step (wp_mono (hr _ _ _ _ _ _ _ _ hrun a σ ce c av w μ hi hra) ?_)
      rintro z av' w' ⟨a', σ', μ', k1, k2, k3, rfl, k4, k5⟩
      cases z with
      | goto l =>
        simp only [sjump]
        simp only at hx
        cases hf : findLabel b l with
        | some rest =>
          rw [hf] at hx
          simp only at hx ⊢
          refine sw_mono (jumps_ok hr k rest e1 h1 x e' h' hx a' σ' k4 k5 av' w' μ' k2 k3) ?_
          rintro y av2 w2 ⟨a2, σ2, μ2, l1, l2, l3, l4⟩
          exact ⟨a2, σ2, μ2, k1.trans l1, l2, l3, l4⟩
        | none =>
          rw [hf] at hx
          simp only at hx ⊢
          injection hx with hx; injection hx with q1 hx; injection hx with q2 q3; subst q1; subst q2; subst q3
          exact ⟨a', σ', μ', k1, k2, k3, rfl, k4, k5⟩
      | normal =>
        simp only at hx
        injection hx with hx; injection hx with q1 hx; injection hx with q2 q3; subst q1; subst q2; subst q3
        exact ⟨a', σ', μ', k1, k2, k3, rfl, k4, k5⟩
      | exit id =>
        simp only at hx
        injection hx with hx; injection hx with q1 hx; injection hx with q2 q3; subst q1; subst q2; subst q3
        exact ⟨a', σ', μ', k1, k2, k3, rfl, k4, k5⟩
      | ret =>
        simp only at hx
        injection hx with hx; injection hx with q1 hx; injection hx with q2 q3; subst q1; subst q2; subst q3
        exact ⟨a', σ', μ', k1, k2, k3, rfl, k4, k5⟩
      | panic ch =>
        simp only at hx
        injection hx with hx; injection hx with q1 hx; injection hx with q2 q3; subst q1; subst q2; subst q3
        exact ⟨a', σ', μ', k1, k2, k3, rfl, k4, k5⟩
      | outgrown =>
        simp only at hx
        injection hx with hx; injection hx with q1 hx; injection hx with q2 q3; subst q1; subst q2; subst q3
        exact ⟨a', σ', μ', k1, k2, k3, rfl, k4, k5⟩

theorem exec_ok (hM : MachOK P M) : ∀ n, RunOK P (exec M n)
  | 0 => fun N lv c e h x e' h' hx => by simp [exec] at hx
  | n + 1 => by
    have ih := exec_ok hM n
    have hcall := callW_ok hM ih
    intro N lv c e h x e' h' hx a σ ce cv
    have ce' := ce
    cases c with
    | skip => simp only [exec] at hx; injection hx with hx; injection hx with q1 hx; injection hx with q2 q3; subst q1; subst q2; subst q3; exact Ap ⟨rfl, ce, cv⟩
    | label l => simp only [exec] at hx; injection hx with hx; injection hx with q1 hx; injection hx with q2 q3; subst q1; subst q2; subst q3; exact aw_label ⟨rfl, ce, cv⟩
    | exit l => simp only [exec] at hx; injection hx with hx; injection hx with q1 hx; injection hx with q2 q3; subst q1; subst q2; subst q3; exact Aw ⟨rfl, ce, cv⟩
    | goto l => simp only [exec] at hx; injection hx with hx; injection hx with q1 hx; injection hx with q2 q3; subst q1; subst q2; subst q3; exact aw_goto ⟨rfl, ce, cv⟩
    | ret => simp only [exec] at hx; injection hx with hx; injection hx with q1 hx; injection hx with q2 q3; subst q1; subst q2; subst q3; exact Ay ⟨rfl, ce, cv⟩
    | region id ops draw =>
      simp only [exec] at hx
      split at hx
      · rename_i e1 h1 hrun
        injection hx with hx; injection hx with q1 hx; injection hx with q2 q3; subst q1; subst q2; subst q3
        obtain ⟨os⟩ := ops
        cases draw with
        | true =>
          rw [cond_true] at hrun
          exact aw_drawX hM.mix hM.fits hcall hrun ce cv
        | false =>
          rw [cond_false] at hrun
          refine aw_region ?_
          have := runOps_sound hM.fits hcall os 0 e h e1 h1 a σ hrun rfl ce cv
          rwa [show List.range' 0 os.length = List.range (⟨os⟩ : Array Oper).size by rw [List.range_eq_range']; rfl] at this
      · cases hx
    | seq p q =>
      simp only [exec] at hx
      refine aw_seq ?_
      cases hp : exec M n N lv p e h with
      | none => rw [hp] at hx; cases hx
      | some r =>
        obtain ⟨y, e1, h1⟩ := r
        rw [hp] at hx
        refine (ih _ _ _ _ _ _ _ _ hp a σ ce cv).mono ?_
        rintro z a' σ' ⟨rfl, k1, k2⟩
        cases z with
        | normal => exact ih _ _ _ _ _ _ _ _ hx a' σ' k1 k2
        | exit id => simp only at hx; injection hx with hx; injection hx with q1 hx; injection hx with q2 q3; subst q1; subst q2; subst q3; exact ⟨rfl, k1, k2⟩
        | goto id => simp only at hx; injection hx with hx; injection hx with q1 hx; injection hx with q2 q3; subst q1; subst q2; subst q3; exact ⟨rfl, k1, k2⟩
        | ret => simp only at hx; injection hx with hx; injection hx with q1 hx; injection hx with q2 q3; subst q1; subst q2; subst q3; exact ⟨rfl, k1, k2⟩
        | panic id => simp only at hx; injection hx with hx; injection hx with q1 hx; injection hx with q2 q3; subst q1; subst q2; subst q3; exact ⟨rfl, k1, k2⟩
        | outgrown => simp only at hx; injection hx with hx; injection hx with q1 hx; injection hx with q2 q3; subst q1; subst q2; subst q3; exact ⟨rfl, k1, k2⟩
    | cond cc p q =>
      simp only [exec] at hx
      split at hx
      · rename_i t ht
        exact aw_cond (ce.ev ht) (ih _ _ _ _ _ _ _ _ hx a σ ce cv)
      · cases hx
    | block id b =>
      simp only [exec] at hx
      refine aw_block ?_
      cases hp : exec M n N lv b e h with
      | none => rw [hp] at hx; cases hx
      | some r =>
        obtain ⟨y, e1, h1⟩ := r
        rw [hp] at hx
        refine (ih _ _ _ _ _ _ _ _ hp a σ ce cv).mono ?_
        rintro z a' σ' ⟨rfl, k1, k2⟩
        cases z with
        | exit id' =>
          simp only at hx
          simp only [Ab]
          cases hb : Nat.beq id' id with
          | true => rw [hb] at hx; simp only [cond_true] at hx ⊢; injection hx with hx; injection hx with q1 hx; injection hx with q2 q3; subst q1; subst q2; subst q3; exact ⟨rfl, k1, k2⟩
          | false => rw [hb] at hx; simp only [cond_false] at hx ⊢; injection hx with hx; injection hx with q1 hx; injection hx with q2 q3; subst q1; subst q2; subst q3; exact ⟨rfl, k1, k2⟩
        | normal => simp only at hx; injection hx with hx; injection hx with q1 hx; injection hx with q2 q3; subst q1; subst q2; subst q3; exact ⟨rfl, k1, k2⟩
        | goto id => simp only at hx; injection hx with hx; injection hx with q1 hx; injection hx with q2 q3; subst q1; subst q2; subst q3; exact ⟨rfl, k1, k2⟩
        | ret => simp only at hx; injection hx with hx; injection hx with q1 hx; injection hx with q2 q3; subst q1; subst q2; subst q3; exact ⟨rfl, k1, k2⟩
        | panic id => simp only at hx; injection hx with hx; injection hx with q1 hx; injection hx with q2 q3; subst q1; subst q2; subst q3; exact ⟨rfl, k1, k2⟩
        | outgrown => simp only at hx; injection hx with hx; injection hx with q1 hx; injection hx with q2 q3; subst q1; subst q2; subst q3; exact ⟨rfl, k1, k2⟩
    | loop b =>
      simp only [exec] at hx
      intro av w μ hi hra
      refine loop_of_lw ?_
      -- as often as there is fuel
      have key : ∀ m, m ≤ n → ∀ e h, (match exec M m N lv b e h with
          | some (.normal, e', h') => exec M m N lv (.loop b) e' h'
          | r => r) = some (x, e', h') → ∀ a σ, CovE a e → HCov σ h → ∀ av w μ, Inv w μ σ → RelA w μ σ N av a →
          LW P b (fun y av' w' => ∃ a2 σ2 μ2, Ev w μ σ w' μ2 σ2 ∧ Inv w' μ2 σ2 ∧ RelA w' μ2 σ2 N av' a2 ∧ (y = x ∧ CovE a2 e' ∧ HCov σ2 h')) av w := by
        intro m
        induction m with
        | zero => intro hm e h hx; simp [exec] at hx
        | succ m ihm =>
          intro hm e h hx a σ ce cv
          refine aw_loop_unfold ?_
          cases hp : exec M (m + 1) N lv b e h with
          | none => rw [hp] at hx; cases hx
          | some r =>
            obtain ⟨y, e1, h1⟩ := r
            rw [hp] at hx
            have ihb : RunOK P (exec M (m + 1)) := by
              by_cases hmn : m + 1 = n
              · rw [hmn]; exact ih
              · exact exec_ok hM (m + 1)
            refine (ihb _ _ _ _ _ _ _ _ hp a σ ce cv).mono ?_
            rintro z a' σ' ⟨rfl, k1, k2⟩
            cases z with
            | normal =>
              simp only [exec] at hx
              exact ihm (by omega) e1 h1 hx a' σ' k1 k2
            | exit id => simp only at hx; injection hx with hx; injection hx with q1 hx; injection hx with q2 q3; subst q1; subst q2; subst q3; exact ⟨rfl, k1, k2⟩
            | goto id => simp only at hx; injection hx with hx; injection hx with q1 hx; injection hx with q2 q3; subst q1; subst q2; subst q3; exact ⟨rfl, k1, k2⟩
            | ret => simp only at hx; injection hx with hx; injection hx with q1 hx; injection hx with q2 q3; subst q1; subst q2; subst q3; exact ⟨rfl, k1, k2⟩
            | panic id => simp only at hx; injection hx with hx; injection hx with q1 hx; injection hx with q2 q3; subst q1; subst q2; subst q3; exact ⟨rfl, k1, k2⟩
            | outgrown => simp only at hx; injection hx with hx; injection hx with q1 hx; injection hx with q2 q3; subst q1; subst q2; subst q3; exact ⟨rfl, k1, k2⟩
      exact key n (Nat.le_refl _) e h hx a σ ce cv av w μ hi hra
    | scope b =>
      simp only [exec] at hx
      intro av w μ hi hra
      exact scope_of_sw (jumps_ok ih n b e h x e' h' hx a σ ce cv av w μ hi hra)
    | rangeFunc f ps aa b => simp only [exec] at hx; cases hx
    | refuse why => simp only [exec] at hx; cases hx
termination_by n => n

theorem callX_ok (hM : MachOK P M) (n : Nat) : CallsOK P (callX M n) := callW_ok hM (exec_ok hM n)

def hs0 : HS := ⟨.leaf, .leaf, 0⟩
end
end Go.Ts
set_option linter.unusedVariables false
namespace Go.Ts
def tabG (t : Tr (Option TI)) (i : Nat) : Option TI := match t.get i with
  | some x => x
  | none => none
theorem tabG_fits {P : Program} {L : List (Option TI)} (h : Fits P (tab L)) : Fits P (tabG (Tr.of L)) := by
  intro t i ht
  refine h t i ?_
  unfold tabG at ht
  split at ht
  · rename_i x hx
    unfold tab; rw [Tr.get_of hx]; exact ht
  · cases ht
def namesOK : List Func → Bool
  | [] => true
  | f :: fs => !(f.name == "runtime.NumGoroutine") && namesOK fs
theorem namesOK_at : ∀ {l : List Func} {i : Nat} {f : Func}, namesOK l = true → l[i]? = some f → (f.name == "runtime.NumGoroutine") = false
  | [], i, f, _, h => by simp at h
  | g :: l, 0, f, hn, h => by
    simp at h; subst h
    simp only [namesOK, Bool.and_eq_true, Bool.not_eq_true'] at hn; exact hn.1
  | g :: l, i + 1, f, hn, h => by
    simp only [namesOK, Bool.and_eq_true] at hn
    exact namesOK_at hn.2 (by simpa using h)
theorem func_ok {P : Program} (hn : namesOK P.funcs.toList = true) (f : FuncId) (fn : Func) (h : (Tr.of P.funcs.toList).get f = some fn) : P.funcs[f]? = some fn ∧ (fn.name == "runtime.NumGoroutine") = false := by
  have h1 := Tr.get_of h
  exact ⟨by simpa using h1, namesOK_at hn h1⟩
end Go.Ts
namespace Go.Proofs.Ytnmpgipfbbilbaa
open Go.Ts
noncomputable def GT : Tr (Option TI) := Tr.of L
noncomputable def FT : Tr Func := Tr.of Try.prog.funcs.toList
noncomputable def mach (live : FuncId → Nat → Bool) (known : FuncId → Option (List T → HS → Option (T × HS))) : Mach := ⟨tabG GT, FT, live, known⟩
theorem names_ok : namesOK Try.prog.funcs.toList = true := by kernel_rfl
set_option maxRecDepth 100000 in
theorem mach_ok (live : FuncId → Nat → Bool) {known : FuncId → Option (List T → HS → Option (T × HS))} (hk : ∀ g f, known g = some f → ∀ ts h t h', f ts h = some (t, h') → ∀ σ, HCov σ h → ACalls Try.prog g ts σ (fun u σ' => u = t ∧ HCov σ' h')) :
    MachOK Try.prog (mach live known) := ⟨by kernel_rfl, tabG_fits hG, func_ok names_ok, hk⟩
def noKnown (_ : FuncId) : Option (List T → HS → Option (T × HS)) := none
end Go.Proofs.Ytnmpgipfbbilbaa
set_option linter.unusedVariables false
set_option linter.unusedSimpArgs false
namespace Go.Ts

section
variable {P : Program} {σ : St}
theorem HCov.newT {h : HS} (c : HCov σ h) : HCov (σ.newT h.nx) ⟨h.L, h.R.set h.nx (), h.nx + 1⟩ := by
  refine ⟨c.th, c.mp, fun l u hl => ?_, by simp [St.newT, c.nx]⟩
  rcases Tr.get_set (show (h.R.set h.nx ()).get l = some u from hl) with ⟨q1, _⟩ | ⟨q1, q2⟩
  · subst q1; exact List.mem_cons_self
  · exact List.mem_cons_of_mem _ (c.room l u q2)
end
end Go.Ts
set_option linter.unusedVariables false
set_option linter.unusedSimpArgs false
namespace Go.Ts
section
variable {P : Program} {M : Mach}
theorem HCov.none {σ : St} {h : HS} (c : HCov σ h) : HCov σ ⟨.leaf, .leaf, h.nx⟩ :=
  ⟨fun i n zn z ov hi => by simp [Tr.get] at hi, fun i es hi => by simp [Tr.get] at hi, fun k u hk => by simp [Tr.get] at hk, c.nx⟩
theorem cold_pure {f nx : Nat} (hc : ∀ σ, HCov σ hs0 → ACalls P f [] σ (fun u σ' => u = .bool true ∧ HCov σ' ⟨.leaf, .leaf, nx⟩)) : Pure P f [] (.bool true) := by
  intro off
  have hcov : HCov ⟨[], [], off, some 0⟩ hs0 := ⟨fun i n zn z ov h => by simp [hs0, Tr.get] at h, fun i es h => by simp [hs0, Tr.get] at h, fun k u h => by simp [hs0, Tr.get] at h, rfl⟩
  obtain ⟨h1, h2⟩ := hc _ hcov
  refine ⟨h1, fun vs w μ hi hn hr => ?_⟩
  have hi' : Inv w ⟨fun _ => none, fun _ => none⟩ ⟨[], [], off, some 0⟩ := by
    refine ⟨fun i ts h => by simp at h, fun i es h => by simp at h, fun n m i j x y b p q h => by simp at h, fun k h => by simp at h, fun n m k l b f t g u h => by simp at h, ⟨0, fun i _ => ⟨rfl, rfl⟩, fun m hm => by injection hm with hm; exact hm.symm⟩, fun b o h => hi.offlt b o h, fun i ob b p h => by simp at h⟩
  refine (h2 vs w _ hi' hn (fun j t v h => by simp at h)).mono ?_
  rintro e w' ⟨v, t, σ', μ', rfl, ev, hi2, rv, rfl, _⟩
  have noL : ∀ b, ¬ Live μ ⟨[], [], off, none⟩ b := by
    rintro b (⟨i, ob, p, h, _⟩ | ⟨k, f, t, h, _⟩) <;> simp at h
  have noL' : ∀ b, ¬ Live ⟨fun _ => none, fun _ => none⟩ ⟨[], [], off, some 0⟩ b := by
    rintro b (⟨i, ob, p, h, _⟩ | ⟨k, f, t, h, _⟩) <;> simp at h
  refine ⟨v, _, ⟨[], [], off, none⟩, μ, rfl, ⟨ev.below, fun _ _ h => h, fun _ _ h => h, rfl, ev.shape, fun b hb hl => ⟨noL b, (ev.live b hb (noL' b)).2⟩, fun b o him => ?_⟩, ?_, ?_, rfl, rfl⟩
  · obtain ⟨k1, k2⟩ := ev.imm b o ⟨him.lt, him.off, fun i ob p h => by simp at h, fun k f t h => by simp at h⟩
    exact ⟨⟨k1.lt, him.off, fun i ob p h => by simp at h, fun k f t h => by simp at h⟩, k2⟩
  · obtain ⟨n, hn1, _⟩ := hi.fin
    exact ⟨fun i ts h => by simp at h, fun i es h => by simp at h, fun n m i j x y b p q h => by simp at h, fun k h => by simp at h, fun n m k l b f t g u h => by simp at h, ⟨n, hn1, fun m hm => by simp at hm⟩, fun b o h => Nat.lt_of_lt_of_le (hi.offlt b o h) ev.below.size, fun i ob b p h => by simp at h⟩
  · cases rv; exact .bool _
theorem run_pure (hM : MachOK P M) {n f nx : Nat} (h : (match callX M n f [] hs0 with | some (.bool true, h') => Nat.beq h'.nx nx | _ => false) = true) : Pure P f [] (.bool true) := by
  refine cold_pure (nx := nx) fun σ c => ?_
  revert h
  cases hx : callX M n f [] hs0 with
  | none => intro h; cases h
  | some q =>
    obtain ⟨t, h'⟩ := q
    cases t with
    | bool b => cases b with
      | true =>
        intro h
        refine (callX_ok hM n f [] hs0 _ h' hx σ c).mono ?_
        rintro u σ' ⟨rfl, k⟩
        have := k.none
        rw [Nat.eq_of_beq_eq_true h] at this
        exact ⟨rfl, this⟩
      | false => intro h; cases h
    | _ => intro h; cases h
theorem run_pure0 (hM : MachOK P M) {n f : Nat} (h : (match callX M n f [] hs0 with | some (.bool true, _) => true | _ => false) = true) : Pure P f [] (.bool true) := by
  revert h
  cases hx : callX M n f [] hs0 with
  | none => intro h; cases h
  | some q =>
    obtain ⟨t, h'⟩ := q
    cases t with
    | bool b => cases b with
      | true =>
        intro _
        refine cold_pure (nx := h'.nx) fun σ c => (callX_ok hM n f [] hs0 _ h' hx σ c).mono ?_
        rintro u σ' ⟨rfl, k⟩
        exact ⟨rfl, k.none⟩
      | false => intro h; cases h
    | _ => intro h; cases h
end
end Go.Ts
namespace Go.Proofs.Ytnmpgipfbbilbaa
open Go.Ts
def lvC (f _t : Nat) : Bool := Nat.beq f 28
theorem kn0_ok : ∀ g f, noKnown g = some f → ∀ ts h t h', f ts h = some (t, h') → ∀ σ, HCov σ h → ACalls Try.prog g ts σ (fun u σ' => u = t ∧ HCov σ' h') := fun g f h => by cases h
set_option maxRecDepth 100000 in
theorem c_begun : Ts.Pure Try.prog 8 [] (.bool true) := run_pure0 (M := mach lvC noKnown) (mach_ok lvC kn0_ok) (n := 20000) (by kernel_rfl)
end Go.Proofs.Ytnmpgipfbbilbaa
namespace Go.Ts
set_option linter.unusedSimpArgs false
set_option linter.unusedVariables false
section
variable {G : Nat → Option TI}
theorem wf_u16 {n : Int} (h : (Lit.int .u16 n).wf = true) : 0 ≤ n ∧ n < 65536 := by
  simp only [Lit.wf, IntKind.min, IntKind.max, IntKind.bits, IntKind.signed, Bool.and_eq_true] at h; simp at h; omega
theorem argTy_cells {n t : Nat} {x : T} {ti : TI} (h : ArgTy G n t x) (ht : G t = some ti) (hd : ti.d.agg = false) : Ty G n t [x] := by
  have h1 := h.1
  rwa [(h.2 _ ht).2 hd] at h1
theorem ty_slice {n t e : Nat} {cs : List T} {ti : TI} (h : Ty G (n + 1) t cs) (ht : G t = some ti) (htd : ti.d = .slice e) :
    ∃ xs, cs = [.sl ((sizeT G e).getD 0) .no xs] ∧ xs.length ≤ bigLen ∧ ∀ y ∈ xs, Ty G n e y.cells ∧ AggOK G e y := by
  simpa only [Ty, ht, htd] using h
theorem cats_of_ty {n e : Nat} {ie : TI} (he : G e = some ie) (hed : ie.d = .int .u16) : ∀ (xs : List T), (∀ y ∈ xs, Ty G (n + 1) e y.cells ∧ AggOK G e y) → ∃ b : List UInt16, xs = b.map hT
  | [], _ => ⟨[], rfl⟩
  | x :: xs, h => by
    obtain ⟨b, hb⟩ := cats_of_ty he hed xs (fun y hy => h y (List.mem_cons_of_mem _ hy))
    obtain ⟨h1, h2⟩ := h x List.mem_cons_self
    simp only [Ty, he, hed] at h1
    obtain ⟨v, hv, hw⟩ := h1
    obtain ⟨l, u⟩ := wf_u16 hw
    refine ⟨UInt16.ofNat v.toNat :: b, ?_⟩
    have : x = .int .u16 v := by
      have h5 := (h2 _ he).2 (by rw [hed]; rfl)
      rw [h5] at hv; injection hv
    subst this
    rw [hb, List.map_cons]
    congr 1
    unfold hT
    have : (UInt16.ofNat v.toNat).toNat = v.toNat := by simp [UInt16.toNat_ofNat']; omega
    rw [this]; congr 1; omega
theorem ty_cats {n t e : Nat} {cs : List T} {ti ie : TI} (h : Ty G (n + 2) t cs) (ht : G t = some ti) (htd : ti.d = .slice e) (he : G e = some ie) (hed : ie.d = .int .u16) (hs : ie.size = 1) : ∃ b : List UInt16, cs = [cT b] ∧ b.length ≤ bigLen := by
  obtain ⟨xs, h1, h2, h3⟩ := ty_slice h ht htd
  obtain ⟨b, rfl⟩ := cats_of_ty he hed xs h3
  exact ⟨b, by rw [h1]; simp [sizeT, he, hs, cT], by simpa using h2⟩
theorem argTy_cats {n t e : Nat} {x : T} {ti ie : TI} (h : ArgTy G (n + 2) t x) (ht : G t = some ti) (htd : ti.d = .slice e) (he : G e = some ie) (hed : ie.d = .int .u16) (hs : ie.size = 1) : ∃ b : List UInt16, x = cT b ∧ b.length ≤ bigLen := by
  obtain ⟨b, h1, h2⟩ := ty_cats (argTy_cells h ht (by rw [htd]; rfl)) ht htd he hed hs
  injection h1 with h1
  exact ⟨b, h1, h2⟩
end
end Go.Ts
namespace Go.Proofs.Ytnmpgipfbbilbaa
open Go.Ts Go.Sets
set_option linter.unusedSimpArgs false
set_option linter.unusedVariables false
attribute [local irreducible] Go.Ts.AW Go.Ts.AOps Go.Ts.AL Go.Ts.AOp Go.Ts.ACalls Go.Ts.DL Go.Ts.DQ Go.Ts.EL
theorem same_eq {x y : T} {a : List UInt16} (hx : catsT x = some a) (hy : catsT y = some a) (hl : a.length ≤ 4294967296) : Pure Try.prog 11 [x, y] (.bool true) := by
  have := ref_SameSet hx hy hl hl
  rwa [decide_eq_true rfl] at this
theorem same_is {x y : T} {a b : List UInt16} {s : Bool} (hx : catsT x = some a) (hy : catsT y = some b) (hs : decide (a = b) = s) (hl : a.length ≤ 4294967296) (hm : b.length ≤ 4294967296) : Pure Try.prog 11 [x, y] (.bool s) := by
  have := ref_SameSet hx hy hl hm
  rwa [hs] at this
theorem len_mk (l : List UInt16) (n : Nat) (h : l.length ≤ n) : (mk l).length ≤ n := Nat.le_trans (mk_length_le l) h
theorem sub_iff {a b : List UInt16} (ha : Up a) (hb : Up b) : B0 kOr a b = b ↔ B0 kLess a b = [] := by
  constructor
  · intro h
    rw [List.eq_nil_iff_forall_not_mem]
    intro z hz
    rw [less_mem ha hb] at hz
    exact hz.2 (h ▸ (or_mem ha hb z).2 (.inl hz.1))
  · intro h
    refine up_ext (merge_up _ _ _ ha hb) hb fun z => ?_
    rw [or_mem ha hb]
    refine ⟨fun hz => ?_, .inr⟩
    rcases hz with hz | hz
    · by_cases hb2 : z ∈ b
      · exact hb2
      · have := (less_mem ha hb z).2 ⟨hz, hb2⟩
        rw [h] at this; cases this
    · exact hz
theorem lattice_pure {l m n : List UInt16} (hl : l.length ≤ 140737488351232) (hm : m.length ≤ 140737488351232) (hn : n.length ≤ 140737488351232) : Ts.Pure Try.prog 6 [cT l, cT m, cT n] (.bool true) := by
  by_cases h1 : l.length ≤ 20
  case neg =>
    intro off
    refine Bn (N := 125) (rs := [.tmp 6]) hG Try.func6 rfl rfl rfl rfl rfl ?_
    repeat' (first
    | ((show AL _ _ _ _ _ _ _ _; refine Ai Y ?_); (first
      | (show AOp _ _ ⟨_, .move _, _, _, _, _⟩ _ _ _; refine Aq hG Y Y ?_)
      | (show AOp _ _ ⟨_, .assign _, _, _, _, _⟩ _ _ _; refine A7 hG Y Y ?_)
      | (show AOp _ _ ⟨_, .call ⟨.builtin .len, _, _⟩, _, _, _, _⟩ _ _ _; first | refine r_lenm hG Y Y Y Y ?_ | refine r_len hG Y Y Y Y Y ?_)
      | (show AOp _ _ ⟨_, .binOp _ _ _ _ _, _, _, _, _⟩ _ _ _; first | refine A2 hG Y Y Y Y Y (by omega) ?_ | refine A1 hG Y Y Y Y Y (by omega) ?_ | (refine Al hG Y Y Y Y Y (fun h => ?_) (fun h => ?_)) | refine r_beq hG Y Y Y Y Y ?_)
      | (show AOp _ _ ⟨_, .pick _ _ _, _, _, _, _⟩ _ _ _; refine Bc hG Y Y Y ?_)
      | (show AOp _ _ ⟨_, .unOp _ _ _, _, _, _, _⟩ _ _ _; refine Bp hG Y Y Y ?_)
      | (show AOp _ _ ⟨_, .call ⟨.value _, _, _⟩, _, _, _, _⟩ _ _ _; first | refine Bi Y Y Y Y Y (by first | (apply c_begun <;> (first | assumption | omega | exact Ae _ _ | exact Av _ | exact Ak _ _ | exact A0 _ | rfl | (simp; omega))) | fail) ?_ | fail)
      | refine r_q hG Y Y Y ?_))
    | (show AL _ _ _ _ _ _ _ _; first | refine Bl Y Y Y ?_ | (refine Ar ?_; first | show AW _ _ _ _ _ _ | show ∃ x', _ < _ ∧ _)) | (show AW _ _ (.seq _ _) _ _ _; refine Aj ?_; intro Q1) | (show AW _ _ (.region _ _ false) _ _ _; refine Ad ?_; intro O1) | (show AW _ _ (.cond _ _ _) _ _ _; first | refine As Y ?_ | refine Au Y ?_) | (show AW _ _ (.skip) _ _ _; refine Ap ?_; first | show AW _ _ _ _ _ _ | show ∃ x', _ < _ ∧ _) | (show AW _ _ (.ret) _ _ _; refine Ay ?_; try dsimp only [Az, Ab, A8, Ah]) | fail)
    exact B9 (Bq rfl Bo) (.refl _) rfl
  by_cases h2 : m.length ≤ 20
  case neg =>
    intro off
    refine Bn (N := 125) (rs := [.tmp 6]) hG Try.func6 rfl rfl rfl rfl rfl ?_
    repeat' (first
    | ((show AL _ _ _ _ _ _ _ _; refine Ai Y ?_); (first
      | (show AOp _ _ ⟨_, .move _, _, _, _, _⟩ _ _ _; refine Aq hG Y Y ?_)
      | (show AOp _ _ ⟨_, .assign _, _, _, _, _⟩ _ _ _; refine A7 hG Y Y ?_)
      | (show AOp _ _ ⟨_, .call ⟨.builtin .len, _, _⟩, _, _, _, _⟩ _ _ _; first | refine r_lenm hG Y Y Y Y ?_ | refine r_len hG Y Y Y Y Y ?_)
      | (show AOp _ _ ⟨_, .binOp _ _ _ _ _, _, _, _, _⟩ _ _ _; first | refine A2 hG Y Y Y Y Y (by omega) ?_ | refine A1 hG Y Y Y Y Y (by omega) ?_ | (refine Al hG Y Y Y Y Y (fun h => ?_) (fun h => ?_)) | refine r_beq hG Y Y Y Y Y ?_)
      | (show AOp _ _ ⟨_, .pick _ _ _, _, _, _, _⟩ _ _ _; refine Bc hG Y Y Y ?_)
      | (show AOp _ _ ⟨_, .unOp _ _ _, _, _, _, _⟩ _ _ _; refine Bp hG Y Y Y ?_)
      | (show AOp _ _ ⟨_, .call ⟨.value _, _, _⟩, _, _, _, _⟩ _ _ _; first | refine Bi Y Y Y Y Y (by first | (apply c_begun <;> (first | assumption | omega | exact Ae _ _ | exact Av _ | exact Ak _ _ | exact A0 _ | rfl | (simp; omega))) | fail) ?_ | fail)
      | refine r_q hG Y Y Y ?_))
    | (show AL _ _ _ _ _ _ _ _; first | refine Bl Y Y Y ?_ | (refine Ar ?_; first | show AW _ _ _ _ _ _ | show ∃ x', _ < _ ∧ _)) | (show AW _ _ (.seq _ _) _ _ _; refine Aj ?_; intro Q1) | (show AW _ _ (.region _ _ false) _ _ _; refine Ad ?_; intro O1) | (show AW _ _ (.cond _ _ _) _ _ _; first | refine As Y ?_ | refine Au Y ?_) | (show AW _ _ (.skip) _ _ _; refine Ap ?_; first | show AW _ _ _ _ _ _ | show ∃ x', _ < _ ∧ _) | (show AW _ _ (.ret) _ _ _; refine Ay ?_; try dsimp only [Az, Ab, A8, Ah]) | fail)
    exact B9 (Bq rfl Bo) (.refl _) rfl
  by_cases h3 : n.length ≤ 20
  case neg =>
    intro off
    refine Bn (N := 125) (rs := [.tmp 6]) hG Try.func6 rfl rfl rfl rfl rfl ?_
    repeat' (first
    | ((show AL _ _ _ _ _ _ _ _; refine Ai Y ?_); (first
      | (show AOp _ _ ⟨_, .move _, _, _, _, _⟩ _ _ _; refine Aq hG Y Y ?_)
      | (show AOp _ _ ⟨_, .assign _, _, _, _, _⟩ _ _ _; refine A7 hG Y Y ?_)
      | (show AOp _ _ ⟨_, .call ⟨.builtin .len, _, _⟩, _, _, _, _⟩ _ _ _; first | refine r_lenm hG Y Y Y Y ?_ | refine r_len hG Y Y Y Y Y ?_)
      | (show AOp _ _ ⟨_, .binOp _ _ _ _ _, _, _, _, _⟩ _ _ _; first | refine A2 hG Y Y Y Y Y (by omega) ?_ | refine A1 hG Y Y Y Y Y (by omega) ?_ | (refine Al hG Y Y Y Y Y (fun h => ?_) (fun h => ?_)) | refine r_beq hG Y Y Y Y Y ?_)
      | (show AOp _ _ ⟨_, .pick _ _ _, _, _, _, _⟩ _ _ _; refine Bc hG Y Y Y ?_)
      | (show AOp _ _ ⟨_, .unOp _ _ _, _, _, _, _⟩ _ _ _; refine Bp hG Y Y Y ?_)
      | (show AOp _ _ ⟨_, .call ⟨.value _, _, _⟩, _, _, _, _⟩ _ _ _; first | refine Bi Y Y Y Y Y (by first | (apply c_begun <;> (first | assumption | omega | exact Ae _ _ | exact Av _ | exact Ak _ _ | exact A0 _ | rfl | (simp; omega))) | fail) ?_ | fail)
      | refine r_q hG Y Y Y ?_))
    | (show AL _ _ _ _ _ _ _ _; first | refine Bl Y Y Y ?_ | (refine Ar ?_; first | show AW _ _ _ _ _ _ | show ∃ x', _ < _ ∧ _)) | (show AW _ _ (.seq _ _) _ _ _; refine Aj ?_; intro Q1) | (show AW _ _ (.region _ _ false) _ _ _; refine Ad ?_; intro O1) | (show AW _ _ (.cond _ _ _) _ _ _; first | refine As Y ?_ | refine Au Y ?_) | (show AW _ _ (.skip) _ _ _; refine Ap ?_; first | show AW _ _ _ _ _ _ | show ∃ x', _ < _ ∧ _) | (show AW _ _ (.ret) _ _ _; refine Ay ?_; try dsimp only [Az, Ab, A8, Ah]) | fail)
    exact B9 (Bq rfl Bo) (.refl _) rfl
  have m1 := cats_Make (A0 l) (show l.length < 256 by omega)
  have m2 := cats_Make (A0 m) (show m.length < 256 by omega)
  have m3 := cats_Make (A0 n) (show n.length < 256 by omega)
  rw [mkS_eq] at m1 m2 m3
  have la := len_mk l 20 h1
  have lb := len_mk m 20 h2
  have lc := len_mk n 20 h3
  have ua := mk_up l
  have ub := mk_up m
  have uc := mk_up n
  generalize mk l = a at *
  generalize mk m = b at *
  generalize mk n = c at *
  have m4 : ∀ {x}, catsT x = some a → Pure Try.prog 12 [x] (cT a) := fun hx => by
    have := cats_Make hx (show a.length < 256 by omega)
    rwa [mkS_eq, mk_self ua] at this
  -- the lists
  obtain ⟨ab, hab⟩ : ∃ X, B0 kOr a b = X := ⟨_, rfl⟩
  obtain ⟨nab, hnab⟩ : ∃ X, B0 kAnd a b = X := ⟨_, rfl⟩
  obtain ⟨lab, hlab⟩ : ∃ X, B0 kLess a b = X := ⟨_, rfl⟩
  obtain ⟨bc, hbc⟩ : ∃ X, B0 kOr b c = X := ⟨_, rfl⟩
  obtain ⟨nac, hnac⟩ : ∃ X, B0 kAnd a c = X := ⟨_, rfl⟩
  obtain ⟨p, hp⟩ : ∃ X, B0 kAnd a bc = X := ⟨_, rfl⟩
  obtain ⟨q, hq⟩ : ∃ X, B0 kLess a bc = X := ⟨_, rfl⟩
  have uab : Up ab := hab ▸ merge_up _ _ _ ua ub
  have unab : Up nab := hnab ▸ merge_up _ _ _ ua ub
  have ulab : Up lab := hlab ▸ merge_up _ _ _ ua ub
  have ubc : Up bc := hbc ▸ merge_up _ _ _ ub uc
  have unac : Up nac := hnac ▸ merge_up _ _ _ ua uc
  have up : Up p := hp ▸ merge_up _ _ _ ua ubc
  have uq : Up q := hq ▸ merge_up _ _ _ ua ubc
  have kab : ab.length ≤ 40 := by have := B7 kOr a b; rw [hab] at this; omega
  have knab : nab.length ≤ 40 := by have := B7 kAnd a b; rw [hnab] at this; omega
  have klab : lab.length ≤ 40 := by have := B7 kLess a b; rw [hlab] at this; omega
  have kbc : bc.length ≤ 40 := by have := B7 kOr b c; rw [hbc] at this; omega
  have knac : nac.length ≤ 40 := by have := B7 kAnd a c; rw [hnac] at this; omega
  have kp : p.length ≤ 60 := by have := B7 kAnd a bc; rw [hp] at this; omega
  have kq : q.length ≤ 60 := by have := B7 kLess a bc; rw [hq] at this; omega
  have iab : ∀ z, z ∈ ab ↔ z ∈ a ∨ z ∈ b := fun z => by rw [← hab]; exact or_mem ua ub z
  have inab : ∀ z, z ∈ nab ↔ z ∈ a ∧ z ∈ b := fun z => by rw [← hnab]; exact and_mem ua ub z
  have ilab : ∀ z, z ∈ lab ↔ z ∈ a ∧ z ∉ b := fun z => by rw [← hlab]; exact less_mem ua ub z
  have ibc : ∀ z, z ∈ bc ↔ z ∈ b ∨ z ∈ c := fun z => by rw [← hbc]; exact or_mem ub uc z
  have inac : ∀ z, z ∈ nac ↔ z ∈ a ∧ z ∈ c := fun z => by rw [← hnac]; exact and_mem ua uc z
  have ip : ∀ z, z ∈ p ↔ z ∈ a ∧ z ∈ bc := fun z => by rw [← hp]; exact and_mem ua ubc z
  have iq : ∀ z, z ∈ q ↔ z ∈ a ∧ z ∉ bc := fun z => by rw [← hq]; exact less_mem ua ubc z
  -- what they come to
  have e1 : B0 kOr lab nab = a := up_ext (merge_up _ _ _ ulab unab) ua fun z => by rw [or_mem ulab unab, ilab, inab]; by_cases z ∈ b <;> simp [*]
  have e2 : B0 kAnd lab b = [] := by
    rw [List.eq_nil_iff_forall_not_mem]; intro z hz
    rw [and_mem ulab ub, ilab] at hz; exact hz.1.2 hz.2
  have e3 : B0 kOr nab nac = p := up_ext (merge_up _ _ _ unab unac) up fun z => by rw [or_mem unab unac, inab, inac, ip, ibc]; by_cases z ∈ a <;> simp [*]
  have e4 : B0 kLess lab c = q := up_ext (merge_up _ _ _ ulab uc) uq fun z => by rw [less_mem ulab uc, ilab, iq, ibc, not_or, and_assoc]
  have e5 : B0 kOr b a = ab := up_ext (merge_up _ _ _ ub ua) uab fun z => by rw [or_mem ub ua, iab, or_comm]
  obtain ⟨emp, hemp⟩ : ∃ X, B0 kAnd lab b = X := ⟨_, rfl⟩
  have kemp : emp.length = 0 := by rw [← hemp, e2]; rfl
  obtain ⟨s, hs⟩ : ∃ s, decide (ab = b) = s := ⟨_, rfl⟩
  have hs2 : decide (lab = []) = s := by rw [← hs, ← hab, ← hlab]; exact decide_eq_decide.2 (sub_iff ua ub).symm
  -- the contracts
  have o1 : ∀ {x y}, catsT x = some lab → catsT y = some nab → Owns Try.prog 17 [x, y] 1 (a.map hT) := fun hx hy => e1 ▸ cats_Or hx hy (by omega)
  have o2 : ∀ {x y}, catsT x = some b → catsT y = some c → Owns Try.prog 17 [x, y] 1 (bc.map hT) := fun hx hy => hbc ▸ cats_Or hx hy (by omega)
  have o3 : ∀ {x y}, catsT x = some nab → catsT y = some nac → Owns Try.prog 17 [x, y] 1 (p.map hT) := fun hx hy => e3 ▸ cats_Or hx hy (by omega)
  have o4 : ∀ {x y}, catsT x = some a → catsT y = some b → Owns Try.prog 17 [x, y] 1 (ab.map hT) := fun hx hy => hab ▸ cats_Or hx hy (by omega)
  have o5 : ∀ {x y}, catsT x = some b → catsT y = some a → Owns Try.prog 17 [x, y] 1 (ab.map hT) := fun hx hy => e5 ▸ cats_Or hx hy (by omega)
  have n1 : ∀ {x y}, catsT x = some a → catsT y = some b → Owns Try.prog 21 [x, y] 1 (nab.map hT) := fun hx hy => hnab ▸ cats_And hx hy (by omega)
  have n2 : ∀ {x y}, catsT x = some lab → catsT y = some b → Owns Try.prog 21 [x, y] 1 (emp.map hT) := fun hx hy => hemp ▸ cats_And hx hy (by omega)
  have n3 : ∀ {x y}, catsT x = some a → catsT y = some bc → Owns Try.prog 21 [x, y] 1 (p.map hT) := fun hx hy => hp ▸ cats_And hx hy (by omega)
  have n4 : ∀ {x y}, catsT x = some a → catsT y = some c → Owns Try.prog 21 [x, y] 1 (nac.map hT) := fun hx hy => hnac ▸ cats_And hx hy (by omega)
  have d1 : ∀ {x y}, catsT x = some a → catsT y = some b → Owns Try.prog 23 [x, y] 1 (lab.map hT) := fun hx hy => hlab ▸ cats_Less hx hy (by omega)
  have d2 : ∀ {x y}, catsT x = some a → catsT y = some bc → Owns Try.prog 23 [x, y] 1 (q.map hT) := fun hx hy => hq ▸ cats_Less hx hy (by omega)
  have d3 : ∀ {x y}, catsT x = some lab → catsT y = some c → Owns Try.prog 23 [x, y] 1 (q.map hT) := fun hx hy => e4 ▸ cats_Less hx hy (by omega)
  have i1 : ∀ {x y}, catsT x = some a → catsT y = some b → Pure Try.prog 25 [x, y] (.bool s) := fun hx hy => by
    have := cats_In hx hy (by omega); rwa [hlab, hs2] at this
  have s2 : ∀ {x y}, catsT x = some ab → catsT y = some b → Pure Try.prog 11 [x, y] (.bool s) := fun hx hy => same_is hx hy hs (by omega) (by omega)
  clear hemp hab hnab hlab hbc hnac hp hq uab unab ulab ubc unac up uq iab inab ilab ibc inac ip iq e1 e2 e3 e4 e5 ua ub uc hs
  cases s with
  | true =>
    have hz : lab.length = 0 := List.length_eq_zero_iff.2 (of_decide_eq_true hs2)
    intro off
    refine Bn (N := 125) (rs := [.tmp 6]) hG Try.func6 rfl rfl rfl rfl rfl ?_
    repeat' (first
    | ((show AL _ _ _ _ _ _ _ _; refine Ai Y ?_); (first
      | (show AOp _ _ ⟨_, .move _, _, _, _, _⟩ _ _ _; refine Aq hG Y Y ?_)
      | (show AOp _ _ ⟨_, .assign _, _, _, _, _⟩ _ _ _; refine A7 hG Y Y ?_)
      | (show AOp _ _ ⟨_, .call ⟨.builtin .len, _, _⟩, _, _, _, _⟩ _ _ _; first | refine r_lenm hG Y Y Y Y ?_ | refine r_len hG Y Y Y Y Y ?_)
      | (show AOp _ _ ⟨_, .binOp _ _ _ _ _, _, _, _, _⟩ _ _ _; first | refine A2 hG Y Y Y Y Y (by omega) ?_ | refine A1 hG Y Y Y Y Y (by omega) ?_ | (refine Al hG Y Y Y Y Y (fun h => ?_) (fun h => ?_)) | refine r_beq hG Y Y Y Y Y ?_)
      | (show AOp _ _ ⟨_, .pick _ _ _, _, _, _, _⟩ _ _ _; refine Bc hG Y Y Y ?_)
      | (show AOp _ _ ⟨_, .unOp _ _ _, _, _, _, _⟩ _ _ _; refine Bp hG Y Y Y ?_)
      | (show AOp _ _ ⟨_, .call ⟨.value _, _, _⟩, _, _, _, _⟩ _ _ _; first | refine Bi Y Y Y Y Y (by first | (apply c_begun <;> (first | assumption | omega | exact Ae _ _ | exact Av _ | exact Ak _ _ | exact A0 _ | rfl | (simp; omega))) | fail) ?_ | refine Bi Y Y Y Y Y (by first | (apply m1 <;> (first | assumption | omega | exact Ae _ _ | exact Av _ | exact Ak _ _ | exact A0 _ | rfl | (simp; omega))) | fail) ?_ | refine Bi Y Y Y Y Y (by first | (apply m2 <;> (first | assumption | omega | exact Ae _ _ | exact Av _ | exact Ak _ _ | exact A0 _ | rfl | (simp; omega))) | fail) ?_ | refine Bi Y Y Y Y Y (by first | (apply m3 <;> (first | assumption | omega | exact Ae _ _ | exact Av _ | exact Ak _ _ | exact A0 _ | rfl | (simp; omega))) | fail) ?_ | refine Bi Y Y Y Y Y (by first | (apply m4 <;> (first | assumption | omega | exact Ae _ _ | exact Av _ | exact Ak _ _ | exact A0 _ | rfl | (simp; omega))) | fail) ?_ | refine Bi Y Y Y Y Y (by first | (apply i1 <;> (first | assumption | omega | exact Ae _ _ | exact Av _ | exact Ak _ _ | exact A0 _ | rfl | (simp; omega))) | fail) ?_ | refine Bi Y Y Y Y Y (by first | (apply s2 <;> (first | assumption | omega | exact Ae _ _ | exact Av _ | exact Ak _ _ | exact A0 _ | rfl | (simp; omega))) | fail) ?_ | refine Bi Y Y Y Y Y (by first | (apply same_eq <;> (first | assumption | omega | exact Ae _ _ | exact Av _ | exact Ak _ _ | exact A0 _ | rfl | (simp; omega))) | fail) ?_ | (refine r_owns Y Y Y Y Y (by first | (apply o1 <;> (first | assumption | omega | exact Ae _ _ | exact Av _ | exact Ak _ _ | exact A0 _ | rfl | (simp; omega))) | fail) (fun k => ?_)) | (have := kk; clear this; refine Bi Y Y Y Y Y (Owns.pure (by first | (apply o1 <;> (first | assumption | omega | exact Ae _ _ | exact Av _ | exact Ak _ _ | exact A0 _ | rfl | (simp; omega))) | fail)) ?_) | (refine r_owns Y Y Y Y Y (by first | (apply o2 <;> (first | assumption | omega | exact Ae _ _ | exact Av _ | exact Ak _ _ | exact A0 _ | rfl | (simp; omega))) | fail) (fun k => ?_)) | (have := kk; clear this; refine Bi Y Y Y Y Y (Owns.pure (by first | (apply o2 <;> (first | assumption | omega | exact Ae _ _ | exact Av _ | exact Ak _ _ | exact A0 _ | rfl | (simp; omega))) | fail)) ?_) | (refine r_owns Y Y Y Y Y (by first | (apply o3 <;> (first | assumption | omega | exact Ae _ _ | exact Av _ | exact Ak _ _ | exact A0 _ | rfl | (simp; omega))) | fail) (fun k => ?_)) | (have := kk; clear this; refine Bi Y Y Y Y Y (Owns.pure (by first | (apply o3 <;> (first | assumption | omega | exact Ae _ _ | exact Av _ | exact Ak _ _ | exact A0 _ | rfl | (simp; omega))) | fail)) ?_) | (refine r_owns Y Y Y Y Y (by first | (apply o4 <;> (first | assumption | omega | exact Ae _ _ | exact Av _ | exact Ak _ _ | exact A0 _ | rfl | (simp; omega))) | fail) (fun k => ?_)) | (have := kk; clear this; refine Bi Y Y Y Y Y (Owns.pure (by first | (apply o4 <;> (first | assumption | omega | exact Ae _ _ | exact Av _ | exact Ak _ _ | exact A0 _ | rfl | (simp; omega))) | fail)) ?_) | (refine r_owns Y Y Y Y Y (by first | (apply o5 <;> (first | assumption | omega | exact Ae _ _ | exact Av _ | exact Ak _ _ | exact A0 _ | rfl | (simp; omega))) | fail) (fun k => ?_)) | (have := kk; clear this; refine Bi Y Y Y Y Y (Owns.pure (by first | (apply o5 <;> (first | assumption | omega | exact Ae _ _ | exact Av _ | exact Ak _ _ | exact A0 _ | rfl | (simp; omega))) | fail)) ?_) | (refine r_owns Y Y Y Y Y (by first | (apply n1 <;> (first | assumption | omega | exact Ae _ _ | exact Av _ | exact Ak _ _ | exact A0 _ | rfl | (simp; omega))) | fail) (fun k => ?_)) | (have := kk; clear this; refine Bi Y Y Y Y Y (Owns.pure (by first | (apply n1 <;> (first | assumption | omega | exact Ae _ _ | exact Av _ | exact Ak _ _ | exact A0 _ | rfl | (simp; omega))) | fail)) ?_) | (refine r_owns Y Y Y Y Y (by first | (apply n2 <;> (first | assumption | omega | exact Ae _ _ | exact Av _ | exact Ak _ _ | exact A0 _ | rfl | (simp; omega))) | fail) (fun k => ?_)) | (have := kk; clear this; refine Bi Y Y Y Y Y (Owns.pure (by first | (apply n2 <;> (first | assumption | omega | exact Ae _ _ | exact Av _ | exact Ak _ _ | exact A0 _ | rfl | (simp; omega))) | fail)) ?_) | (refine r_owns Y Y Y Y Y (by first | (apply n3 <;> (first | assumption | omega | exact Ae _ _ | exact Av _ | exact Ak _ _ | exact A0 _ | rfl | (simp; omega))) | fail) (fun k => ?_)) | (have := kk; clear this; refine Bi Y Y Y Y Y (Owns.pure (by first | (apply n3 <;> (first | assumption | omega | exact Ae _ _ | exact Av _ | exact Ak _ _ | exact A0 _ | rfl | (simp; omega))) | fail)) ?_) | (refine r_owns Y Y Y Y Y (by first | (apply n4 <;> (first | assumption | omega | exact Ae _ _ | exact Av _ | exact Ak _ _ | exact A0 _ | rfl | (simp; omega))) | fail) (fun k => ?_)) | (have := kk; clear this; refine Bi Y Y Y Y Y (Owns.pure (by first | (apply n4 <;> (first | assumption | omega | exact Ae _ _ | exact Av _ | exact Ak _ _ | exact A0 _ | rfl | (simp; omega))) | fail)) ?_) | (refine r_owns Y Y Y Y Y (by first | (apply d1 <;> (first | assumption | omega | exact Ae _ _ | exact Av _ | exact Ak _ _ | exact A0 _ | rfl | (simp; omega))) | fail) (fun k => ?_)) | (have := kk; clear this; refine Bi Y Y Y Y Y (Owns.pure (by first | (apply d1 <;> (first | assumption | omega | exact Ae _ _ | exact Av _ | exact Ak _ _ | exact A0 _ | rfl | (simp; omega))) | fail)) ?_) | (refine r_owns Y Y Y Y Y (by first | (apply d2 <;> (first | assumption | omega | exact Ae _ _ | exact Av _ | exact Ak _ _ | exact A0 _ | rfl | (simp; omega))) | fail) (fun k => ?_)) | (have := kk; clear this; refine Bi Y Y Y Y Y (Owns.pure (by first | (apply d2 <;> (first | assumption | omega | exact Ae _ _ | exact Av _ | exact Ak _ _ | exact A0 _ | rfl | (simp; omega))) | fail)) ?_) | (refine r_owns Y Y Y Y Y (by first | (apply d3 <;> (first | assumption | omega | exact Ae _ _ | exact Av _ | exact Ak _ _ | exact A0 _ | rfl | (simp; omega))) | fail) (fun k => ?_)) | (have := kk; clear this; refine Bi Y Y Y Y Y (Owns.pure (by first | (apply d3 <;> (first | assumption | omega | exact Ae _ _ | exact Av _ | exact Ak _ _ | exact A0 _ | rfl | (simp; omega))) | fail)) ?_) | fail)
      | refine r_q hG Y Y Y ?_))
    | (show AL _ _ _ _ _ _ _ _; first | refine Bl Y Y Y ?_ | (refine Ar ?_; first | show AW _ _ _ _ _ _ | show ∃ x', _ < _ ∧ _)) | (show AW _ _ (.seq _ _) _ _ _; refine Aj ?_; intro Q1) | (show AW _ _ (.region _ _ false) _ _ _; refine Ad ?_; intro O1) | (show AW _ _ (.cond _ _ _) _ _ _; first | refine As Y ?_ | refine Au Y ?_) | (show AW _ _ (.skip) _ _ _; refine Ap ?_; first | show AW _ _ _ _ _ _ | show ∃ x', _ < _ ∧ _) | (show AW _ _ (.ret) _ _ _; refine Ay ?_; try dsimp only [Az, Ab, A8, Ah]) | fail)
    exact B9 (Bq rfl Bo) (.refl _) rfl
  | false =>
    have hne : ¬ (lab.length = 0) := fun h => of_decide_eq_false hs2 (List.length_eq_zero_iff.1 h)
    intro off
    refine Bn (N := 125) (rs := [.tmp 6]) hG Try.func6 rfl rfl rfl rfl rfl ?_
    repeat' (first
    | ((show AL _ _ _ _ _ _ _ _; refine Ai Y ?_); (first
      | (show AOp _ _ ⟨_, .move _, _, _, _, _⟩ _ _ _; refine Aq hG Y Y ?_)
      | (show AOp _ _ ⟨_, .assign _, _, _, _, _⟩ _ _ _; refine A7 hG Y Y ?_)
      | (show AOp _ _ ⟨_, .call ⟨.builtin .len, _, _⟩, _, _, _, _⟩ _ _ _; first | refine r_lenm hG Y Y Y Y ?_ | refine r_len hG Y Y Y Y Y ?_)
      | (show AOp _ _ ⟨_, .binOp _ _ _ _ _, _, _, _, _⟩ _ _ _; first | refine A2 hG Y Y Y Y Y (by omega) ?_ | refine A1 hG Y Y Y Y Y (by omega) ?_ | (refine Al hG Y Y Y Y Y (fun h => ?_) (fun h => ?_)) | refine r_beq hG Y Y Y Y Y ?_)
      | (show AOp _ _ ⟨_, .pick _ _ _, _, _, _, _⟩ _ _ _; refine Bc hG Y Y Y ?_)
      | (show AOp _ _ ⟨_, .unOp _ _ _, _, _, _, _⟩ _ _ _; refine Bp hG Y Y Y ?_)
      | (show AOp _ _ ⟨_, .call ⟨.value _, _, _⟩, _, _, _, _⟩ _ _ _; first | refine Bi Y Y Y Y Y (by first | (apply c_begun <;> (first | assumption | omega | exact Ae _ _ | exact Av _ | exact Ak _ _ | exact A0 _ | rfl | (simp; omega))) | fail) ?_ | refine Bi Y Y Y Y Y (by first | (apply m1 <;> (first | assumption | omega | exact Ae _ _ | exact Av _ | exact Ak _ _ | exact A0 _ | rfl | (simp; omega))) | fail) ?_ | refine Bi Y Y Y Y Y (by first | (apply m2 <;> (first | assumption | omega | exact Ae _ _ | exact Av _ | exact Ak _ _ | exact A0 _ | rfl | (simp; omega))) | fail) ?_ | refine Bi Y Y Y Y Y (by first | (apply m3 <;> (first | assumption | omega | exact Ae _ _ | exact Av _ | exact Ak _ _ | exact A0 _ | rfl | (simp; omega))) | fail) ?_ | refine Bi Y Y Y Y Y (by first | (apply m4 <;> (first | assumption | omega | exact Ae _ _ | exact Av _ | exact Ak _ _ | exact A0 _ | rfl | (simp; omega))) | fail) ?_ | refine Bi Y Y Y Y Y (by first | (apply i1 <;> (first | assumption | omega | exact Ae _ _ | exact Av _ | exact Ak _ _ | exact A0 _ | rfl | (simp; omega))) | fail) ?_ | refine Bi Y Y Y Y Y (by first | (apply s2 <;> (first | assumption | omega | exact Ae _ _ | exact Av _ | exact Ak _ _ | exact A0 _ | rfl | (simp; omega))) | fail) ?_ | refine Bi Y Y Y Y Y (by first | (apply same_eq <;> (first | assumption | omega | exact Ae _ _ | exact Av _ | exact Ak _ _ | exact A0 _ | rfl | (simp; omega))) | fail) ?_ | (refine r_owns Y Y Y Y Y (by first | (apply o1 <;> (first | assumption | omega | exact Ae _ _ | exact Av _ | exact Ak _ _ | exact A0 _ | rfl | (simp; omega))) | fail) (fun k => ?_)) | (have := kk; clear this; refine Bi Y Y Y Y Y (Owns.pure (by first | (apply o1 <;> (first | assumption | omega | exact Ae _ _ | exact Av _ | exact Ak _ _ | exact A0 _ | rfl | (simp; omega))) | fail)) ?_) | (refine r_owns Y Y Y Y Y (by first | (apply o2 <;> (first | assumption | omega | exact Ae _ _ | exact Av _ | exact Ak _ _ | exact A0 _ | rfl | (simp; omega))) | fail) (fun k => ?_)) | (have := kk; clear this; refine Bi Y Y Y Y Y (Owns.pure (by first | (apply o2 <;> (first | assumption | omega | exact Ae _ _ | exact Av _ | exact Ak _ _ | exact A0 _ | rfl | (simp; omega))) | fail)) ?_) | (refine r_owns Y Y Y Y Y (by first | (apply o3 <;> (first | assumption | omega | exact Ae _ _ | exact Av _ | exact Ak _ _ | exact A0 _ | rfl | (simp; omega))) | fail) (fun k => ?_)) | (have := kk; clear this; refine Bi Y Y Y Y Y (Owns.pure (by first | (apply o3 <;> (first | assumption | omega | exact Ae _ _ | exact Av _ | exact Ak _ _ | exact A0 _ | rfl | (simp; omega))) | fail)) ?_) | (refine r_owns Y Y Y Y Y (by first | (apply o4 <;> (first | assumption | omega | exact Ae _ _ | exact Av _ | exact Ak _ _ | exact A0 _ | rfl | (simp; omega))) | fail) (fun k => ?_)) | (have := kk; clear this; refine Bi Y Y Y Y Y (Owns.pure (by first | (apply o4 <;> (first | assumption | omega | exact Ae _ _ | exact Av _ | exact Ak _ _ | exact A0 _ | rfl | (simp; omega))) | fail)) ?_) | (refine r_owns Y Y Y Y Y (by first | (apply o5 <;> (first | assumption | omega | exact Ae _ _ | exact Av _ | exact Ak _ _ | exact A0 _ | rfl | (simp; omega))) | fail) (fun k => ?_)) | (have := kk; clear this; refine Bi Y Y Y Y Y (Owns.pure (by first | (apply o5 <;> (first | assumption | omega | exact Ae _ _ | exact Av _ | exact Ak _ _ | exact A0 _ | rfl | (simp; omega))) | fail)) ?_) | (refine r_owns Y Y Y Y Y (by first | (apply n1 <;> (first | assumption | omega | exact Ae _ _ | exact Av _ | exact Ak _ _ | exact A0 _ | rfl | (simp; omega))) | fail) (fun k => ?_)) | (have := kk; clear this; refine Bi Y Y Y Y Y (Owns.pure (by first | (apply n1 <;> (first | assumption | omega | exact Ae _ _ | exact Av _ | exact Ak _ _ | exact A0 _ | rfl | (simp; omega))) | fail)) ?_) | (refine r_owns Y Y Y Y Y (by first | (apply n2 <;> (first | assumption | omega | exact Ae _ _ | exact Av _ | exact Ak _ _ | exact A0 _ | rfl | (simp; omega))) | fail) (fun k => ?_)) | (have := kk; clear this; refine Bi Y Y Y Y Y (Owns.pure (by first | (apply n2 <;> (first | assumption | omega | exact Ae _ _ | exact Av _ | exact Ak _ _ | exact A0 _ | rfl | (simp; omega))) | fail)) ?_) | (refine r_owns Y Y Y Y Y (by first | (apply n3 <;> (first | assumption | omega | exact Ae _ _ | exact Av _ | exact Ak _ _ | exact A0 _ | rfl | (simp; omega))) | fail) (fun k => ?_)) | (have := kk; clear this; refine Bi Y Y Y Y Y (Owns.pure (by first | (apply n3 <;> (first | assumption | omega | exact Ae _ _ | exact Av _ | exact Ak _ _ | exact A0 _ | rfl | (simp; omega))) | fail)) ?_) | (refine r_owns Y Y Y Y Y (by first | (apply n4 <;> (first | assumption | omega | exact Ae _ _ | exact Av _ | exact Ak _ _ | exact A0 _ | rfl | (simp; omega))) | fail) (fun k => ?_)) | (have := kk; clear this; refine Bi Y Y Y Y Y (Owns.pure (by first | (apply n4 <;> (first | assumption | omega | exact Ae _ _ | exact Av _ | exact Ak _ _ | exact A0 _ | rfl | (simp; omega))) | fail)) ?_) | (refine r_owns Y Y Y Y Y (by first | (apply d1 <;> (first | assumption | omega | exact Ae _ _ | exact Av _ | exact Ak _ _ | exact A0 _ | rfl | (simp; omega))) | fail) (fun k => ?_)) | (have := kk; clear this; refine Bi Y Y Y Y Y (Owns.pure (by first | (apply d1 <;> (first | assumption | omega | exact Ae _ _ | exact Av _ | exact Ak _ _ | exact A0 _ | rfl | (simp; omega))) | fail)) ?_) | (refine r_owns Y Y Y Y Y (by first | (apply d2 <;> (first | assumption | omega | exact Ae _ _ | exact Av _ | exact Ak _ _ | exact A0 _ | rfl | (simp; omega))) | fail) (fun k => ?_)) | (have := kk; clear this; refine Bi Y Y Y Y Y (Owns.pure (by first | (apply d2 <;> (first | assumption | omega | exact Ae _ _ | exact Av _ | exact Ak _ _ | exact A0 _ | rfl | (simp; omega))) | fail)) ?_) | (refine r_owns Y Y Y Y Y (by first | (apply d3 <;> (first | assumption | omega | exact Ae _ _ | exact Av _ | exact Ak _ _ | exact A0 _ | rfl | (simp; omega))) | fail) (fun k => ?_)) | (have := kk; clear this; refine Bi Y Y Y Y Y (Owns.pure (by first | (apply d3 <;> (first | assumption | omega | exact Ae _ _ | exact Av _ | exact Ak _ _ | exact A0 _ | rfl | (simp; omega))) | fail)) ?_) | fail)
      | refine r_q hG Y Y Y ?_))
    | (show AL _ _ _ _ _ _ _ _; first | refine Bl Y Y Y ?_ | (refine Ar ?_; first | show AW _ _ _ _ _ _ | show ∃ x', _ < _ ∧ _)) | (show AW _ _ (.seq _ _) _ _ _; refine Aj ?_; intro Q1) | (show AW _ _ (.region _ _ false) _ _ _; refine Ad ?_; intro O1) | (show AW _ _ (.cond _ _ _) _ _ _; first | refine As Y ?_ | refine Au Y ?_) | (show AW _ _ (.skip) _ _ _; refine Ap ?_; first | show AW _ _ _ _ _ _ | show ∃ x', _ < _ ∧ _) | (show AW _ _ (.ret) _ _ _; refine Ay ?_; try dsimp only [Az, Ab, A8, Ah]) | fail)
    exact B9 (Bq rfl Bo) (.refl _) rfl
theorem catsLattice_law (_W : World) (x : T) (tx : ArgTy G 6 22 x) (y : T) (ty : ArgTy G 6 22 y) (z : T) (tz : ArgTy G 6 22 z) : ACalls Try.prog 6 [x, y, z] σ0 (fun r _ => r = .bool true) := by
  obtain ⟨l, rfl, hl⟩ := argTy_cats tx rfl rfl rfl rfl rfl
  obtain ⟨m, rfl, hm⟩ := argTy_cats ty rfl rfl rfl rfl rfl
  obtain ⟨n, rfl, hn⟩ := argTy_cats tz rfl rfl rfl rfl rfl
  exact (lattice_pure hl hm hn (fun _ _ => False)).mono fun _ _ h => h.1
end Go.Proofs.Ytnmpgipfbbilbaa
