/- A machine over trees: regions, code, calls; whatever it comes to, the program comes to. -/
import Derived.Test.YtholeicgmkjadaaTsXE2
set_option linter.unusedVariables false
set_option linter.unusedSimpArgs false
namespace Go.Ts

abbrev CallF := FuncId → List T → HS → Option (T × HS)
def okOp (N : Nat) (o : Oper) : Bool := fitsD N o.dst && (!isMk o.op || o.dst.isSome)

def runOps (G : Nat → Option TI) (lv : Nat → Bool) (callF : CallF) (all : List Oper) (N : Nat) : List Oper → Tr T → HS → Option (Tr T × HS)
  | [], e, h => some (e, h)
  | o :: os, e, h => cond (okOp N o) (match guardX all e o with
    | some true => match opX G lv callF e h o.op with
      | some (t, h') => runOps G lv callF all N os (putX e o.dst t) h'
      | none => none
    | some false => runOps G lv callF all N os (putX e o.dst (.tup [])) h
    | none => none) none

/-- New things that nothing looks at before one operation: that operation. -/
def userOf (ops : Array Oper) (d : Nat) : Nat → List Oper → Option Nat
  | _, [] => none
  | i, o :: os => cond (memB d (looks ops o)) (some i) (userOf ops d (i + 1) os)
def usersOK (ops : Array Oper) (ms : List Nat) (d u : Nat) : Nat → List Oper → Bool
  | _, [] => true
  | i, o :: os => (!memB d (looks ops o) || Nat.beq i u || fm ms i u) && usersOK ops ms d u (i + 1) os
def notAlloc : Op → Bool
  | .alloc _ => false
  | _ => true
def flX (lv : Nat → Bool) (os : List Oper) (ms : List Nat) (j : Nat) (o : Oper) : Option Nat :=
  match o with
  | ⟨some d, .alloc _, _, _, _, none⟩ => match userOf ⟨os⟩ d 0 os with
    | some u => match os[u]? with
      | some p => cond (Nat.blt j u && fm ms u j && isEff lv p.op && notAlloc p.op && usersOK ⟨os⟩ ms d u 0 os) (some u) none
      | none => none
    | none => none
  | _ => none
def flsX (lv : Nat → Bool) (all : List Oper) (ms : List Nat) : Nat → List Oper → List (Nat × Nat)
  | _, [] => []
  | j, o :: os => match flX lv all ms j o with
    | some u => (j, u) :: flsX lv all ms (j + 1) os
    | none => flsX lv all ms (j + 1) os
def flAt : List (Nat × Nat) → Nat → Option Nat
  | [], _ => none
  | (j, u) :: l, k => cond (Nat.beq j k) (some u) (flAt l k)
def effAt (lv : Nat → Bool) (os : List Oper) (k : Nat) : Bool := match os[k]? with
  | some o => isEff lv o.op
  | none => false
def bitX (m k : Nat) : Bool := Nat.beq (Nat.land 1 (Nat.shiftRight m k)) 1
def efMask (lv : Nat → Bool) (fls : List (Nat × Nat)) : Nat → List Oper → Nat
  | _, [] => 0
  | i, o :: os => cond (isEff lv o.op && (flAt fls i).isNone) (Nat.lor (2 ^ i) (efMask lv fls (i + 1) os)) (efMask lv fls (i + 1) os)
def regsOf (fls : List (Nat × Nat)) (u : Nat) : List Nat := (fls.filter fun p => Nat.beq p.2 u).map Prod.fst
/-- Which operation writes a slot. -/
def writers : Nat → List Oper → List (Nat × Nat)
  | _, [] => []
  | j, o :: os => match o.dst with
    | some s => (s, j) :: writers (j + 1) os
    | none => writers (j + 1) os
def fastOK (ops : Array Oper) (ms : List Nat) (efm : Nat) (W : List (Nat × Nat)) : Nat → Nat → List Oper → Bool
  | _, _, [] => true
  | i, dm, o :: os => (o.after.toList.all fun e => !Region.binds .any e || Nat.blt e.on i) &&
      (cond (bitX efm i) (Nat.beq (Nat.land (efm % 2 ^ i) (ms.getD i 0)) (efm % 2 ^ i)) true &&
      ((match o.dst with
        | some s => !bitX dm s
        | none => true) &&
      (((looks ops o).all fun s => match flAt W s with
        | some j => Nat.beq j i || cond (Nat.blt j i) (bitX (ms.getD i 0) j) (bitX (ms.getD j 0) i)
        | none => true) &&
      fastOK ops ms efm W (i + 1) (match o.dst with
        | some s => Nat.lor dm (2 ^ s)
        | none => dm) os)))
def regX (G : Nat → Option TI) (os : List Oper) : List Nat → Tr T → HS → Option (Tr T × HS)
  | [], e, h => some (e, h)
  | j :: js, e, h => match os[j]? with
    | some ⟨some d, .alloc ty, _, _, _, _⟩ => match G ty with
      | some ti => regX G os js (e.set d (.ptr h.nx 0)) (h.new (thOf ti.tree.cells))
      | none => none
    | _ => none
def rsF : List Nat → Nat → Nat → T
  | [], _, _ => .nilp
  | k :: ks, nx, j => cond (Nat.beq k j) (.ptr nx 0) (rsF ks (nx + 1) j)

structure Rec where
  e : Tr T
  h : HS
  e1 : Tr T
  h1 : HS
  r : Tr T
  t : T
  g : Bool
def runD (G : Nat → Option TI) (lv : Nat → Bool) (callF : CallF) (all : List Oper) (fls : List (Nat × Nat)) (N : Nat) : Nat → List Oper → Tr T → HS → Option (List Rec × Tr T × HS)
  | _, [], e, h => some ([], e, h)
  | i, o :: os, e, h => cond (okOp N o) (match flAt fls i with
    | some _ => match o.dst with
      | some d => match runD G lv callF all fls N (i + 1) os (e.del d) h with
        | some (rs, e2, h2) => some (⟨e, h, e, h, .leaf, .nilp, true⟩ :: rs, e2, h2)
        | none => none
      | none => none
    | none => match regX G all (regsOf fls i) e h with
      | some (e1, h1) => match guardX all (fromEnv (restrL e1 (looks ⟨all⟩ o))) o with
        | some true => match opX G lv callF (fromEnv (restrL e1 (looks ⟨all⟩ o))) h1 o.op with
          | some (t, h') => match runD G lv callF all fls N (i + 1) os (putX e1 o.dst t) h' with
            | some (rs, e2, h2) => some (⟨e, h, e1, h1, fromEnv (restrL e1 (looks ⟨all⟩ o)), t, true⟩ :: rs, e2, h2)
            | none => none
          | none => none
        | some false => match runD G lv callF all fls N (i + 1) os (putX e1 o.dst (.tup [])) h1 with
          | some (rs, e2, h2) => some (⟨e, h, e1, h1, fromEnv (restrL e1 (looks ⟨all⟩ o)), .tup [], false⟩ :: rs, e2, h2)
          | none => none
        | none => none
      | none => none) none
def ceOf (recs : List Rec) (e2 : Tr T) (i : Nat) : Tr T := match recs[i]? with
  | some r => r.e
  | none => e2
def chOf (recs : List Rec) (h2 : HS) (i : Nat) : HS := match recs[i]? with
  | some r => r.h
  | none => h2
def cpOf (recs : List Rec) (e2 : Tr T) (i : Nat) : Tr T := match recs[i]? with
  | some r => r.e1
  | none => e2
def cqOf (recs : List Rec) (h2 : HS) (i : Nat) : HS := match recs[i]? with
  | some r => r.h1
  | none => h2
def rsOf (recs : List Rec) (h2 : HS) (fls : List (Nat × Nat)) (i : Nat) : T := match flAt fls i with
  | some u => rsF (regsOf fls u) (chOf recs h2 u).nx i
  | none => match recs[i]? with
    | some r => r.t
    | none => .nilp

def freeX (G : Nat → Option TI) (r : Tr T) (op : Op) : Bool := (evalOp G (fun _ => none) (evX r) op).isSome || (immX G r op).isSome
def compatB (efm : Nat) (efl : List Nat) (ms : List Nat) (i p : Nat) : Bool := Nat.beq (Nat.shiftRight (Nat.land (ms.getD i 0) efm) p) 0 && efl.all fun k => !bitX (ms.getD k 0) i || Nat.ble p k
def qchk1 (G : Nat → Option TI) (efm : Nat) (efl : List Nat) (ms : List Nat) (fls : List (Nat × Nat)) (recs : List Rec) (h2 : HS) (i : Nat) (o : Oper) (r : Rec) : Bool :=
  bitX efm i || ((flAt fls i).isSome || (!r.g || (freeX G r.r o.op || (0 :: efl.map (· + 1)).all fun p => !compatB efm efl ms i p || (match heapX G r.r (chOf recs h2 p) o.op with
    | some t => beqT t r.t
    | none => false))))
def qchk (G : Nat → Option TI) (efm : Nat) (efl : List Nat) (ms : List Nat) (fls : List (Nat × Nat)) (recs : List Rec) (h2 : HS) : Nat → List Oper → List Rec → Bool
  | i, o :: os, r :: rs => qchk1 G efm efl ms fls recs h2 i o r && qchk G efm efl ms fls recs h2 (i + 1) os rs
  | _, [], _ => true
  | _, _ :: _, [] => false
def eflX (efm n : Nat) : List Nat := (List.range n).filter (bitX efm)
def drawW (G : Nat → Option TI) (lv : Nat → Bool) (callF : CallF) (N : Nat) (os : List Oper) (ms : List Nat) (fls : List (Nat × Nat)) (efm : Nat) (e : Tr T) (h : HS) : Option (Tr T × HS) :=
  cond (fastOK ⟨os⟩ ms efm (writers 0 os) 0 0 os) (match runD G lv callF os fls N 0 os e h with
    | some (recs, e2, h2) => cond (qchk G efm (eflX efm os.length) ms fls recs h2 0 os recs) (some (e2, h2)) none
    | none => none) none
def drawX (G : Nat → Option TI) (lv : Nat → Bool) (callF : CallF) (N : Nat) (os : List Oper) (e : Tr T) (h : HS) : Option (Tr T × HS) :=
  drawW G lv callF N os (masks os []) (flsX lv os (masks os []) 0 os) (efMask lv (flsX lv os (masks os []) 0 os) 0 os) e h

section
variable {P : Program} {G : Nat → Option TI} {lv : Nat → Bool} {callF : CallF} {N : Nat}

theorem opX_sound (hG : Fits P G) (hcall : CallsOK P callF) {o : Oper} {σ : St} {a : Env} {e : Tr T} {h h' : HS} {t : T} {K : Env → St → Prop} (hx : opX G lv callF e h o.op = some (t, h')) (c : HCov σ h) (ce : CovE a e) (ho : okOp N o = true)
    (k : ∀ σ', HCov σ' h' → K (put a o.dst t) σ') : AOp P N o a σ K := by
  unfold okOp at ho
  rw [Bool.and_eq_true, Bool.or_eq_true, Bool.not_eq_true'] at ho
  unfold opX at hx
  cases he : isEff lv o.op with
  | true =>
    rw [he, cond_true] at hx
    exact effX_sound hG hcall hx c ce ho.1 ho.2 k
  | false =>
    rw [he, cond_false] at hx
    split at hx
    · rename_i t' ht
      injection hx with hx; injection hx with h1 h2; subst h1; subst h2
      exact quietX_sound hG ht c ce ho.1 (k σ c)
    · cases hx

theorem runOps_sound (hG : Fits P G) (hcall : CallsOK P callF) {all : List Oper} : ∀ (os : List Oper) (k : Nat) (e : Tr T) (h : HS) (e2 : Tr T) (h2 : HS) (a : Env) (σ : St), runOps G lv callF all N os e h = some (e2, h2) → all.drop k = os → CovE a e → HCov σ h →
    AOps P N ⟨all⟩ (fun y a' σ' => y = .normal ∧ CovE a' e2 ∧ HCov σ' h2) (List.range' k os.length) a σ
  | [], k, e, h, e2, h2, a, σ, hx, hk, ce, c => by
    simp [runOps] at hx
    obtain ⟨rfl, rfl⟩ := hx
    exact aops_nil ⟨rfl, ce, c⟩
  | o :: os, k, e, h, e2, h2, a, σ, hx, hk, ce, c => by
    have hok : okOp N o = true := by
      cases hb : okOp N o with
      | true => rfl
      | false => simp only [runOps, hb, cond_false] at hx; cases hx
    simp only [runOps, hok, cond_true] at hx
    obtain ⟨ho, hk'⟩ := al_get (ops := ⟨all⟩) hk
    rw [List.length_cons, List.range'_succ]
    split at hx
    · rename_i hg
      split at hx
      · rename_i t h' hop
        refine aops_cons ho (ce.guard hg) (opX_sound hG hcall hop c ce hok fun σ' c' => ?_)
        exact runOps_sound hG hcall os (k + 1) _ _ _ _ _ _ hx hk' (ce.put _ _) c'
      · cases hx
    · rename_i hg
      refine aops_skip ho (ce.guard hg) (by unfold okOp at hok; rw [Bool.and_eq_true] at hok; exact hok.1) ?_
      exact runOps_sound hG hcall os (k + 1) _ _ _ _ _ _ hx hk' (ce.put _ _) c
    · cases hx

theorem bitX_eq (m k : Nat) : bitX m k = Nat.testBit m k := by
  have h1 : Nat.land 1 (Nat.shiftRight m k) = (m >>> k) % 2 := Nat.one_and_eq_mod_two _
  unfold bitX
  rw [h1, Nat.testBit_eq_decide_div_mod_eq, Nat.shiftRight_eq_div_pow]
  cases hb : decide (m / 2 ^ k % 2 = 1) with
  | true => rw [decide_eq_true_eq] at hb; rw [hb]; rfl
  | false => rw [decide_eq_false_iff_not] at hb; exact beqF hb
theorem flsX_ge {lv : Nat → Bool} {all : List Oper} {ms : List Nat} : ∀ (os : List Oper) (j0 : Nat) (p : Nat × Nat), p ∈ flsX lv all ms j0 os → j0 ≤ p.1 ∧ ∃ o, os[p.1 - j0]? = some o ∧ flX lv all ms p.1 o = some p.2
  | [], j0, p, h => by simp [flsX] at h
  | o :: os, j0, p, h => by
    have old : p ∈ flsX lv all ms (j0 + 1) os → j0 ≤ p.1 ∧ ∃ o', (o :: os)[p.1 - j0]? = some o' ∧ flX lv all ms p.1 o' = some p.2 := by
      intro h
      obtain ⟨h1, o', h2, h3⟩ := flsX_ge os (j0 + 1) p h
      exact ⟨by omega, o', by rw [show p.1 - j0 = (p.1 - (j0 + 1)) + 1 by omega]; simpa using h2, h3⟩
    simp only [flsX] at h
    split at h
    · rename_i u hu
      rcases List.mem_cons.1 h with rfl | h
      · exact ⟨Nat.le_refl _, o, by simp, hu⟩
      · exact old h
    · exact old h
theorem flsX_mem {lv : Nat → Bool} {all : List Oper} {ms : List Nat} : ∀ (os : List Oper) (j0 j u : Nat) (o : Oper), os[j]? = some o → flX lv all ms (j0 + j) o = some u → (j0 + j, u) ∈ flsX lv all ms j0 os
  | [], j0, j, u, o, h, _ => by simp at h
  | q :: os, j0, 0, u, o, h, hf => by
    simp at h; subst h
    simp only [flsX]
    rw [show j0 + 0 = j0 from rfl] at hf
    rw [hf]; simp
  | q :: os, j0, j + 1, u, o, h, hf => by
    have := flsX_mem os (j0 + 1) j u o (by simpa using h) (by rw [show j0 + 1 + j = j0 + (j + 1) by omega]; exact hf)
    rw [show j0 + 1 + j = j0 + (j + 1) by omega] at this
    simp only [flsX]
    split
    · exact List.mem_cons_of_mem _ this
    · exact this
theorem flsX_nodup {lv : Nat → Bool} {all : List Oper} {ms : List Nat} : ∀ (os : List Oper) (j0 : Nat), ((flsX lv all ms j0 os).map Prod.fst).Nodup
  | [], j0 => by simp [flsX]
  | o :: os, j0 => by
    simp only [flsX]
    split
    · rw [List.map_cons, List.nodup_cons]
      refine ⟨fun h => ?_, flsX_nodup os (j0 + 1)⟩
      obtain ⟨p, hp, he⟩ := List.mem_map.1 h
      have := (flsX_ge os (j0 + 1) p hp).1
      simp only at he; omega
    · exact flsX_nodup os (j0 + 1)
theorem flAt_mem : ∀ {l : List (Nat × Nat)} {j u : Nat}, flAt l j = some u → (j, u) ∈ l
  | [], j, u, h => by simp [flAt] at h
  | (k, v) :: l, j, u, h => by
    simp only [flAt] at h
    by_cases e : k = j
    · subst e; simp at h; subst h; simp
    · rw [beqF e, cond_false] at h; exact List.mem_cons_of_mem _ (flAt_mem h)
theorem mem_flAt : ∀ {l : List (Nat × Nat)} {j u : Nat}, (l.map Prod.fst).Nodup → (j, u) ∈ l → flAt l j = some u
  | [], j, u, _, h => by simp at h
  | (k, v) :: l, j, u, hn, h => by
    rw [List.map_cons, List.nodup_cons] at hn
    simp only [flAt]
    rcases List.mem_cons.1 h with h | h
    · injection h with h1 h2; subst h1; subst h2; simp
    · have : k ≠ j := by rintro rfl; exact hn.1 (List.mem_map.2 ⟨_, h, rfl⟩)
      rw [beqF this, cond_false]; exact mem_flAt hn.2 h
theorem flAt_of {lv : Nat → Bool} {os : List Oper} {j u : Nat} (h : flAt (flsX lv os (masks os []) 0 os) j = some u) : ∃ o, os[j]? = some o ∧ flX lv os (masks os []) j o = some u := by
  obtain ⟨_, o, h2, h3⟩ := flsX_ge _ _ _ (flAt_mem h)
  exact ⟨o, by simpa using h2, h3⟩
theorem flAt_eq {lv : Nat → Bool} {os : List Oper} {j : Nat} {o : Oper} (ho : os[j]? = some o) : flAt (flsX lv os (masks os []) 0 os) j = flX lv os (masks os []) j o := by
  cases h : flX lv os (masks os []) j o with
  | some u =>
    have := flsX_mem (lv := lv) (all := os) (ms := masks os []) os 0 j u o ho (by rw [Nat.zero_add]; exact h)
    rw [Nat.zero_add] at this
    exact mem_flAt (flsX_nodup _ _) this
  | none =>
    cases h2 : flAt (flsX lv os (masks os []) 0 os) j with
    | none => rfl
    | some u =>
      obtain ⟨o', h3, h4⟩ := flAt_of h2
      rw [ho] at h3; injection h3 with h3; subst h3
      rw [h] at h4; cases h4
theorem efMask_bit {lv : Nat → Bool} {fls : List (Nat × Nat)} : ∀ (os : List Oper) (i k : Nat), Nat.testBit (efMask lv fls i os) k = true ↔ i ≤ k ∧ ∃ o, os[k - i]? = some o ∧ isEff lv o.op = true ∧ flAt fls k = none
  | [], i, k => by simp [efMask]
  | o :: os, i, k => by
    have ih := efMask_bit (lv := lv) (fls := fls) os (i + 1) k
    have step : (i + 1 ≤ k ∧ ∃ o', os[k - (i + 1)]? = some o' ∧ isEff lv o'.op = true ∧ flAt fls k = none) ↔ i < k ∧ ∃ o', (o :: os)[k - i]? = some o' ∧ isEff lv o'.op = true ∧ flAt fls k = none := by
      constructor
      · rintro ⟨h1, o', h2, h3⟩
        exact ⟨h1, o', by rw [show k - i = (k - (i + 1)) + 1 by omega]; simpa using h2, h3⟩
      · rintro ⟨h1, o', h2, h3⟩
        exact ⟨h1, o', by rw [show k - i = (k - (i + 1)) + 1 by omega] at h2; simpa using h2, h3⟩
    rw [step] at ih
    simp only [efMask]
    cases hc : (isEff lv o.op && (flAt fls i).isNone) with
    | true =>
      rw [cond_true, show Nat.lor (2 ^ i) (efMask lv fls (i + 1) os) = 2 ^ i ||| efMask lv fls (i + 1) os from rfl, Nat.testBit_or, Nat.testBit_two_pow, Bool.or_eq_true, decide_eq_true_eq, ih]
      rw [Bool.and_eq_true, Option.isNone_iff_eq_none] at hc
      constructor
      · rintro (rfl | ⟨h1, h2⟩)
        · exact ⟨Nat.le_refl _, o, by simp, hc.1, hc.2⟩
        · exact ⟨by omega, h2⟩
      · rintro ⟨h1, h2⟩
        by_cases e : i = k
        · exact .inl e
        · exact .inr ⟨by omega, h2⟩
    | false =>
      rw [cond_false, ih]
      constructor
      · rintro ⟨h1, h2⟩; exact ⟨by omega, h2⟩
      · rintro ⟨h1, o', h2, h3, h4⟩
        by_cases e : i = k
        · subst e
          simp at h2; subst h2
          rw [h3, h4] at hc; simp at hc
        · exact ⟨by omega, o', h2, h3, h4⟩
theorem stat2_mk {ops : Array Oper} {ms : List Nat} {ef : Nat → Bool} {i : Nat} {o : Oper} : ∀ {j0 : Nat} {ps : List Oper}, (∀ (j : Nat) (p : Oper), ps[j]? = some p → pairX ops ms ef i (j0 + j) o p = true) → stat2 ops ms ef i o j0 ps = true
  | j0, [], h => rfl
  | j0, q :: ps, h => by
    rw [stat2, Bool.and_eq_true]
    refine ⟨by simpa using h 0 q rfl, stat2_mk fun j p hp => ?_⟩
    rw [show j0 + 1 + j = j0 + (j + 1) by omega]; exact h (j + 1) p (by simpa using hp)
theorem stat1_mk {ops : Array Oper} {ms : List Nat} {ef : Nat → Bool} {all : List Oper} : ∀ {i0 : Nat} {os : List Oper}, (∀ (i : Nat) (o : Oper), os[i]? = some o → (∀ e ∈ o.after.toList, Region.binds .any e = true → e.on < i0 + i) ∧ ∀ (j : Nat) (p : Oper), all[j]? = some p → pairX ops ms ef (i0 + i) j o p = true) → stat1 ops ms ef all i0 os = true
  | i0, [], h => rfl
  | i0, q :: os, h => by
    rw [stat1, Bool.and_eq_true, Bool.and_eq_true]
    refine ⟨⟨?_, stat2_mk fun j p hp => by simpa using (h 0 q rfl).2 j p hp⟩, stat1_mk fun i o ho => ?_⟩
    · rw [List.all_eq_true]
      intro e he
      cases hb : Region.binds .any e with
      | false => rfl
      | true => rw [Bool.not_true, Bool.false_or, Nat.blt_eq]; exact (h 0 q rfl).1 e he hb
    · rw [show i0 + 1 + i = i0 + (i + 1) by omega]; exact h (i + 1) o (by simpa using ho)
theorem writers_mem : ∀ (os : List Oper) (j0 : Nat) (s k : Nat), (s, k) ∈ writers j0 os ↔ j0 ≤ k ∧ ∃ o, os[k - j0]? = some o ∧ o.dst = some s
  | [], j0, s, k => by simp [writers]
  | o :: os, j0, s, k => by
    have ih := writers_mem os (j0 + 1) s k
    have step : (j0 + 1 ≤ k ∧ ∃ o', os[k - (j0 + 1)]? = some o' ∧ o'.dst = some s) ↔ j0 < k ∧ ∃ o', (o :: os)[k - j0]? = some o' ∧ o'.dst = some s := by
      constructor
      · rintro ⟨h1, o', h2, h3⟩
        exact ⟨h1, o', by rw [show k - j0 = (k - (j0 + 1)) + 1 by omega]; simpa using h2, h3⟩
      · rintro ⟨h1, o', h2, h3⟩
        exact ⟨h1, o', by rw [show k - j0 = (k - (j0 + 1)) + 1 by omega] at h2; simpa using h2, h3⟩
    rw [step] at ih
    simp only [writers]
    cases hd : o.dst with
    | some d =>
      simp only [List.mem_cons, Prod.mk.injEq]
      rw [ih]
      constructor
      · rintro (⟨rfl, rfl⟩ | ⟨h1, h2⟩)
        · exact ⟨Nat.le_refl _, o, by simp, hd⟩
        · exact ⟨by omega, h2⟩
      · rintro ⟨h1, o', h2, h3⟩
        by_cases e : k = j0
        · subst e
          simp at h2; subst h2
          rw [hd] at h3; injection h3 with h3; exact .inl ⟨h3.symm, rfl⟩
        · exact .inr ⟨by omega, o', h2, h3⟩
    | none =>
      simp only
      rw [ih]
      constructor
      · rintro ⟨h1, h2⟩; exact ⟨by omega, h2⟩
      · rintro ⟨h1, o', h2, h3⟩
        by_cases e : k = j0
        · subst e
          simp at h2; subst h2
          rw [hd] at h3; cases h3
        · exact ⟨by omega, o', h2, h3⟩
theorem flAt_some : ∀ {l : List (Nat × Nat)} {j u : Nat}, (j, u) ∈ l → ∃ v, flAt l j = some v
  | [], j, u, h => by simp at h
  | (k, v) :: l, j, u, h => by
    simp only [flAt]
    by_cases e : k = j
    · subst e; exact ⟨v, by simp⟩
    · rw [beqF e, cond_false]
      rcases List.mem_cons.1 h with h | h
      · injection h with h1 h2; exact absurd h1.symm e
      · exact flAt_some h
structure FastAt (ops : Array Oper) (ms : List Nat) (efm : Nat) (W : List (Nat × Nat)) (i dm : Nat) (o : Oper) : Prop where
  edge : ∀ e ∈ o.after.toList, Region.binds .any e = true → e.on < i
  eff : bitX efm i = true → Nat.land (efm % 2 ^ i) (ms.getD i 0) = efm % 2 ^ i
  dst : ∀ s, o.dst = some s → bitX dm s = false
  look : ∀ s, s ∈ looks ops o → ∀ j, flAt W s = some j → j = i ∨ (j < i → bitX (ms.getD i 0) j = true) ∧ (¬ j < i → bitX (ms.getD j 0) i = true)
theorem fastOK_at {ops : Array Oper} {ms : List Nat} {efm : Nat} {W : List (Nat × Nat)} : ∀ {i0 dm : Nat} {os : List Oper}, fastOK ops ms efm W i0 dm os = true → ∀ (i : Nat) (o : Oper), os[i]? = some o →
    ∃ dm', FastAt ops ms efm W (i0 + i) dm' o ∧ (∀ s, bitX dm s = true → bitX dm' s = true) ∧ ∀ (j : Nat) (p : Oper) (s : Nat), j < i → os[j]? = some p → p.dst = some s → bitX dm' s = true
  | i0, dm, [], h, i, o, ho => by simp at ho
  | i0, dm, q :: os, h, i, o, ho => by
    simp only [fastOK, Bool.and_eq_true] at h
    obtain ⟨h1, h2, h3, h4, h5⟩ := h
    cases i with
    | zero =>
      simp at ho; subst ho
      refine ⟨dm, ⟨fun e he hb => ?_, fun he => ?_, fun s hs => ?_, fun s hs j hj => ?_⟩, fun s h => h, fun j p s hj => by omega⟩
      · have := List.all_eq_true.1 h1 e he
        rw [hb, Bool.not_true, Bool.false_or, Nat.blt_eq] at this; exact this
      · rw [Nat.add_zero] at he
        rw [he, cond_true] at h2
        exact Nat.eq_of_beq_eq_true h2
      · rw [hs] at h3
        simpa using h3
      · have := List.all_eq_true.1 h4 s hs
        rw [hj] at this
        simp only [Bool.or_eq_true] at this
        rcases this with h | h
        · exact .inl (Nat.eq_of_beq_eq_true h)
        · right
          constructor
          · intro hlt
            rw [show Nat.blt j i0 = true by rw [Nat.blt_eq]; exact hlt, cond_true] at h; exact h
          · intro hge
            have : Nat.blt j i0 = false := by
              cases hb : Nat.blt j i0 with
              | false => rfl
              | true => rw [Nat.blt_eq] at hb; exact absurd hb hge
            rw [this, cond_false] at h; exact h
    | succ i =>
      obtain ⟨dm', k1, k2, k3⟩ := fastOK_at h5 i o (by simpa using ho)
      have hmono : ∀ s, bitX dm s = true → bitX (match q.dst with | some s => Nat.lor dm (2 ^ s) | none => dm) s = true := by
        intro s hs
        split
        · rw [bitX_eq] at hs ⊢
          rw [show Nat.lor dm (2 ^ _) = dm ||| 2 ^ _ from rfl, Nat.testBit_or, hs]; rfl
        · exact hs
      refine ⟨dm', by rw [show i0 + 1 + i = i0 + (i + 1) by omega] at k1; exact k1, fun s hs => k2 s (hmono s hs), fun j p s hj hp hs => ?_⟩
      cases j with
      | zero =>
        simp at hp; subst hp
        refine k2 s ?_
        rw [hs]
        simp only
        rw [bitX_eq, show Nat.lor dm (2 ^ s) = dm ||| 2 ^ s from rfl, Nat.testBit_or, Nat.testBit_two_pow]; simp
      | succ j => exact k3 j p s (by omega) (by simpa using hp) hs
theorem fast_stat {os : List Oper} {efm : Nat} (h : fastOK ⟨os⟩ (masks os []) efm (writers 0 os) 0 0 os = true) : statOK (bitX efm) os = true := by
  have hat := fun i o ho => fastOK_at h i o ho
  have ssa : ∀ (i j : Nat) (o p : Oper) (s : Nat), os[i]? = some o → os[j]? = some p → o.dst = some s → p.dst = some s → i = j := by
    have lt : ∀ (i j : Nat) (o p : Oper) (s : Nat), os[i]? = some o → os[j]? = some p → o.dst = some s → p.dst = some s → ¬ j < i := by
      intro i j o p s ho hp hos hps hlt
      obtain ⟨dm', k1, _, k3⟩ := hat i o ho
      have h1 := k3 j p s hlt hp hps
      rw [k1.dst s hos] at h1; cases h1
    intro i j o p s ho hp hos hps
    have h1 := lt i j o p s ho hp hos hps
    have h2 := lt j i p o s hp ho hps hos
    omega
  refine stat1_mk fun i o ho => ?_
  obtain ⟨dm', k1, k2, k3⟩ := hat i o ho
  rw [Nat.zero_add] at k1 ⊢
  refine ⟨k1.edge, fun j p hp => ?_⟩
  unfold pairX
  rw [Bool.and_eq_true]
  constructor
  · cases hc : (bitX efm i && bitX efm j && Nat.blt j i) with
    | false => rfl
    | true =>
      rw [Bool.and_eq_true, Bool.and_eq_true, Nat.blt_eq] at hc
      rw [cond_true]
      have h1 := k1.eff hc.1.1
      have h2 : Nat.testBit (efm % 2 ^ i) j = true := by
        rw [Nat.testBit_mod_two_pow]; simp only [bitX_eq] at hc; simp [hc.2, hc.1.2]
      rw [← h1, show Nat.land (efm % 2 ^ i) ((masks os []).getD i 0) = efm % 2 ^ i &&& (masks os []).getD i 0 from rfl, Nat.testBit_and, Bool.and_eq_true] at h2
      exact h2.2
  · split
    · rfl
    · rename_i s hs
      rw [Bool.and_eq_true]
      constructor
      · cases hij : Nat.beq i j with
        | true => rfl
        | false =>
          rw [Bool.false_or, Bool.not_eq_true']
          split
          · rename_i s' hs'
            refine beqF ?_
            rintro rfl
            have := ssa i j o p s ho hp hs' hs
            subst this; simp at hij
          · rfl
      · cases hm : memB s (looks ⟨os⟩ o) with
        | false => rfl
        | true =>
          rw [Bool.not_true, Bool.false_or]
          obtain ⟨v, hv⟩ := flAt_some ((writers_mem os 0 s j).2 ⟨Nat.zero_le _, p, by simpa using hp, hs⟩)
          obtain ⟨_, p', hp', hs'⟩ := (writers_mem os 0 s v).1 (flAt_mem hv)
          rw [Nat.sub_zero] at hp'
          obtain rfl := ssa v j p' p s hp' hp hs' hs
          rcases k1.look s (memB_iff.1 hm) v hv with e | ⟨e1, e2⟩
          · subst e
            have : Nat.blt v v = false := by cases hb : Nat.blt v v with | false => rfl | true => rw [Nat.blt_eq] at hb; omega
            rw [this]; rfl
          · cases hb : Nat.blt v i with
            | true =>
              rw [Nat.blt_eq] at hb
              rw [cond_true]; have := e1 hb; rw [bitX_eq] at this; exact this
            | false =>
              have hge : ¬ v < i := fun h => by rw [← Nat.blt_eq, hb] at h; cases h
              rw [cond_false]
              cases Nat.blt i v with
              | false => rfl
              | true => rw [cond_true]; have := e2 hge; rw [bitX_eq] at this; exact this
theorem usersOK_at {ops : Array Oper} {ms : List Nat} {d u : Nat} : ∀ {i0 : Nat} {os : List Oper}, usersOK ops ms d u i0 os = true → ∀ (i : Nat) (p : Oper), os[i]? = some p → d ∈ looks ops p → i0 + i = u ∨ fm ms (i0 + i) u = true
  | i0, [], h, i, p, hp => by simp at hp
  | i0, q :: os, h, i, p, hp => by
    simp only [usersOK, Bool.and_eq_true] at h
    cases i with
    | zero =>
      simp at hp; subst hp
      intro hd
      have h1 := h.1
      rw [memB_of hd, Bool.not_true, Bool.false_or, Bool.or_eq_true] at h1
      exact h1.imp (fun h => Nat.eq_of_beq_eq_true h) id
    | succ i =>
      have := usersOK_at h.2 i p (by simpa using hp)
      rwa [show i0 + 1 + i = i0 + (i + 1) by omega] at this
theorem flOK_of {lv : Nat → Bool} {os : List Oper} : FlOK os (bitX (efMask lv (flsX lv os (masks os []) 0 os) 0 os)) (flAt (flsX lv os (masks os []) 0 os)) := by
  have key : ∀ j u, flAt (flsX lv os (masks os []) 0 os) j = some u → ∃ o d ty p, os[j]? = some o ∧ o.dst = some d ∧ o.op = .alloc ty ∧ o.guard = none ∧ os[u]? = some p ∧ j < u ∧ fm (masks os []) u j = true ∧ isEff lv p.op = true ∧ notAlloc p.op = true ∧ usersOK ⟨os⟩ (masks os []) d u 0 os = true := by
    intro j u h
    obtain ⟨o, ho, hf⟩ := flAt_of h
    unfold flX at hf
    split at hf
    · rename_i d ty t1 t2 t3
      split at hf
      · rename_i u' hu'
        split at hf
        · rename_i p hp
          revert hf
          cases hc : (Nat.blt j u' && fm (masks os []) u' j && isEff lv p.op && notAlloc p.op && usersOK ⟨os⟩ (masks os []) d u' 0 os) with
          | false => intro hf; cases hf
          | true =>
            intro hf
            injection hf with hf; subst hf
            simp only [Bool.and_eq_true] at hc
            obtain ⟨⟨⟨⟨c1, c2⟩, c3⟩, c4⟩, c5⟩ := hc
            rw [Nat.blt_eq] at c1
            exact ⟨_, d, ty, p, ho, rfl, rfl, rfl, hp, c1, c2, c3, c4, c5⟩
        · cases hf
      · cases hf
    · cases hf
  have na : ∀ u p, os[u]? = some p → notAlloc p.op = true → flAt (flsX lv os (masks os []) 0 os) u = none := by
    intro u p hp hn
    rw [flAt_eq hp]
    unfold flX
    split
    · simp [notAlloc] at hn
    · rfl
  refine ⟨fun j u h => ?_, fun j u o d i p h ho hd hp hl => ?_, fun j u h => ?_, fun j u h => ?_⟩
  · obtain ⟨o, d, ty, p, h1, h2, h3, h4, _⟩ := key j u h
    exact ⟨o, d, ty, h1, h2, h3, h4⟩
  · obtain ⟨o', d', ty, q, h1, h2, h3, h4, h5, h6, h7, h8, h9, h10⟩ := key j u h
    rw [ho] at h1; injection h1 with h1; subst h1
    rw [hd] at h2; injection h2 with h2; subst h2
    simpa using usersOK_at h10 i p hp hl
  · obtain ⟨o', d', ty, q, h1, h2, h3, h4, h5, h6, h7, h8, h9, h10⟩ := key j u h
    refine ⟨h7, h6, ?_, na u q h5 h9⟩
    rw [bitX_eq]
    exact (efMask_bit os 0 u).2 ⟨Nat.zero_le _, q, by simpa using h5, h8, na u q h5 h9⟩
  · cases hb : bitX (efMask lv (flsX lv os (masks os []) 0 os) 0 os) j with
    | false => rfl
    | true =>
      rw [bitX_eq] at hb
      obtain ⟨_, _, _, _, h2⟩ := (efMask_bit os 0 j).1 hb
      rw [h] at h2; cases h2

structure DRec (G : Nat → Option TI) (lv : Nat → Bool) (callF : CallF) (all : List Oper) (fls : List (Nat × Nat)) (N : Nat) (i : Nat) (o : Oper) (e e' : Tr T) (h h' : HS) (r : Rec) : Prop where
  ok : okOp N o = true
  way : (∃ u d, flAt fls i = some u ∧ o.dst = some d ∧ e' = e.del d ∧ h' = h ∧ r.e1 = e ∧ r.h1 = h) ∨
    (flAt fls i = none ∧ regX G all (regsOf fls i) e h = some (r.e1, r.h1) ∧ e' = putX r.e1 o.dst r.t ∧ r.r = fromEnv (restrL r.e1 (looks ⟨all⟩ o)) ∧
      ((r.g = true ∧ guardX all r.r o = some true ∧ opX G lv callF r.r r.h1 o.op = some (r.t, h')) ∨ (r.g = false ∧ guardX all r.r o = some false ∧ r.t = .tup [] ∧ h' = r.h1)))

theorem runD_spec {all : List Oper} {fls : List (Nat × Nat)} : ∀ (os : List Oper) (i0 : Nat) (e : Tr T) (h : HS) (recs : List Rec) (e2 : Tr T) (h2 : HS), runD G lv callF all fls N i0 os e h = some (recs, e2, h2) →
    recs.length = os.length ∧ ceOf recs e2 0 = e ∧ chOf recs h2 0 = h ∧ ∀ i o, os[i]? = some o → ∃ r, recs[i]? = some r ∧ DRec G lv callF all fls N (i0 + i) o (ceOf recs e2 i) (ceOf recs e2 (i + 1)) (chOf recs h2 i) (chOf recs h2 (i + 1)) r
  | [], i0, e, h, recs, e2, h2, hx => by
    simp [runD] at hx
    obtain ⟨rfl, rfl, rfl⟩ := hx
    exact ⟨rfl, rfl, rfl, fun i o ho => by simp at ho⟩
  | o :: os, i0, e, h, recs, e2, h2, hx => by
    have hok : okOp N o = true := by
      cases hb : okOp N o with
      | true => rfl
      | false => simp only [runD, hb, cond_false] at hx; cases hx
    simp only [runD, hok, cond_true] at hx
    have shift : ∀ (r : Rec) (rs : List Rec) (i : Nat), ceOf (r :: rs) e2 (i + 1) = ceOf rs e2 i ∧ chOf (r :: rs) h2 (i + 1) = chOf rs h2 i := fun r rs i => ⟨by simp [ceOf], by simp [chOf]⟩
    have fin : ∀ (r : Rec) (rs : List Rec) (en : Tr T) (hn : HS), runD G lv callF all fls N (i0 + 1) os en hn = some (rs, e2, h2) → recs = r :: rs → r.e = e → r.h = h →
        DRec G lv callF all fls N i0 o e en h hn r → recs.length = (o :: os).length ∧ ceOf recs e2 0 = e ∧ chOf recs h2 0 = h ∧ ∀ i o', (o :: os)[i]? = some o' → ∃ r, recs[i]? = some r ∧ DRec G lv callF all fls N (i0 + i) o' (ceOf recs e2 i) (ceOf recs e2 (i + 1)) (chOf recs h2 i) (chOf recs h2 (i + 1)) r := by
      intro r rs en hn hr hrec he hh hd
      subst hrec
      obtain ⟨k1, k2, k3, k4⟩ := runD_spec os (i0 + 1) _ _ _ _ _ hr
      have c0 : ceOf (r :: rs) e2 0 = e := by rw [← he]; rfl
      have d0 : chOf (r :: rs) h2 0 = h := by rw [← hh]; rfl
      refine ⟨by simp [k1], c0, d0, fun i o' ho => ?_⟩
      cases i with
      | zero =>
        simp at ho; subst ho
        exact ⟨r, rfl, by rw [c0, d0, (shift _ _ 0).1, (shift _ _ 0).2, k2, k3]; exact hd⟩
      | succ i =>
        obtain ⟨r', l1, l2⟩ := k4 i o' (by simpa using ho)
        exact ⟨r', by simpa using l1, by rw [(shift _ _ i).1, (shift _ _ i).2, (shift _ _ (i + 1)).1, (shift _ _ (i + 1)).2, show i0 + (i + 1) = i0 + 1 + i by omega]; exact l2⟩
    split at hx
    · rename_i u hfl
      split at hx
      · rename_i d hd
        split at hx
        · rename_i rs e3 h3 hr
          injection hx with hx; injection hx with q1 hx; injection hx with q2 q3; subst q2; subst q3
          exact fin _ _ _ _ hr q1.symm rfl rfl ⟨hok, .inl ⟨u, d, hfl, hd, rfl, rfl, rfl, rfl⟩⟩
        · cases hx
      · cases hx
    · rename_i hfl
      split at hx
      · rename_i e1 h1 hreg
        split at hx
        · rename_i hg
          split at hx
          · rename_i t h' hop
            split at hx
            · rename_i rs e3 h3 hr
              injection hx with hx; injection hx with q1 hx; injection hx with q2 q3; subst q2; subst q3
              exact fin _ _ _ _ hr q1.symm rfl rfl ⟨hok, .inr ⟨hfl, hreg, rfl, rfl, .inl ⟨rfl, hg, hop⟩⟩⟩
            · cases hx
          · cases hx
        · rename_i hg
          split at hx
          · rename_i rs e3 h3 hr
            injection hx with hx; injection hx with q1 hx; injection hx with q2 q3; subst q2; subst q3
            exact fin _ _ _ _ hr q1.symm rfl rfl ⟨hok, .inr ⟨hfl, hreg, rfl, rfl, .inr ⟨rfl, hg, rfl, rfl⟩⟩⟩
          · cases hx
        · cases hx
      · cases hx
theorem qchk_at {efm : Nat} {efl ms : List Nat} {fls : List (Nat × Nat)} {recs : List Rec} {h2 : HS} : ∀ {i0 : Nat} {os : List Oper} {rs : List Rec}, qchk G efm efl ms fls recs h2 i0 os rs = true → ∀ (i : Nat) (o : Oper) (r : Rec), os[i]? = some o → rs[i]? = some r → qchk1 G efm efl ms fls recs h2 (i0 + i) o r = true
  | i0, [], rs, h, i, o, r, ho, hr => by simp at ho
  | i0, q :: os, [], h, i, o, r, ho, hr => by simp at hr
  | i0, q :: os, r0 :: rs, h, i, o, r, ho, hr => by
    simp only [qchk, Bool.and_eq_true] at h
    cases i with
    | zero => simp at ho hr; subst ho; subst hr; exact h.1
    | succ i =>
      have := qchk_at h.2 i o r (by simpa using ho) (by simpa using hr)
      rwa [show i0 + 1 + i = i0 + (i + 1) by omega] at this
theorem eflX_mem {efm n k : Nat} : k ∈ eflX efm n ↔ k < n ∧ bitX efm k = true := by
  unfold eflX; rw [List.mem_filter, List.mem_range]
theorem compatB_of {efm : Nat} {os : List Oper} {i p : Nat} (hb : ∀ k, bitX efm k = true → k < os.length) (h : Compat (bitX efm) os i p) : compatB efm (eflX efm os.length) (masks os []) i p = true := by
  unfold compatB
  rw [Bool.and_eq_true]
  constructor
  · have : Nat.shiftRight (Nat.land ((masks os []).getD i 0) efm) p = 0 := by
      rw [show Nat.shiftRight (Nat.land ((masks os []).getD i 0) efm) p = ((masks os []).getD i 0 &&& efm) >>> p from rfl]
      apply Nat.eq_of_testBit_eq
      intro k
      rw [Nat.testBit_shiftRight, Nat.testBit_and, Nat.zero_testBit]
      cases h1 : Nat.testBit efm (p + k) with
      | false => simp
      | true =>
        rw [Bool.and_true]
        cases h2 : Nat.testBit ((masks os []).getD i 0) (p + k) with
        | false => rfl
        | true =>
          have h3 : bitX efm (p + k) = true := by rw [bitX_eq]; exact h1
          have := (h.2 (p + k) (hb _ h3) h3).1 h2
          omega
    rw [this]; rfl
  · rw [List.all_eq_true]
    intro k hk
    obtain ⟨h1, h2⟩ := eflX_mem.1 hk
    cases hf : bitX ((masks os []).getD k 0) i with
    | false => rfl
    | true =>
      rw [bitX_eq] at hf
      rw [Bool.not_true, Bool.false_or]
      exact Nat.ble_eq_true_of_le ((h.2 k h1 h2).2 hf)

theorem regX_ok {os : List Oper} {rs : Nat → T} : ∀ (js : List Nat) (e : Tr T) (h : HS) (e' : Tr T) (h' : HS), regX G os js e h = some (e', h') → js.Nodup → (∀ j, j ∈ js → rs j = rsF js h.nx j) → RegOK G os rs js e h e' h'
  | [], e, h, e', h', hx, _, _ => by simp [regX] at hx; exact ⟨hx.1.symm, hx.2.symm⟩
  | j :: js, e, h, e', h', hx, hn, hr => by
    simp only [regX] at hx
    rw [List.nodup_cons] at hn
    split at hx
    · rename_i d ty z1 z2 z3 z4 ho
      split at hx
      · rename_i ti hti
        refine ⟨_, d, ty, ti, ho, rfl, rfl, hti, by rw [hr j List.mem_cons_self]; simp [rsF], regX_ok js _ _ _ _ hx hn.2 (fun k hk => ?_)⟩
        rw [hr k (List.mem_cons_of_mem _ hk)]
        simp only [rsF]
        rw [beqF (by rintro rfl; exact hn.1 hk), cond_false]
        rfl
      · cases hx
    · cases hx
theorem regsOf_mem {fls : List (Nat × Nat)} (hn : (fls.map Prod.fst).Nodup) (i j : Nat) : j ∈ regsOf fls i ↔ flAt fls j = some i := by
  unfold regsOf
  rw [List.mem_map]
  constructor
  · rintro ⟨⟨a, b⟩, h1, h2⟩
    rw [List.mem_filter] at h1
    simp only at h2; subst h2
    have := Nat.eq_of_beq_eq_true h1.2
    simp only at this; subst this
    exact mem_flAt hn h1.1
  · intro h
    exact ⟨(j, i), List.mem_filter.2 ⟨flAt_mem h, by simp⟩, rfl⟩
theorem regsOf_nodup {fls : List (Nat × Nat)} (hn : (fls.map Prod.fst).Nodup) (i : Nat) : (regsOf fls i).Nodup :=
  hn.sublist (List.Sublist.map _ List.filter_sublist)

theorem aw_drawX (hm : P.follows .mixedOrders = true) (hG : Fits P G) (hcall : CallsOK P callF) {id : Nat} {os : List Oper} {e e2 : Tr T} {h h2 : HS} {a : Env} {σ : St} (hx : drawX G lv callF N os e h = some (e2, h2)) (ce : CovE a e) (c : HCov σ h) :
    AW P N (.region id ⟨os⟩ true) (fun y a' σ' => y = .normal ∧ CovE a' e2 ∧ HCov σ' h2) a σ := by
  unfold drawX drawW at hx
  have hfl := flOK_of (lv := lv) (os := os)
  have hnd := flsX_nodup (lv := lv) (all := os) (ms := masks os []) os 0
  have hbit := fun k => efMask_bit (lv := lv) (fls := flsX lv os (masks os []) 0 os) os 0 k
  generalize hfls : flsX lv os (masks os []) 0 os = fls at hx hfl hnd hbit
  have hflo : ∀ j u, flAt fls j = some u → ∃ o, os[j]? = some o := fun j u h => let ⟨o, _, _, h1, _⟩ := hfl.op j u h; ⟨o, h1⟩
  generalize efMask lv fls 0 os = efm at hx hfl hbit
  have hblt : ∀ k, bitX efm k = true → k < os.length := by
    intro k hk
    rw [bitX_eq] at hk
    obtain ⟨_, o, h, _⟩ := (hbit k).1 hk
    exact lt_of_get (by simpa using h)
  have hefe : ∀ (i : Nat) (o : Oper), os[i]? = some o → flAt fls i = none → bitX efm i = isEff lv o.op := by
    intro i o ho hf
    rw [bitX_eq]
    cases he : isEff lv o.op with
    | true => exact (hbit i).2 ⟨Nat.zero_le _, o, by simpa using ho, he, hf⟩
    | false =>
      cases hb : Nat.testBit efm i with
      | false => rfl
      | true =>
        obtain ⟨_, o', h1, h2, _⟩ := (hbit i).1 hb
        rw [Nat.sub_zero, ho] at h1; injection h1 with h1; subst h1
        rw [he] at h2; cases h2
  have hltf : ∀ j u, flAt fls j = some u → j < u := fun j u h => (hfl.reg j u h).2.1
  cases hst0 : fastOK ⟨os⟩ (masks os []) efm (writers 0 os) 0 0 os with
  | false => rw [hst0] at hx; cases hx
  | true =>
  rw [hst0, cond_true] at hx
  have hst := fast_stat hst0
  split at hx
  · rename_i recs e3 h3 hr
    cases hq : qchk G efm (eflX efm os.length) (masks os []) fls recs h3 0 os recs with
    | false => rw [hq] at hx; cases hx
    | true =>
    rw [hq, cond_true] at hx
    injection hx with hx; injection hx with q1 q2; subst q1; subst q2
    obtain ⟨k1, k2, k3, k4⟩ := runD_spec os _ _ _ _ _ _ hr
    simp only [Nat.zero_add] at k4
    have hend : ceOf recs e3 os.length = e3 ∧ chOf recs h3 os.length = h3 := by
      constructor
      · unfold ceOf; rw [List.getElem?_eq_none (by omega)]
      · unfold chOf; rw [List.getElem?_eq_none (by omega)]
    have hcp : ∀ i r, recs[i]? = some r → cpOf recs e3 i = r.e1 ∧ cqOf recs h3 i = r.h1 := fun i r hi => ⟨by unfold cpOf; rw [hi], by unfold cqOf; rw [hi]⟩
    have hrs : ∀ i r, flAt fls i = none → recs[i]? = some r → rsOf recs h3 fls i = r.t := fun i r hf hi => by unfold rsOf; rw [hf]; simp only; rw [hi]
    have hnoreg : ∀ i, bitX efm i = false → regsOf fls i = [] := by
      intro i he
      apply List.eq_nil_iff_forall_not_mem.2
      intro j hj
      have := (hfl.reg j i ((regsOf_mem hnd i j).1 hj)).2.2.1
      rw [he] at this; cases this
    have hregA : ∀ i, i < os.length → RegOK G os (rsOf recs h3 fls) (regsOf fls i) (ceOf recs e3 i) (chOf recs h3 i) (cpOf recs e3 i) (cqOf recs h3 i) := by
      intro i hi
      obtain ⟨o, ho⟩ : ∃ o, os[i]? = some o := ⟨_, List.getElem?_eq_getElem hi⟩
      obtain ⟨r, l1, l2⟩ := k4 i o ho
      obtain ⟨p1, p2⟩ := hcp i r l1
      rw [p1, p2]
      rcases l2.way with ⟨u, d, w1, w2, w3, w4, w5, w6⟩ | ⟨w1, w2, _⟩
      · have : regsOf fls i = [] := by
          apply hnoreg
          exact hfl.noeff i u w1
        rw [this, w5, w6]; exact ⟨rfl, rfl⟩
      · refine regX_ok _ _ _ _ _ w2 (regsOf_nodup hnd i) (fun j hj => ?_)
        have hj' := (regsOf_mem hnd i j).1 hj
        unfold rsOf; rw [hj']
    have hkeep : ∀ (i : Nat) (o : Oper), os[i]? = some o → bitX efm i = false → chOf recs h3 (i + 1) = chOf recs h3 i := by
      intro i o ho he
      obtain ⟨r, l1, l2⟩ := k4 i o ho
      rcases l2.way with ⟨u, d, w1, w2, w3, w4, _⟩ | ⟨w1, w2, w3, w4, w5⟩
      · exact w4
      · rw [hnoreg i he] at w2
        simp only [regX, Option.some.injEq, Prod.mk.injEq] at w2
        rcases w5 with ⟨_, _, l3⟩ | ⟨_, _, _, l3⟩
        · unfold opX at l3
          rw [← hefe i o ho w1, he, cond_false] at l3
          split at l3
          · injection l3 with l3; injection l3 with _ l3; rw [← l3, w2.2]
          · cases l3
        · rw [l3, w2.2]
    intro av w μ hi hra
    have hev : Ev w μ σ { w with drawn := w.drawn + 1 } μ σ := ev_same rfl rfl rfl rfl
    have hi' : Inv { w with drawn := w.drawn + 1 } μ σ := hi.ev_heap rfl hev
    have X1 : ∀ i, i ∈ List.range os.length ↔ i < os.length ∧ (Array.replicate os.length false).getD i true = false := by
      intro i
      simp only [List.mem_range]
      constructor
      · intro h; exact ⟨h, by simp [Array.getD]; omega⟩
      · intro h; exact h.1
    have hf : ∀ j, (Array.replicate os.length false).getD j false = true → False := by
      intro j hj
      simp [Array.getD] at hj
    have hsz : (⟨os⟩ : Array Oper).size = os.length := by simp
    refine wp_region_any hm ?_
    rw [hsz]
    have hfit0 : ∀ (i : Nat) (o : Oper), os[i]? = some o → fitsD N o.dst = true := by
      intro i o ho
      obtain ⟨r, l1, l2⟩ := k4 i o ho
      have := l2.ok; unfold okOp at this; rw [Bool.and_eq_true] at this; exact this.1
    refine wpAny_can (w0 := w) (μ0 := μ) (σ0 := σ) (off0 := σ.off) (ef := bitX efm) (fl := flAt fls) (fs := regsOf fls) (e0 := e) (rs := rsOf recs h3 fls) (ce := ceOf recs e3) (cp := cpOf recs e3) (ch := chOf recs h3) (cq := cqOf recs h3) hG hi.offlt hst hfl (regsOf_mem hnd) (regsOf_nodup hnd) k2 hregA
      (fun i o ho hf0 => ?_) (fun i o d u ho hf0 hd => ?_) hkeep (fun i o u ho _ => hfit0 i o ho) (fun i o ho he σ1 c1 => ?_) (fun i o p ho he hf0 hcp' σ1 c1 => ?_) (fun av' w' μ' σ' g1 g2 g3 g4 g5 g6 g7 => ?_)
      _ (List.range os.length) _ 0 (fun _ => none) av _ μ σ List.nodup_range (by simp) (by simp) X1 hev.evO
      ⟨hi', hra.size, hra.defers, by rw [k3]; exact c, Nat.zero_le _, fun k _ hk => ⟨fun h => (hf k h).elim, fun h => by omega⟩, fun s t _ ht => (hra.ev hev).tmp s t (ce s t ht), fun j o s hj => (hf j hj).elim, fun j o hj => (hf j hj).elim, fun b o => ⟨.inl, fun h => h.resolve_right (by rintro ⟨j, hj⟩; cases hj)⟩, (fun j b h => by cases h), (fun i j b h => by cases h), fun j u o d ty _ hj => (hf j hj).elim⟩
    · obtain ⟨r, l1, l2⟩ := k4 i o ho
      rcases l2.way with ⟨u, d, w1, _⟩ | ⟨w1, w2, w3, _⟩
      · rw [hf0] at w1; cases w1
      · rw [hrs i r hf0 l1, (hcp i r l1).1]; exact w3
    · obtain ⟨r, l1, l2⟩ := k4 i o ho
      rcases l2.way with ⟨u', d', w1, w2, w3, _⟩ | ⟨w1, _⟩
      · rw [hd] at w2; injection w2 with w2; subst w2; exact w3
      · rw [hf0] at w1; cases w1
    · obtain ⟨r, l1, l2⟩ := k4 i o ho
      have hfn : flAt fls i = none := by
        cases hb : flAt fls i with
        | none => rfl
        | some u => have := hfl.noeff i u hb; rw [he] at this; cases this
      rw [hrs i r hfn l1, (hcp i r l1).1, (hcp i r l1).2]
      rw [(hcp i r l1).2] at c1
      rcases l2.way with ⟨u, d, w1, _⟩ | ⟨w1, w2, w3, w4, w5⟩
      · rw [hfn] at w1; cases w1
      · have cr : CovE (restrL r.e1 (looks ⟨os⟩ o)) r.r := by rw [w4]; exact covE_fromEnv _
        rcases w5 with ⟨_, l3, l4⟩ | ⟨_, l3, l4, l5⟩
        · exact .inl ⟨cr.guard l3, fun K hK => opX_sound hG hcall l4 c1 cr l2.ok hK⟩
        · exact .inr ⟨cr.guard l3, l4, l5, hfit0 i o ho⟩
    · obtain ⟨r, l1, l2⟩ := k4 i o ho
      rw [hrs i r hf0 l1]
      have hlv : isEff lv o.op = false := by rw [← hefe i o ho hf0]; exact he
      rcases l2.way with ⟨u, d, w1, _⟩ | ⟨w1, w2, w3, w4, w5⟩
      · rw [hf0] at w1; cases w1
      · rw [hnoreg i he] at w2
        simp only [regX, Option.some.injEq, Prod.mk.injEq] at w2
        have cr : CovE (restrL (ceOf recs e3 i) (looks ⟨os⟩ o)) r.r := by rw [w4, w2.1]; exact covE_fromEnv _
        rcases w5 with ⟨l0, l3, l4⟩ | ⟨_, l3, l4, l5⟩
        · refine .inl ⟨cr.guard l3, fun K hK => ?_⟩
          unfold opX at l4
          rw [hlv, cond_false] at l4
          have hqt : quietX G r.r (chOf recs h3 i) o.op = some r.t := by
            rw [w2.2]
            split at l4
            · rename_i t' ht; injection l4 with l4; injection l4 with l4 _; rw [ht, l4]
            · cases l4
          have hqp : quietX G r.r (chOf recs h3 p) o.op = some r.t := by
            have h0 := qchk_at hq i o r ho l1
            rw [Nat.zero_add] at h0
            unfold qchk1 at h0
            rw [he, hf0, l0, Bool.false_or, Option.isSome_none, Bool.false_or, Bool.not_true, Bool.false_or, Bool.or_eq_true] at h0
            unfold quietX at hqt ⊢
            cases h1 : evalOp G (fun _ => none) (evX r.r) o.op with
            | some t => rw [h1] at hqt; exact hqt
            | none =>
              rw [h1] at hqt
              simp only at hqt ⊢
              cases h2 : immX G r.r o.op with
              | some t => rw [h2] at hqt; exact hqt
              | none =>
                simp only
                rcases h0 with h0 | h0
                · unfold freeX at h0; rw [h1, h2] at h0; cases h0
                · -- down to a state that was looked at
                  have at' : ∀ q, q = 0 ∨ (∃ k, q = k + 1 ∧ bitX efm k = true) → Compat (bitX efm) os i q → heapX G r.r (chOf recs h3 q) o.op = some r.t := by
                    intro q hq' hc
                    have hin : q ∈ (0 :: (eflX efm os.length).map (· + 1)) := by
                      rcases hq' with rfl | ⟨k, rfl, hk⟩
                      · simp
                      · exact List.mem_cons_of_mem _ (List.mem_map.2 ⟨k, eflX_mem.2 ⟨hblt k hk, hk⟩, rfl⟩)
                    have := List.all_eq_true.1 h0 q hin
                    rw [compatB_of hblt hc, Bool.not_true, Bool.false_or] at this
                    split at this
                    · rename_i t ht; rw [ht, beqT_eq _ _ this]
                    · cases this
                  have key : ∀ q, Compat (bitX efm) os i q → heapX G r.r (chOf recs h3 q) o.op = some r.t := by
                    intro q
                    induction q with
                    | zero => exact at' 0 (.inl rfl)
                    | succ q ih =>
                      intro hc
                      cases hb : bitX efm q with
                      | true => exact at' (q + 1) (.inr ⟨q, rfl, hb⟩) hc
                      | false =>
                        obtain ⟨oq, hq'⟩ : ∃ oq, os[q]? = some oq := ⟨_, List.getElem?_eq_getElem (by have := hc.1; omega)⟩
                        rw [hkeep q _ hq' hb]
                        refine ih ⟨by have := hc.1; omega, fun k hkl hk => ⟨fun hf => ?_, fun hf => ?_⟩⟩
                        · have h5 := (hc.2 k hkl hk).1 hf
                          have : k ≠ q := by rintro rfl; rw [hk] at hb; cases hb
                          omega
                        · have h5 := (hc.2 k hkl hk).2 hf
                          omega
                  exact key p hcp'
          exact quietX_sound hG hqp c1 cr (hfit0 i o ho) (hK σ1 c1)
        · exact .inr ⟨cr.guard l3, l4, rfl, hfit0 i o ho⟩
    · rw [hend.1] at g5
      rw [hend.2] at g6
      have hoff : σ'.off = σ.off := funext fun b => funext fun o => propext (g7 b o)
      refine ⟨restrL e3 (List.range N), σ', μ', ⟨g1.below, g1.loc, g1.tok, hoff, g1.shape, g1.live, g1.imm⟩, g2, ⟨g3, g4, fun s t ht => g5 s t (get_restrL ht).2⟩, rfl, fun s t ht => ?_, g6⟩
      obtain ⟨v, hv, _⟩ := g5 s t ht
      have : s < av'.tmps.size := (Array.getElem?_eq_some_iff.1 hv).1
      exact restrL_get ht (by rw [List.mem_range]; omega)
  · cases hx

/-- Code that is run round and round. -/
def LW (P : Program) (c : Code) (Q : Exit → Act → World → Prop) (a : Act) (w : World) : Prop :=
  ∀ (b : Frame) (k : List Item) (cs : List Frame), ∃ e a' w', Q e a' w' ∧ Arrives P (lone (b.at a (.code c :: .inLoop c :: k)) cs w) b k cs e a' w'
theorem lw_mono {c : Code} {Q Q' : Exit → Act → World → Prop} {a : Act} {w : World} (h : LW P c Q a w) (hq : ∀ e a w, Q e a w → Q' e a w) : LW P c Q' a w :=
  fun b k cs => let ⟨e, a', w', q, r⟩ := h b k cs; ⟨e, a', w', hq _ _ _ q, r⟩
theorem lw_step {c : Code} {Q : Exit → Act → World → Prop} {a : Act} {w : World} (h : c.wp P (Exit.then (LW P c Q) Q) a w) : LW P c Q a w := by
  intro b k cs
  obtain ⟨e, a₁, w₁, hq, harr⟩ := h b (.inLoop c :: k) cs
  cases e with
  | normal =>
    obtain ⟨e₂, a₂, w₂, hq₂, harr₂⟩ := hq b k cs
    exact ⟨e₂, a₂, w₂, hq₂, .of_steps (Steps.trans harr (.one step_inLoop)) harr₂⟩
  | exit id => exact ⟨_, a₁, w₁, hq, .pass (x := .inLoop c) rfl (fun _ _ => .inl (by simp)) harr⟩
  | goto l => exact ⟨_, a₁, w₁, hq, .pass (x := .inLoop c) rfl (fun _ _ => .inl (by simp)) harr⟩
  | ret => exact ⟨_, a₁, w₁, hq, .pass (x := .inLoop c) rfl (fun _ _ => .inl (by simp)) harr⟩
  | panic ch => exact ⟨_, a₁, w₁, hq, .pass (x := .inLoop c) rfl (fun _ _ => .inl (by simp)) harr⟩
  | outgrown => exact ⟨_, a₁, w₁, hq, .pass (x := .inLoop c) rfl (fun _ _ => .inl (by simp)) harr⟩
theorem loop_of_lw {c : Code} {Q : Exit → Act → World → Prop} {a : Act} {w : World} (h : LW P c Q a w) : (Code.loop c).wp P Q a w := by
  intro b k cs
  obtain ⟨e, a', w', hq, harr⟩ := h b k cs
  exact ⟨e, a', w', hq, .of_steps (.one step_loop) harr⟩
theorem aw_loop_unfold {c : Code} {a : Env} {σ : St} {Q : Exit → Env → St → Prop} (h : AW P N c (thenA (fun a' σ' => ∀ av w μ, Inv w μ σ' → RelA w μ σ' N av a' → LW P c (fun e av' w' => ∃ a2 σ2 μ2, Ev w μ σ' w' μ2 σ2 ∧ Inv w' μ2 σ2 ∧ RelA w' μ2 σ2 N av' a2 ∧ Q e a2 σ2) av w) Q) a σ) :
    ∀ av w μ, Inv w μ σ → RelA w μ σ N av a → LW P c (fun e av' w' => ∃ a2 σ2 μ2, Ev w μ σ w' μ2 σ2 ∧ Inv w' μ2 σ2 ∧ RelA w' μ2 σ2 N av' a2 ∧ Q e a2 σ2) av w := by
  intro av w μ hi hr
  refine lw_step (wp_mono (h av w μ hi hr) ?_)
  rintro e av' w' ⟨a', σ', μ', h1, h2, h3, h4⟩
  cases e with
  | normal => exact lw_mono (h4 av' w' μ' h2 h3) fun e av2 w2 ⟨a2, σ2, μ2, k1, k2, k3, k4⟩ => ⟨a2, σ2, μ2, h1.trans k1, k2, k3, k4⟩
  | exit id => exact ⟨a', σ', μ', h1, h2, h3, h4⟩
  | goto l => exact ⟨a', σ', μ', h1, h2, h3, h4⟩
  | ret => exact ⟨a', σ', μ', h1, h2, h3, h4⟩
  | panic ch => exact ⟨a', σ', μ', h1, h2, h3, h4⟩
  | outgrown => exact ⟨a', σ', μ', h1, h2, h3, h4⟩

/-- Code within a scope. -/
def SW (P : Program) (c r : Code) (Q : Exit → Act → World → Prop) (a : Act) (w : World) : Prop :=
  ∀ (b : Frame) (k : List Item) (cs : List Frame), ∃ e a' w', Q e a' w' ∧ Arrives P (lone (b.at a (.code r :: .inScope c :: k)) cs w) b k cs e a' w'
theorem sw_mono {c r : Code} {Q Q' : Exit → Act → World → Prop} {a : Act} {w : World} (h : SW P c r Q a w) (hq : ∀ e a w, Q e a w → Q' e a w) : SW P c r Q' a w :=
  fun b k cs => let ⟨e, a', w', q, r⟩ := h b k cs; ⟨e, a', w', hq _ _ _ q, r⟩
def sjump (P : Program) (c : Code) (Q : Exit → Act → World → Prop) : Exit → Act → World → Prop
  | .goto l, a, w => match findLabel c l with
    | some rest => SW P c rest Q a w
    | none => Q (.goto l) a w
  | e, a, w => Q e a w
theorem sw_step {c r : Code} {Q : Exit → Act → World → Prop} {a : Act} {w : World} (h : r.wp P (sjump P c Q) a w) : SW P c r Q a w := by
  intro b k cs
  obtain ⟨e, a₁, w₁, hq, harr⟩ := h b (.inScope c :: k) cs
  cases e with
  | normal => exact ⟨.normal, a₁, w₁, hq, Steps.trans harr (.one step_inScope)⟩
  | exit id => exact ⟨.exit id, a₁, w₁, hq, fun k' hk => harr k' (by simp [exitTo, hk])⟩
  | goto l =>
    simp only [sjump] at hq
    cases hf : findLabel c l with
    | some rest =>
      rw [hf] at hq
      have hg : gotoIn l (.inScope c :: k) = some (.code rest :: .inScope c :: k) := by simp [gotoIn, hf]
      obtain ⟨e₂, a₂, w₂, hq₂, harr₂⟩ := hq b k cs
      exact ⟨e₂, a₂, w₂, hq₂, .of_steps (harr _ hg) harr₂⟩
    | none =>
      rw [hf] at hq
      exact ⟨.goto l, a₁, w₁, hq, fun k' hk => harr k' (by simp [gotoIn, hf, hk])⟩
  | ret => exact ⟨_, a₁, w₁, hq, harr⟩
  | panic ch => exact ⟨_, a₁, w₁, hq, harr⟩
  | outgrown => exact ⟨_, a₁, w₁, hq, harr⟩
theorem scope_of_sw {c : Code} {Q : Exit → Act → World → Prop} {a : Act} {w : World} (h : SW P c c Q a w) : (Code.scope c).wp P Q a w := by
  intro b k cs
  obtain ⟨e, a', w', hq, harr⟩ := h b k cs
  exact ⟨e, a', w', hq, .of_steps (.one step_scope) harr⟩
end
end Go.Ts
