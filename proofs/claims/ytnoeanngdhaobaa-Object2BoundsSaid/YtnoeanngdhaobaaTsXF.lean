/- A machine over trees: regions, code, calls; whatever it comes to, the program comes to. -/
import Derived.Test.YtnoeanngdhaobaaTsXE
set_option linter.unusedVariables false
set_option linter.unusedSimpArgs false
namespace Go.Ts

abbrev CallF := FuncId → List T → HS → Option (T × HS)
def okOp (N : Nat) (o : Oper) : Bool := fitsD N o.dst && (!isMk o.op || o.dst.isSome)

def runOps (G : Nat → Option TI) (lv : Nat → Bool) (callF : CallF) (all : List Oper) (N : Nat) : List Oper → Tr T → HS → Option (Tr T × HS)
  | [], e, h => some (e, h)
  | o :: os, e, h => cond (okOp N o) (match guardX all e o with
    | some true => match opX G lv callF e h o.op with
      | some (t, h') => runOps G lv callF all N os (putX e o.dst t) h'
      | none => none
    | some false => runOps G lv callF all N os (putX e o.dst (.tup [])) h
    | none => none) none

structure Rec where
  e : Tr T
  r : Tr T
  h : HS
  t : T
  g : Bool
def runD (G : Nat → Option TI) (lv : Nat → Bool) (callF : CallF) (all : List Oper) (N : Nat) : List Oper → Tr T → HS → Option (List Rec × Tr T × HS)
  | [], e, h => some ([], e, h)
  | o :: os, e, h => cond (okOp N o) (match guardX all (fromEnv (restrL e (looks ⟨all⟩ o))) o with
    | some true => match opX G lv callF (fromEnv (restrL e (looks ⟨all⟩ o))) h o.op with
      | some (t, h') => match runD G lv callF all N os (putX e o.dst t) h' with
        | some (rs, e2, h2) => some (⟨e, fromEnv (restrL e (looks ⟨all⟩ o)), h, t, true⟩ :: rs, e2, h2)
        | none => none
      | none => none
    | some false => match runD G lv callF all N os (putX e o.dst (.tup [])) h with
      | some (rs, e2, h2) => some (⟨e, fromEnv (restrL e (looks ⟨all⟩ o)), h, .tup [], false⟩ :: rs, e2, h2)
      | none => none
    | none => none) none
def ceOf (recs : List Rec) (e2 : Tr T) (i : Nat) : Tr T := match recs[i]? with
  | some r => r.e
  | none => e2
def chOf (recs : List Rec) (h2 : HS) (i : Nat) : HS := match recs[i]? with
  | some r => r.h
  | none => h2
def rsOf (recs : List Rec) (i : Nat) : T := match recs[i]? with
  | some r => r.t
  | none => .nilp

def freeX (G : Nat → Option TI) (r : Tr T) (op : Op) : Bool := (evalOp G (fun _ => none) (evX r) op).isSome || (immX G r op).isSome
def compatB (lv : Nat → Bool) (os : List Oper) (ms : List Nat) (i p : Nat) : Bool := (List.range os.length).all fun k => !effAt lv os k || ((!fm ms i k || Nat.blt k p) && (!fm ms k i || Nat.ble p k))
def qchk1 (G : Nat → Option TI) (lv : Nat → Bool) (os : List Oper) (ms : List Nat) (recs : List Rec) (h2 : HS) (i : Nat) (o : Oper) (r : Rec) : Bool :=
  isEff lv o.op || !r.g || freeX G r.r o.op || (List.range (os.length + 1)).all fun p => !(Nat.beq p 0 || effAt lv os (p - 1)) || !compatB lv os ms i p || (match heapX G r.r (chOf recs h2 p) o.op with
    | some t => beqT t r.t
    | none => false)
def qchk (G : Nat → Option TI) (lv : Nat → Bool) (all : List Oper) (ms : List Nat) (recs : List Rec) (h2 : HS) : Nat → List Oper → List Rec → Bool
  | i, o :: os, r :: rs => qchk1 G lv all ms recs h2 i o r && qchk G lv all ms recs h2 (i + 1) os rs
  | _, [], _ => true
  | _, _ :: _, [] => false
def drawX (G : Nat → Option TI) (lv : Nat → Bool) (callF : CallF) (N : Nat) (os : List Oper) (e : Tr T) (h : HS) : Option (Tr T × HS) :=
  cond (statOK lv os) (match runD G lv callF os N os e h with
    | some (recs, e2, h2) => cond (qchk G lv os (masks os []) recs h2 0 os recs) (some (e2, h2)) none
    | none => none) none

section
variable {P : Program} {G : Nat → Option TI} {lv : Nat → Bool} {callF : CallF} {N : Nat}

theorem opX_sound (hG : Fits P G) (hcall : CallsOK P callF) {o : Oper} {σ : St} {a : Env} {e : Tr T} {h h' : HS} {t : T} {K : Env → St → Prop} (hx : opX G lv callF e h o.op = some (t, h')) (c : HCov σ h) (ce : CovE a e) (ho : okOp N o = true)
    (k : ∀ σ', HCov σ' h' → K (put a o.dst t) σ') : AOp P N o a σ K := by
  unfold okOp at ho
  rw [Bool.and_eq_true, Bool.or_eq_true, Bool.not_eq_true'] at ho
  unfold opX at hx
  cases he : isEff lv o.op with
  | true =>
    rw [he, cond_true] at hx
    exact effX_sound hG hcall hx c ce ho.1 ho.2 k
  | false =>
    rw [he, cond_false] at hx
    split at hx
    · rename_i t' ht
      injection hx with hx; injection hx with h1 h2; subst h1; subst h2
      exact quietX_sound hG ht c ce ho.1 (k σ c)
    · cases hx

theorem runOps_sound (hG : Fits P G) (hcall : CallsOK P callF) {all : List Oper} : ∀ (os : List Oper) (k : Nat) (e : Tr T) (h : HS) (e2 : Tr T) (h2 : HS) (a : Env) (σ : St), runOps G lv callF all N os e h = some (e2, h2) → all.drop k = os → CovE a e → HCov σ h →
    AOps P N ⟨all⟩ (fun y a' σ' => y = .normal ∧ CovE a' e2 ∧ HCov σ' h2) (List.range' k os.length) a σ
  | [], k, e, h, e2, h2, a, σ, hx, hk, ce, c => by
    simp [runOps] at hx
    obtain ⟨rfl, rfl⟩ := hx
    exact aops_nil ⟨rfl, ce, c⟩
  | o :: os, k, e, h, e2, h2, a, σ, hx, hk, ce, c => by
    have hok : okOp N o = true := by
      cases hb : okOp N o with
      | true => rfl
      | false => simp only [runOps, hb, cond_false] at hx; cases hx
    simp only [runOps, hok, cond_true] at hx
    obtain ⟨ho, hk'⟩ := al_get (ops := ⟨all⟩) hk
    rw [List.length_cons, List.range'_succ]
    split at hx
    · rename_i hg
      split at hx
      · rename_i t h' hop
        refine aops_cons ho (ce.guard hg) (opX_sound hG hcall hop c ce hok fun σ' c' => ?_)
        exact runOps_sound hG hcall os (k + 1) _ _ _ _ _ _ hx hk' (ce.put _ _) c'
      · cases hx
    · rename_i hg
      refine aops_skip ho (ce.guard hg) (by unfold okOp at hok; rw [Bool.and_eq_true] at hok; exact hok.1) ?_
      exact runOps_sound hG hcall os (k + 1) _ _ _ _ _ _ hx hk' (ce.put _ _) c
    · cases hx

structure DRec (G : Nat → Option TI) (lv : Nat → Bool) (callF : CallF) (all : List Oper) (N : Nat) (o : Oper) (e e' : Tr T) (h h' : HS) (r : Rec) : Prop where
  ok : okOp N o = true
  next : e' = putX e o.dst r.t
  res : r.r = fromEnv (restrL e (looks ⟨all⟩ o))
  way : (r.g = true ∧ guardX all r.r o = some true ∧ opX G lv callF r.r h o.op = some (r.t, h')) ∨ (r.g = false ∧ guardX all r.r o = some false ∧ r.t = .tup [] ∧ h' = h)

theorem runD_spec {all : List Oper} : ∀ (os : List Oper) (e : Tr T) (h : HS) (recs : List Rec) (e2 : Tr T) (h2 : HS), runD G lv callF all N os e h = some (recs, e2, h2) →
    recs.length = os.length ∧ ceOf recs e2 0 = e ∧ chOf recs h2 0 = h ∧ ∀ i o, os[i]? = some o → ∃ r, recs[i]? = some r ∧ DRec G lv callF all N o (ceOf recs e2 i) (ceOf recs e2 (i + 1)) (chOf recs h2 i) (chOf recs h2 (i + 1)) r
  | [], e, h, recs, e2, h2, hx => by
    simp [runD] at hx
    obtain ⟨rfl, rfl, rfl⟩ := hx
    exact ⟨rfl, rfl, rfl, fun i o ho => by simp at ho⟩
  | o :: os, e, h, recs, e2, h2, hx => by
    have hok : okOp N o = true := by
      cases hb : okOp N o with
      | true => rfl
      | false => simp only [runD, hb, cond_false] at hx; cases hx
    simp only [runD, hok, cond_true] at hx
    have shift : ∀ (r : Rec) (rs : List Rec) (i : Nat), ceOf (r :: rs) e2 (i + 1) = ceOf rs e2 i ∧ chOf (r :: rs) h2 (i + 1) = chOf rs h2 i := fun r rs i => ⟨by simp [ceOf], by simp [chOf]⟩
    split at hx
    · rename_i hg
      split at hx
      · rename_i t h' hop
        split at hx
        · rename_i rs e3 h3 hr
          injection hx with hx; injection hx with q1 hx; injection hx with q2 q3; subst q1; subst q2; subst q3
          obtain ⟨k1, k2, k3, k4⟩ := runD_spec os _ _ _ _ _ hr
          refine ⟨by simp [k1], rfl, rfl, fun i o' ho => ?_⟩
          cases i with
          | zero =>
            simp at ho; subst ho
            exact ⟨_, rfl, ⟨hok, by rw [(shift _ _ 0).1, k2]; rfl, rfl, .inl ⟨rfl, hg, by rw [(shift _ _ 0).2, k3]; exact hop⟩⟩⟩
          | succ i =>
            obtain ⟨r, l1, l2⟩ := k4 i o' (by simpa using ho)
            exact ⟨r, by simpa using l1, by rw [(shift _ _ i).1, (shift _ _ i).2, (shift _ _ (i + 1)).1, (shift _ _ (i + 1)).2]; exact l2⟩
        · cases hx
      · cases hx
    · rename_i hg
      split at hx
      · rename_i rs e3 h3 hr
        injection hx with hx; injection hx with q1 hx; injection hx with q2 q3; subst q1; subst q2; subst q3
        obtain ⟨k1, k2, k3, k4⟩ := runD_spec os _ _ _ _ _ hr
        refine ⟨by simp [k1], rfl, rfl, fun i o' ho => ?_⟩
        cases i with
        | zero =>
          simp at ho; subst ho
          exact ⟨_, rfl, ⟨hok, by rw [(shift _ _ 0).1, k2]; rfl, rfl, .inr ⟨rfl, hg, rfl, by rw [(shift _ _ 0).2, k3]; rfl⟩⟩⟩
        | succ i =>
          obtain ⟨r, l1, l2⟩ := k4 i o' (by simpa using ho)
          exact ⟨r, by simpa using l1, by rw [(shift _ _ i).1, (shift _ _ i).2, (shift _ _ (i + 1)).1, (shift _ _ (i + 1)).2]; exact l2⟩
      · cases hx
    · cases hx
theorem qchk_at {all : List Oper} {ms : List Nat} {recs : List Rec} {h2 : HS} : ∀ {i0 : Nat} {os : List Oper} {rs : List Rec}, qchk G lv all ms recs h2 i0 os rs = true → ∀ (i : Nat) (o : Oper) (r : Rec), os[i]? = some o → rs[i]? = some r → qchk1 G lv all ms recs h2 (i0 + i) o r = true
  | i0, [], rs, h, i, o, r, ho, hr => by simp at ho
  | i0, q :: os, [], h, i, o, r, ho, hr => by simp at hr
  | i0, q :: os, r0 :: rs, h, i, o, r, ho, hr => by
    simp only [qchk, Bool.and_eq_true] at h
    cases i with
    | zero => simp at ho hr; subst ho; subst hr; exact h.1
    | succ i =>
      have := qchk_at h.2 i o r (by simpa using ho) (by simpa using hr)
      rwa [show i0 + 1 + i = i0 + (i + 1) by omega] at this

theorem compatB_of {os : List Oper} {i p : Nat} (h : Compat lv os i p) : compatB lv os (masks os []) i p = true := by
  unfold compatB
  rw [List.all_eq_true]
  intro k hk
  cases he : effAt lv os k with
  | false => simp
  | true =>
    obtain ⟨h1, h2⟩ := h.2 k he
    rw [Bool.not_true, Bool.false_or, Bool.and_eq_true]
    constructor
    · cases hf : fm (masks os []) i k with
      | false => rfl
      | true => rw [Bool.not_true, Bool.false_or, Nat.blt_eq]; exact h1 hf
    · cases hf : fm (masks os []) k i with
      | false => rfl
      | true => rw [Bool.not_true, Bool.false_or]; exact Nat.ble_eq_true_of_le (h2 hf)

theorem aw_drawX (hm : P.follows .mixedOrders = true) (hG : Fits P G) (hcall : CallsOK P callF) {id : Nat} {os : List Oper} {e e2 : Tr T} {h h2 : HS} {a : Env} {σ : St} (hx : drawX G lv callF N os e h = some (e2, h2)) (ce : CovE a e) (c : HCov σ h) :
    AW P N (.region id ⟨os⟩ true) (fun y a' σ' => y = .normal ∧ CovE a' e2 ∧ HCov σ' h2) a σ := by
  unfold drawX at hx
  cases hst : statOK lv os with
  | false => rw [hst] at hx; cases hx
  | true =>
  rw [hst, cond_true] at hx
  split at hx
  · rename_i recs e3 h3 hr
    cases hq : qchk G lv os (masks os []) recs h3 0 os recs with
    | false => rw [hq] at hx; cases hx
    | true =>
    rw [hq, cond_true] at hx
    injection hx with hx; injection hx with q1 q2; subst q1; subst q2
    obtain ⟨k1, k2, k3, k4⟩ := runD_spec os _ _ _ _ _ hr
    have hend : ceOf recs e3 os.length = e3 ∧ chOf recs h3 os.length = h3 := by
      constructor
      · unfold ceOf; rw [List.getElem?_eq_none (by omega)]
      · unfold chOf; rw [List.getElem?_eq_none (by omega)]
    have hrs : ∀ i r, recs[i]? = some r → rsOf recs i = r.t := fun i r hi => by unfold rsOf; rw [hi]
    have hkeep : ∀ i o, os[i]? = some o → isEff lv o.op = false → chOf recs h3 (i + 1) = chOf recs h3 i := by
      intro i o ho he
      obtain ⟨r, l1, l2⟩ := k4 i o ho
      rcases l2.way with ⟨_, _, l3⟩ | ⟨_, _, _, l3⟩
      · unfold opX at l3
        rw [he, cond_false] at l3
        split at l3
        · injection l3 with l3; injection l3 with _ l3; exact l3.symm
        · cases l3
      · exact l3
    intro av w μ hi hra
    have hev : Ev w μ σ { w with drawn := w.drawn + 1 } μ σ := ev_same rfl rfl rfl rfl
    have hi' : Inv { w with drawn := w.drawn + 1 } μ σ := hi.ev_heap rfl hev
    have X1 : ∀ i, i ∈ List.range os.length ↔ i < os.length ∧ (Array.replicate os.length false).getD i true = false := by
      intro i
      simp only [List.mem_range]
      constructor
      · intro h; exact ⟨h, by simp [Array.getD]; omega⟩
      · intro h; exact h.1
    have hf : ∀ j, (Array.replicate os.length false).getD j false = true → False := by
      intro j hj
      simp [Array.getD] at hj
    have hsz : (⟨os⟩ : Array Oper).size = os.length := by simp
    refine wp_region_any hm ?_
    rw [hsz]
    refine wpAny_can (w0 := w) (μ0 := μ) (σ0 := σ) (e0 := e) (rs := rsOf recs) (ce := ceOf recs e3) (ch := chOf recs h3) hst k2 (fun i o ho => ?_) hkeep (fun i o ho he σ1 c1 => ?_) (fun i o p ho he hcp σ1 c1 => ?_) (fun av' w' μ' σ' g1 g2 g3 g4 g5 g6 => ?_)
      _ (List.range os.length) _ 0 av _ μ σ List.nodup_range (by simp) (by simp) X1 hev
      ⟨hi', hra.size, hra.defers, by rw [k3]; exact c, Nat.zero_le _, fun k hk => ⟨fun h => (hf k h).elim, fun h => by omega⟩, fun s t _ ht => (hra.ev hev).tmp s t (ce s t ht), fun j o s hj => (hf j hj).elim, fun j o hj => (hf j hj).elim⟩
    · obtain ⟨r, l1, l2⟩ := k4 i o ho
      rw [hrs i r l1]; exact l2.next
    · obtain ⟨r, l1, l2⟩ := k4 i o ho
      rw [hrs i r l1]
      have cr : CovE (restrL (ceOf recs e3 i) (looks ⟨os⟩ o)) r.r := by rw [l2.res]; exact covE_fromEnv _
      rcases l2.way with ⟨_, l3, l4⟩ | ⟨_, l3, l4, l5⟩
      · exact .inl ⟨cr.guard l3, fun K hK => opX_sound hG hcall l4 c1 cr l2.ok hK⟩
      · exact .inr ⟨cr.guard l3, l4, l5, by have := l2.ok; unfold okOp at this; rw [Bool.and_eq_true] at this; exact this.1⟩
    · obtain ⟨r, l1, l2⟩ := k4 i o ho
      rw [hrs i r l1]
      have cr : CovE (restrL (ceOf recs e3 i) (looks ⟨os⟩ o)) r.r := by rw [l2.res]; exact covE_fromEnv _
      have hfit : fitsD N o.dst = true := by have := l2.ok; unfold okOp at this; rw [Bool.and_eq_true] at this; exact this.1
      rcases l2.way with ⟨l0, l3, l4⟩ | ⟨_, l3, l4, l5⟩
      · refine .inl ⟨cr.guard l3, fun K hK => ?_⟩
        unfold opX at l4
        rw [he, cond_false] at l4
        have hqt : quietX G r.r (chOf recs h3 i) o.op = some r.t := by
          split at l4
          · rename_i t' ht; injection l4 with l4; injection l4 with l4 _; rw [ht, l4]
          · cases l4
        have hqp : quietX G r.r (chOf recs h3 p) o.op = some r.t := by
          have h0 := qchk_at hq i o r ho l1
          rw [Nat.zero_add] at h0
          unfold qchk1 at h0
          rw [he, l0, Bool.false_or, Bool.not_true, Bool.false_or, Bool.or_eq_true] at h0
          unfold quietX at hqt ⊢
          cases h1 : evalOp G (fun _ => none) (evX r.r) o.op with
          | some t => rw [h1] at hqt; exact hqt
          | none =>
            rw [h1] at hqt
            simp only at hqt ⊢
            cases h2 : immX G r.r o.op with
            | some t => rw [h2] at hqt; exact hqt
            | none =>
              simp only
              rcases h0 with h0 | h0
              · unfold freeX at h0; rw [h1, h2] at h0; cases h0
              · -- down to a state that was looked at
                have key : ∀ q, Compat lv os i q → heapX G r.r (chOf recs h3 q) o.op = some r.t := by
                  intro q
                  induction q with
                  | zero =>
                    intro hc
                    have := List.all_eq_true.1 h0 0 (by simp)
                    rw [compatB_of hc] at this
                    simp only [Nat.beq_refl, Bool.true_or, Bool.not_true, Bool.false_or] at this
                    split at this
                    · rename_i t ht; rw [ht, beqT_eq _ _ this]
                    · cases this
                  | succ q ih =>
                    intro hc
                    cases hb : effAt lv os q with
                    | true =>
                      have := List.all_eq_true.1 h0 (q + 1) (by have := hc.1; simp; omega)
                      rw [compatB_of hc, Nat.add_sub_cancel, hb] at this
                      simp only [Bool.or_true, Bool.not_true, Bool.false_or] at this
                      split at this
                      · rename_i t ht; rw [ht, beqT_eq _ _ this]
                      · cases this
                    | false =>
                      obtain ⟨oq, hq'⟩ : ∃ oq, os[q]? = some oq := ⟨_, List.getElem?_eq_getElem (by have := hc.1; omega)⟩
                      have he' : isEff lv oq.op = false := by
                        unfold effAt at hb; rw [hq'] at hb; exact hb
                      rw [hkeep q _ hq' he']
                      refine ih ⟨by have := hc.1; omega, fun k hk => ⟨fun hf => ?_, fun hf => ?_⟩⟩
                      · have h5 := (hc.2 k hk).1 hf
                        have : k ≠ q := by rintro rfl; rw [hk] at hb; cases hb
                        omega
                      · have h5 := (hc.2 k hk).2 hf
                        omega
                exact key p hcp
        exact quietX_sound hG hqp c1 cr hfit (hK σ1 c1)
      · exact .inr ⟨cr.guard l3, l4, rfl, hfit⟩
    · rw [hend.1] at g5
      rw [hend.2] at g6
      refine ⟨restrL e3 (List.range N), σ', μ', g1, g2, ⟨g3, g4, fun s t ht => g5 s t (get_restrL ht).2⟩, rfl, fun s t ht => ?_, g6⟩
      obtain ⟨v, hv, _⟩ := g5 s t ht
      have : s < av'.tmps.size := (Array.getElem?_eq_some_iff.1 hv).1
      exact restrL_get ht (by rw [List.mem_range]; omega)
  · cases hx

/-- Code that is run round and round. -/
def LW (P : Program) (c : Code) (Q : Exit → Act → World → Prop) (a : Act) (w : World) : Prop :=
  ∀ (b : Frame) (k : List Item) (cs : List Frame), ∃ e a' w', Q e a' w' ∧ Arrives P (lone (b.at a (.code c :: .inLoop c :: k)) cs w) b k cs e a' w'
theorem lw_mono {c : Code} {Q Q' : Exit → Act → World → Prop} {a : Act} {w : World} (h : LW P c Q a w) (hq : ∀ e a w, Q e a w → Q' e a w) : LW P c Q' a w :=
  fun b k cs => let ⟨e, a', w', q, r⟩ := h b k cs; ⟨e, a', w', hq _ _ _ q, r⟩
theorem lw_step {c : Code} {Q : Exit → Act → World → Prop} {a : Act} {w : World} (h : c.wp P (Exit.then (LW P c Q) Q) a w) : LW P c Q a w := by
  intro b k cs
  obtain ⟨e, a₁, w₁, hq, harr⟩ := h b (.inLoop c :: k) cs
  cases e with
  | normal =>
    obtain ⟨e₂, a₂, w₂, hq₂, harr₂⟩ := hq b k cs
    exact ⟨e₂, a₂, w₂, hq₂, .of_steps (Steps.trans harr (.one step_inLoop)) harr₂⟩
  | exit id => exact ⟨_, a₁, w₁, hq, .pass (x := .inLoop c) rfl (fun _ _ => .inl (by simp)) harr⟩
  | goto l => exact ⟨_, a₁, w₁, hq, .pass (x := .inLoop c) rfl (fun _ _ => .inl (by simp)) harr⟩
  | ret => exact ⟨_, a₁, w₁, hq, .pass (x := .inLoop c) rfl (fun _ _ => .inl (by simp)) harr⟩
  | panic ch => exact ⟨_, a₁, w₁, hq, .pass (x := .inLoop c) rfl (fun _ _ => .inl (by simp)) harr⟩
  | outgrown => exact ⟨_, a₁, w₁, hq, .pass (x := .inLoop c) rfl (fun _ _ => .inl (by simp)) harr⟩
theorem loop_of_lw {c : Code} {Q : Exit → Act → World → Prop} {a : Act} {w : World} (h : LW P c Q a w) : (Code.loop c).wp P Q a w := by
  intro b k cs
  obtain ⟨e, a', w', hq, harr⟩ := h b k cs
  exact ⟨e, a', w', hq, .of_steps (.one step_loop) harr⟩
theorem aw_loop_unfold {c : Code} {a : Env} {σ : St} {Q : Exit → Env → St → Prop} (h : AW P N c (thenA (fun a' σ' => ∀ av w μ, Inv w μ σ' → RelA w μ σ' N av a' → LW P c (fun e av' w' => ∃ a2 σ2 μ2, Ev w μ σ' w' μ2 σ2 ∧ Inv w' μ2 σ2 ∧ RelA w' μ2 σ2 N av' a2 ∧ Q e a2 σ2) av w) Q) a σ) :
    ∀ av w μ, Inv w μ σ → RelA w μ σ N av a → LW P c (fun e av' w' => ∃ a2 σ2 μ2, Ev w μ σ w' μ2 σ2 ∧ Inv w' μ2 σ2 ∧ RelA w' μ2 σ2 N av' a2 ∧ Q e a2 σ2) av w := by
  intro av w μ hi hr
  refine lw_step (wp_mono (h av w μ hi hr) ?_)
  rintro e av' w' ⟨a', σ', μ', h1, h2, h3, h4⟩
  cases e with
  | normal => exact lw_mono (h4 av' w' μ' h2 h3) fun e av2 w2 ⟨a2, σ2, μ2, k1, k2, k3, k4⟩ => ⟨a2, σ2, μ2, h1.trans k1, k2, k3, k4⟩
  | exit id => exact ⟨a', σ', μ', h1, h2, h3, h4⟩
  | goto l => exact ⟨a', σ', μ', h1, h2, h3, h4⟩
  | ret => exact ⟨a', σ', μ', h1, h2, h3, h4⟩
  | panic ch => exact ⟨a', σ', μ', h1, h2, h3, h4⟩
  | outgrown => exact ⟨a', σ', μ', h1, h2, h3, h4⟩

/-- Code within a scope. -/
def SW (P : Program) (c r : Code) (Q : Exit → Act → World → Prop) (a : Act) (w : World) : Prop :=
  ∀ (b : Frame) (k : List Item) (cs : List Frame), ∃ e a' w', Q e a' w' ∧ Arrives P (lone (b.at a (.code r :: .inScope c :: k)) cs w) b k cs e a' w'
theorem sw_mono {c r : Code} {Q Q' : Exit → Act → World → Prop} {a : Act} {w : World} (h : SW P c r Q a w) (hq : ∀ e a w, Q e a w → Q' e a w) : SW P c r Q' a w :=
  fun b k cs => let ⟨e, a', w', q, r⟩ := h b k cs; ⟨e, a', w', hq _ _ _ q, r⟩
def sjump (P : Program) (c : Code) (Q : Exit → Act → World → Prop) : Exit → Act → World → Prop
  | .goto l, a, w => match findLabel c l with
    | some rest => SW P c rest Q a w
    | none => Q (.goto l) a w
  | e, a, w => Q e a w
theorem sw_step {c r : Code} {Q : Exit → Act → World → Prop} {a : Act} {w : World} (h : r.wp P (sjump P c Q) a w) : SW P c r Q a w := by
  intro b k cs
  obtain ⟨e, a₁, w₁, hq, harr⟩ := h b (.inScope c :: k) cs
  cases e with
  | normal => exact ⟨.normal, a₁, w₁, hq, Steps.trans harr (.one step_inScope)⟩
  | exit id => exact ⟨.exit id, a₁, w₁, hq, fun k' hk => harr k' (by simp [exitTo, hk])⟩
  | goto l =>
    simp only [sjump] at hq
    cases hf : findLabel c l with
    | some rest =>
      rw [hf] at hq
      have hg : gotoIn l (.inScope c :: k) = some (.code rest :: .inScope c :: k) := by simp [gotoIn, hf]
      obtain ⟨e₂, a₂, w₂, hq₂, harr₂⟩ := hq b k cs
      exact ⟨e₂, a₂, w₂, hq₂, .of_steps (harr _ hg) harr₂⟩
    | none =>
      rw [hf] at hq
      exact ⟨.goto l, a₁, w₁, hq, fun k' hk => harr k' (by simp [gotoIn, hf, hk])⟩
  | ret => exact ⟨_, a₁, w₁, hq, harr⟩
  | panic ch => exact ⟨_, a₁, w₁, hq, harr⟩
  | outgrown => exact ⟨_, a₁, w₁, hq, harr⟩
theorem scope_of_sw {c : Code} {Q : Exit → Act → World → Prop} {a : Act} {w : World} (h : SW P c c Q a w) : (Code.scope c).wp P Q a w := by
  intro b k cs
  obtain ⟨e, a', w', hq, harr⟩ := h b k cs
  exact ⟨e, a', w', hq, .of_steps (.one step_scope) harr⟩
end
end Go.Ts
