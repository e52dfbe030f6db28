/- A machine over trees: regions that draw their order; whatever order is drawn, it comes to what the text's order comes to. -/
import Derived.Test.YtholeicgmkjadaaTsXE
set_option linter.unusedVariables false
set_option linter.unusedSimpArgs false
namespace Go.Ts
section
variable {P : Program} {G : Nat → Option TI} {N : Nat} {os : List Oper}

theorem HCov.off {σ : St} {h : HS} (c : HCov σ h) (off1 : Nat → Nat → Prop) : HCov { σ with off := off1 } h := ⟨c.th, c.mp, c.room, c.nx⟩
theorem regOK_at {rs : Nat → T} : ∀ (js : List Nat) (e : Tr T) (h : HS) (e' : Tr T) (h' : HS), RegOK G os rs js e h e' h' → ∀ j, j ∈ js → ∃ o d ty ti, os[j]? = some o ∧ o.dst = some d ∧ o.op = .alloc ty ∧ G ty = some ti
  | [], e, h, e', h', hr, j, hj => by simp at hj
  | k :: js, e, h, e', h', hr, j, hj => by
    obtain ⟨o, d, ty, ti, h1, h2, h3, h4, h5, h6⟩ := hr
    rcases List.mem_cons.1 hj with rfl | hj
    · exact ⟨o, d, ty, ti, h1, h2, h3, h4⟩
    · exact regOK_at js _ _ _ _ h6 j hj

theorem reg_all {rs : Nat → T} {w0 w : World} {μ0 : Gh} {σ0 : St} {off0 : Nat → Nat → Prop} (hoff0 : ∀ x q, off0 x q → x < w0.heap.size) : ∀ (js : List Nat) (e : Tr T) (h : HS) (e' : Tr T) (h' : HS), RegOK G os rs js e h e' h' → js.Nodup →
    ∀ (μ : Gh) (σ : St) (pb : Nat → Option Nat), Inv w μ σ → HCov σ h → EvO w0 μ0 σ0 w μ σ → (∀ b o, σ.off b o ↔ off0 b o ∨ ∃ j, pb j = some b) → (∀ i j b, pb i = some b → pb j = some b → i = j) → (∀ j b, pb j = some b → ¬ Live μ σ b) →
    (∀ j, j ∈ js → ∃ o ty ti b c el, os[j]? = some o ∧ o.op = .alloc ty ∧ G ty = some ti ∧ pb j = some b ∧ w.heap[b]? = some (.cells c el (0, 0)) ∧ w0.heap.size ≤ b ∧ ti.tree.cells.length ≤ c.size ∧ ∀ (w : World) (μ : Gh) (σ : St), CellsIn w μ σ ti.tree.cells c 0) →
    ∃ (μ' : Gh) (σ' : St) (pb' : Nat → Option Nat), Inv w μ' σ' ∧ HCov σ' h' ∧ EvO w0 μ0 σ0 w μ' σ' ∧ Ev0 w μ σ w μ' σ' ∧ (∀ b o, σ'.off b o ↔ off0 b o ∨ ∃ j, pb' j = some b) ∧ (∀ j, j ∈ js → pb' j = none) ∧ (∀ j, ¬ j ∈ js → pb' j = pb j) ∧ (∀ j b, pb' j = some b → ¬ Live μ' σ' b) ∧
      ∀ j b, j ∈ js → pb j = some b → Rel w μ' σ' (.pointer (some ⟨b, 0, none⟩)) (rs j)
  | [], e, h, e', h', hr, hn, μ, σ, pb, hi, hc, ev, ho, hpi, hpl, hp => by
    obtain ⟨rfl, rfl⟩ := hr
    exact ⟨μ, σ, pb, hi, hc, ev, ⟨fun _ _ h => h, fun _ _ h => h, fun _ _ h => h, fun _ _ h => ⟨h, rfl⟩⟩, ho, fun j hj => by simp at hj, fun j _ => rfl, hpl, fun j b hj => by simp at hj⟩
  | j :: js, e, h, e', h', hr, hn, μ, σ, pb, hi, hc, ev, ho, hpi, hpl, hp => by
    obtain ⟨o, d, ty, ti, h1, h2, h3, h4, h5, h6⟩ := hr
    obtain ⟨o', ty', ti', b, c, el, k1, k2, k3, k4, k5, k6, k7, k8⟩ := hp j List.mem_cons_self
    rw [h1] at k1; injection k1 with k1; subst k1
    rw [h3] at k2; injection k2 with k2; subst k2
    rw [h4] at k3; injection k3 with k3; subst k3
    rw [List.nodup_cons] at hn
    let pb1 : Nat → Option Nat := fun i => cond (Nat.beq i j) none (pb i)
    have hpb1 : ∀ i x, pb1 i = some x ↔ i ≠ j ∧ pb i = some x := by
      intro i x
      show cond (Nat.beq i j) none (pb i) = some x ↔ _
      by_cases e : i = j
      · subst e; simp
      · rw [beqF e, cond_false]; simp [e]
    have hb1 : ∀ q, ¬ (off0 b q ∨ ∃ i, pb1 i = some b) := by
      rintro q (hq | ⟨i, hq⟩)
      · have := hoff0 b q hq; omega
      · obtain ⟨q1, q2⟩ := (hpb1 i b).1 hq
        exact q1 (hpi i j b q2 k4)
    obtain ⟨n1, n2, n3, n4⟩ := note_step (off1 := fun x q => off0 x q ∨ ∃ i, pb1 i = some x) hi k5 (hpl j b k4) k7 k8 hc.nx
      (fun x q hq => (ho x q).2 (hq.imp id fun ⟨i, hi⟩ => ⟨i, ((hpb1 i x).1 hi).2⟩)) (fun q => (ho b q).2 (.inr ⟨j, k4⟩)) hb1 k6 ev
    have hc1 : HCov { σ.new h.nx (.cells ti.tree.cells) with off := fun x q => off0 x q ∨ ∃ i, pb1 i = some x } (h.new (thOf ti.tree.cells)) := (hc.newTh rfl (thOf_ok _)).off _
    obtain ⟨μ', σ', pb', m1, m2, m3, m4, m5, m6, m7, m8, m9⟩ := reg_all hoff0 js _ _ _ _ h6 hn.2 _ _ pb1 n2 hc1 n1 (fun x q => Iff.rfl) (fun i i' x q1 q2 => hpi i i' x ((hpb1 i x).1 q1).2 ((hpb1 i' x).1 q2).2)
      (fun i x hx => n4 x (by rintro rfl; exact ((hpb1 i _).1 hx).1 (hpi i j _ ((hpb1 i _).1 hx).2 k4)) (hpl i x ((hpb1 i x).1 hx).2))
      (fun i hi' => by
        obtain ⟨o, ty, ti, b', c', el', q1, q2, q3, q4, q5⟩ := hp i (List.mem_cons_of_mem _ hi')
        exact ⟨o, ty, ti, b', c', el', q1, q2, q3, (hpb1 i b').2 ⟨by rintro rfl; exact hn.1 hi', q4⟩, q5⟩)
    have hmj : pb' j = none := by rw [m7 j hn.1]; show cond (Nat.beq j j) none (pb j) = none; simp
    refine ⟨μ', σ', pb', m1, m2, m3, ⟨fun i x hx => m4.loc _ _ (n3.loc _ _ hx), fun i x hx => m4.tok _ _ (n3.tok _ _ hx), fun x n hx => m4.shape _ _ (n3.shape _ _ hx), fun x q hx => ⟨(m4.imm _ _ (n3.imm _ _ hx).1).1, ((m4.imm _ _ (n3.imm _ _ hx).1).2).trans (n3.imm _ _ hx).2⟩⟩, m5, fun i hi' => ?_, fun i hi' => ?_, m8, fun i x hi' hx => ?_⟩
    · rcases List.mem_cons.1 hi' with rfl | hi'
      · exact hmj
      · exact m6 i hi'
    · rw [m7 i (fun h => hi' (List.mem_cons_of_mem _ h))]
      show cond (Nat.beq i j) none (pb i) = pb i
      rw [beqF (by rintro rfl; exact hi' List.mem_cons_self), cond_false]
    · rcases List.mem_cons.1 hi' with rfl | hi2
      · rw [k4] at hx; injection hx with hx; subst hx
        rw [h5]
        exact Rel.ev' (.ptr h.nx b 0 0 (addL_same _ _)) m4
      · exact m9 i x hi2 ((hpb1 i x).2 ⟨fun e => hn.1 (e ▸ hi2), hx⟩)

theorem wpAny_can {ef : Nat → Bool} {fl : Nat → Option Nat} {fs : Nat → List Nat} {e0 : Tr T} {rs : Nat → T} {ce cp : Nat → Tr T} {ch cq : Nat → HS} {Qc : Exit → Act → World → Prop} {w0 : World} {μ0 : Gh} {σ0 : St} {off0 : Nat → Nat → Prop} (hG : Fits P G)
    (hoff0 : ∀ x q, off0 x q → x < w0.heap.size) (hst : statOK ef os = true) (hfl : FlOK os ef fl) (hfs : ∀ i j, j ∈ fs i ↔ fl j = some i) (hnd : ∀ i, (fs i).Nodup) (he0 : ce 0 = e0)
    (hreg : ∀ i, i < os.length → RegOK G os rs (fs i) (ce i) (ch i) (cp i) (cq i)) (hce : ∀ i o, os[i]? = some o → fl i = none → ce (i + 1) = putX (cp i) o.dst (rs i))
    (hcf : ∀ i o d u, os[i]? = some o → fl i = some u → o.dst = some d → ce (i + 1) = (ce i).del d) (hch : ∀ i o, os[i]? = some o → ef i = false → ch (i + 1) = ch i) (hfit : ∀ i o u, os[i]? = some o → fl i = some u → fitsD N o.dst = true)
    (heff : ∀ i o, os[i]? = some o → ef i = true → ∀ σ, HCov σ (cq i) → OpOK P N ⟨os⟩ o (restrL (cp i) (looks ⟨os⟩ o)) σ (rs i) (ch (i + 1)) (cq i))
    (hqui : ∀ i o p, os[i]? = some o → ef i = false → fl i = none → Compat ef os i p → ∀ σ, HCov σ (ch p) → OpOK P N ⟨os⟩ o (restrL (ce i) (looks ⟨os⟩ o)) σ (rs i) (ch p) (ch p))
    (hQ : ∀ av' w' μ' σ', EvO w0 μ0 σ0 w' μ' σ' → Inv w' μ' σ' → av'.tmps.size = N → av'.defers = [] → (∀ s t, (ce os.length).get s = some t → ∃ v, av'.tmps[s]? = some v ∧ Rel w' μ' σ' v t) → HCov σ' (ch os.length) → (∀ b o, σ'.off b o ↔ off0 b o) → Qc .normal av' w') :
    ∀ (fuel : Nat) (l : List Nat) (listed : Array Bool) (p : Nat) (pb : Nat → Option Nat) (av : Act) (w : World) (μ : Gh) (σ : St), l.Nodup → l.length = fuel → listed.size = os.length → (∀ i, i ∈ l ↔ i < os.length ∧ listed.getD i true = false) →
      EvO w0 μ0 σ0 w μ σ → CInv P G N os ef fl w0 off0 e0 rs ch listed p pb av w μ σ → wpAny P .any ⟨os⟩ Qc fuel listed av w := by
  subst he0
  have hstat : ∀ (i : Nat) (o : Oper), os[i]? = some o → (∀ e ∈ o.after.toList, Region.binds .any e = true → e.on < i) ∧ ∀ (j : Nat) (q : Oper), os[j]? = some q → pairX ⟨os⟩ (masks os []) ef i j o q = true := by
    intro i o ho
    have := stat1_at hst i o ho
    simpa using this
  have hltf : ∀ j u, fl j = some u → j < u := fun j u h => (hfl.reg j u h).2.1
  have hfd : ∀ i u o, fl i = some u → os[i]? = some o → ∃ d, o.dst = some d := by
    intro i u o h1 h2
    obtain ⟨o', d, ty, k1, k2, _⟩ := hfl.op i u h1
    rw [h2] at k1; injection k1 with k1; subst k1; exact ⟨d, k2⟩
  have hcg := fun i s t hi h => cget (os := os) (G := G) hfs hltf hreg hce hcf hfd i s t hi h
  -- a set that is closed holds all that stands ahead
  have hcl : ∀ (listed : Array Bool), (∀ (j : Nat) (o : Oper), listed.getD j false = true → os[j]? = some o → ∀ e ∈ o.after.toList, Region.binds .any e = true → listed.getD e.on false = true) →
      ∀ (i : Nat) (o : Oper), os[i]? = some o → (∀ e ∈ o.after.toList, Region.binds .any e = true → listed.getD e.on false = true) → ∀ j, fm (masks os []) i j = true → listed.getD j false = true := by
    intro listed hc i
    induction i using Nat.strongRecOn with
    | _ i ih =>
      intro o ho hr j hj
      obtain ⟨e, he, hb, h⟩ := fm_step ho hj
      rcases h with rfl | ⟨hlt, h⟩
      · exact hr e he hb
      · obtain ⟨oe, hoe⟩ : ∃ oe, os[e.on]? = some oe := ⟨_, List.getElem?_eq_getElem (by have := lt_of_get ho; omega)⟩
        exact ih e.on hlt _ hoe (fun e' he' hb' => hc e.on _ (hr e he hb) hoe e' he' hb') j h
  have isl : ∀ (listed : Array Bool) (k : Nat), listed.getD k false = true → listed.size = os.length → k < os.length := by
    intro listed k hk hsz
    rcases Nat.lt_or_ge k os.length with h | h
    · exact h
    · simp only [Array.getD_eq_getD_getElem?, Array.getElem?_eq_none (show listed.size ≤ k by omega)] at hk; cases hk
  intro fuel
  induction fuel with
  | zero =>
    intro l listed p pb av w μ σ hn hlen hsz hmem hev hd
    obtain rfl : l = [] := List.eq_nil_of_length_eq_zero hlen
    have hall : ∀ i, i < os.length → listed.getD i false = true := by
      intro i hi
      have h1 : ¬ listed.getD i true = false := fun h => by simpa using (hmem i).2 ⟨hi, h⟩
      simp only [Array.getD_eq_getD_getElem?, Array.getElem?_eq_getElem (show i < listed.size by omega), Option.getD_some] at h1 ⊢
      simpa using h1
    have hul : ∀ j u, fl j = some u → listed.getD u false = true := by
      intro j u h
      obtain ⟨k1, k2, k3, k4⟩ := hfl.reg j u h
      have : u < os.length := by
        rcases Nat.lt_or_ge u os.length with h | h
        · exact h
        · obtain ⟨e, he, _⟩ : ∃ o, os[u]? = some o ∧ True := by
            unfold fm at k1
            exfalso
            have hlm : ∀ (os : List Oper) (ms : List Nat), (masks os ms).length = ms.length + os.length := by
              intro os
              induction os with
              | nil => intro ms; simp [masks]
              | cons o os ih => intro ms; rw [masks, ih]; simp; omega
            rw [List.getD_eq_getElem?_getD, List.getElem?_eq_none (by rw [hlm]; simp; omega)] at k1
            simp at k1
          rw [List.getElem?_eq_none h] at he; cases he
      exact hall u this
    have hpb : ∀ j, pb j = none := by
      intro j
      cases h : pb j with
      | none => rfl
      | some b => obtain ⟨u, h1, _, h3⟩ := hd.pbl j b h; rw [hul j u h1] at h3; cases h3
    refine ⟨?_, ?_⟩
    · apply List.eq_nil_iff_forall_not_mem.2
      intro i hi
      simp only [Region.ready, List.mem_filter, List.mem_range, Bool.and_eq_true] at hi
      obtain ⟨h1, h2, _⟩ := hi
      have h1' : i < os.length := by simpa using h1
      have := hall i h1'
      simp only [Array.getD_eq_getD_getElem?, Array.getElem?_eq_getElem (show i < listed.size by omega), Option.getD_some] at this h2
      rw [this] at h2; simp at h2
    · refine hQ av w μ σ hev hd.inv hd.size hd.defers (fun s t ht => ?_) ?_ (fun b o => ?_)
      · rcases hcg _ s t (Nat.le_refl _) ht with ⟨j, o, h1, h2, h3, h4, h5⟩ | ⟨h1, h2⟩
        · subst h4; exact hd.done j o s (hall j h1) h2 h3 (fun u hu => hul j u hu)
        · exact hd.base s t (fun j o _ ho => h1 j o (lt_of_get ho) ho) h2
      · have : ch os.length = ch p := by
          refine chstab hch _ hd.ple (Nat.le_refl _) (fun k h1 h2 => ?_)
          cases hb : ef k with
          | false => rfl
          | true => have := (hd.effp k h2 hb).1 (hall k h2); omega
        rw [this]; exact hd.cov
      · rw [hd.offc b o]
        exact ⟨fun h => h.resolve_right (by rintro ⟨j, hj⟩; rw [hpb j] at hj; cases hj), .inl⟩
  | succ fuel ih =>
    intro l listed p pb av w μ σ hn hlen hsz hmem hev hd
    have hdef : ∀ i, i < os.length → listed.getD i true = listed.getD i false := by
      intro i hi
      simp only [Array.getD_eq_getD_getElem?, Array.getElem?_eq_getElem (show i < listed.size by omega), Option.getD_some]
    refine ⟨fun hr => ?_, fun i hi => ?_⟩
    · exfalso
      obtain ⟨i, hil, him⟩ := minimal (l := l) (by intro h; subst h; simp at hlen)
      obtain ⟨h1, h2⟩ := (hmem i).1 hil
      have : i ∈ Region.ready .any ⟨os⟩ listed := by
        simp only [Region.ready, List.mem_filter, List.mem_range]
        refine ⟨by simpa using h1, ?_⟩
        have ho : (⟨os⟩ : Array Oper)[i]? = some os[i] := by simp [h1]
        simp only [h2, ho, Option.map_some, Option.getD_some, Bool.not_false, Bool.true_and]
        rw [← Array.all_toList, List.all_eq_true]
        intro e he
        obtain ⟨k1, _⟩ := hstat i os[i] (List.getElem?_eq_getElem h1)
        cases hb : Region.binds .any e with
        | false => simp
        | true =>
          have := k1 e he hb
          have h4 : ¬ e.on ∈ l := fun h => by have := him _ h; omega
          have h5 : ¬ listed.getD e.on true = false := fun h => h4 ((hmem _).2 ⟨by omega, h⟩)
          rw [hdef _ (by omega)] at h5
          simpa using h5
      rw [hr] at this; cases this
    · simp only [Region.ready, List.mem_filter, List.mem_range, Bool.and_eq_true] at hi
      obtain ⟨hi1, hi2, hi3⟩ := hi
      have hin : i < os.length := by simpa using hi1
      have hil : listed.getD i true = false := by simpa using hi2
      have hilf : listed.getD i false = false := by rw [← hdef i hin]; exact hil
      obtain ⟨o, ho⟩ : ∃ o, os[i]? = some o := ⟨_, List.getElem?_eq_getElem hin⟩
      have ho' : (⟨os⟩ : Array Oper)[i]? = some o := by simpa using ho
      simp only [ho', Option.map_some, Option.getD_some] at hi3
      rw [← Array.all_toList, List.all_eq_true] at hi3
      have hready : ∀ e ∈ o.after.toList, Region.binds .any e = true → listed.getD e.on false = true := by
        intro e he hb
        have := hi3 e he
        simpa [hb] using this
      obtain ⟨hk1, hpair⟩ := hstat i o ho
      have hpre : ∀ j, fm (masks os []) i j = true → listed.getD j false = true := hcl listed hd.closed i o ho hready
      have hpost : ∀ (j : Nat) (q : Oper), os[j]? = some q → listed.getD j false = true → fm (masks os []) j i = true → False := by
        intro j q hq hj h
        have := hcl listed hd.closed j q hq (fun e he hb => hd.closed j q hj hq e he hb) i h
        rw [hilf] at this; cases this
      have hssa : ∀ (j : Nat) (q : Oper) (s : Nat), os[j]? = some q → q.dst = some s → i ≠ j → o.dst ≠ some s := by
        intro j q s hq hqs hij h
        have := hpair j q hq
        simp [pairX, hqs, h, beqF hij] at this
      have hcond : ∀ j, (listed.setIfInBounds i true).getD j false = cond (Nat.beq i j) true (listed.getD j false) := fun j => setD (by omega)
      have hnl : ∀ j, i ≠ j → (listed.setIfInBounds i true).getD j false = listed.getD j false := fun j h => by rw [hcond, beqF h, cond_false]
      have hmem' : ∀ j, j ∈ l.erase i ↔ j < os.length ∧ (listed.setIfInBounds i true).getD j true = false := by
        intro j
        rw [hn.mem_erase_iff, hmem j, setD (by omega)]
        by_cases e : i = j
        · subst e; simp
        · rw [beqF e]; simp only [cond_false]
          exact ⟨fun h => h.2, fun h => ⟨fun h' => e h'.symm, h⟩⟩
      have hlen' : (l.erase i).length = fuel := by rw [List.length_erase_of_mem ((hmem i).2 ⟨hin, hil⟩)]; omega
      have hclosed' : ∀ (j : Nat) (q : Oper), (listed.setIfInBounds i true).getD j false = true → os[j]? = some q → ∀ e ∈ q.after.toList, Region.binds .any e = true → (listed.setIfInBounds i true).getD e.on false = true := by
        intro j q hj hq e he hb
        rw [hcond]
        cases hij : Nat.beq i e.on with
        | true => rfl
        | false =>
          rw [hcond] at hj
          cases hij2 : Nat.beq i j with
          | true =>
            have := Nat.eq_of_beq_eq_true hij2; subst this
            rw [ho] at hq; injection hq with hq; subst hq
            exact hready e he hb
          | false => rw [hij2] at hj; exact hd.closed j q hj hq e he hb
      -- a new thing's own registrar is not listed before it
      have hunl : ∀ u, fl i = some u → listed.getD u false = false := by
        intro u hu
        cases hb : listed.getD u false with
        | false => rfl
        | true =>
          obtain ⟨k1, _⟩ := hfl.reg i u hu
          obtain ⟨q, hq⟩ : ∃ q, os[u]? = some q := ⟨_, List.getElem?_eq_getElem (isl listed u hb hsz)⟩
          exact (hpost u q hq hb k1).elim
      unfold wpOp
      simp only [ho']
      cases hfi : fl i with
      | some u =>
        -- a new thing
        obtain ⟨o', d, ty, k1, k2, k3, k4⟩ := hfl.op i u hfi
        rw [ho] at k1; injection k1 with k1; subst k1
        have huo : u < os.length := by
          obtain ⟨q1, q2, q3, q4⟩ := hfl.reg i u hfi
          rcases Nat.lt_or_ge u os.length with h | h
          · exact h
          · exfalso
            have hlm : ∀ (os : List Oper) (ms : List Nat), (masks os ms).length = ms.length + os.length := by
              intro os
              induction os with
              | nil => intro ms; simp [masks]
              | cons o os ih => intro ms; rw [masks, ih]; simp; omega
            unfold fm at q1
            rw [List.getD_eq_getElem?_getD, List.getElem?_eq_none (by rw [hlm]; simp; omega)] at q1
            simp at q1
        obtain ⟨o2, d2, ty2, ti, j1, j2, j3, j4⟩ := regOK_at _ _ _ _ _ (hreg u huo) i ((hfs u i).2 hfi)
        rw [ho] at j1; injection j1 with j1; subst j1
        rw [k3] at j3; injection j3 with j3; subst j3
        have hr0 : RelA w μ σ N av [] := ⟨hd.size, hd.defers, fun s t h => by simp [get] at h⟩
        have hg0 : guardOf ⟨os⟩ ([] : Env) o = some true := by unfold guardOf; rw [k4]
        rw [wanted_of hr0 hg0, if_pos rfl]
        refine .inl ?_
        obtain ⟨c, el, r1, r2, r3, r4, r5, r6⟩ := float_step (P := P) (av := av) hG k3 k2 j4 hd.inv
        unfold Oper.wp
        rw [r1]
        have hfitd : d < N := by have := hfit i o u ho hfi; rw [k2] at this; simpa [fitsD, Nat.blt_eq] using this
        have htm : ∀ s, s ≠ d → (av.put o.dst (.pointer (some ⟨w.heap.size, 0, none⟩))).tmps[s]? = av.tmps[s]? := by
          intro s hs; rw [k2]; simp [Act.put, Array.getElem?_setIfInBounds, Ne.symm hs]
        have htd : (av.put o.dst (.pointer (some ⟨w.heap.size, 0, none⟩))).tmps[d]? = some (.pointer (some ⟨w.heap.size, 0, none⟩)) := by
          rw [k2]; simp [Act.put, hd.size, hfitd]
        have e0 : Ev0 w μ σ (w.alloc (.cells c el)) μ { σ with off := fun b q => σ.off b q ∨ b = w.heap.size } :=
          ⟨fun _ _ h => h, fun _ _ h => h, fun b n ⟨c, e, f, h1, h2⟩ => ⟨c, e, f, by rw [heap_alloc_ne w _ (Array.getElem?_eq_some_iff.1 h1).1]; exact h1, h2⟩, r5⟩
        have hpbi : pb i = none := by
          cases h : pb i with
          | none => rfl
          | some b => obtain ⟨u', _, h2, _⟩ := hd.pbl i b h; rw [hilf] at h2; cases h2
        have hold : ∀ j b, pb j = some b → b < w.heap.size := by
          intro j b hj
          obtain ⟨u', h1, h2, h3⟩ := hd.pbl j b hj
          obtain ⟨oj, dj, tj, q1, q2, q3, _⟩ := hfl.op j u' h1
          obtain ⟨b', c', el', ti', p1, p2, p3, p4, _⟩ := hd.pend j u' oj dj tj h1 h2 h3 q1 q2 q3
          rw [hj] at p1; injection p1 with p1; subst p1
          exact (Array.getElem?_eq_some_iff.1 p4).1
        have hun : ∀ j u', fl j = some u' → u' ≠ i := by
          rintro j u' h rfl
          have := (hfl.reg j u' h).2.2.2
          rw [hfi] at this; cases this
        refine ih (l.erase i) _ p (fun k => cond (Nat.beq k i) (some w.heap.size) (pb k)) _ _ μ _ (hn.erase i) hlen' (by simpa using hsz) hmem' ?_ ⟨r4, by simp [Act.put, k2, hd.size], by simp [Act.put, k2, hd.defers], hd.cov.off _, hd.ple, fun k hk he => ?_, fun s t hno ht => ?_, fun j q s hj hq hqs hu => ?_, hclosed', fun b q => ?_, fun j b hj => ?_, fun a1 a2 b h1 h2 => ?_, fun j u' q d' ty' h1 h2 h3 h4 h5 h6 => ?_⟩
        · have hsz2 := size_alloc w (.cells c el)
          refine ⟨hev.below.trans ⟨rfl, rfl, rfl, by omega, fun k hk => by omega⟩, hev.loc, hev.tok, fun b n h => e0.shape _ _ (hev.shape b n h), fun b hb hl => ?_, fun b q hx => ?_⟩
          · obtain ⟨h1, h2⟩ := hev.live b hb hl
            refine ⟨h1, ?_⟩
            rw [heap_alloc_ne w _ (Nat.lt_of_lt_of_le hb hev.below.size)]; exact h2
          · obtain ⟨h1, h2⟩ := hev.imm b q hx
            obtain ⟨h3, h4⟩ := r5 b q h1
            exact ⟨h3, h4.trans h2⟩
        · have hki : i ≠ k := by rintro rfl; rw [hfl.noeff i u hfi] at he; cases he
          rw [hnl k hki]; exact hd.effp k hk he
        · have hds : s ≠ d := by rintro rfl; exact hno i o (by rw [hcond]; simp) ho k2
          rw [htm s hds]
          obtain ⟨v, hv, r⟩ := hd.base s t (fun j q hj hq => hno j q (by rw [hcond, hj]; cases Nat.beq i j <;> rfl) hq) ht
          exact ⟨v, hv, r.ev' e0⟩
        · by_cases e : i = j
          · subst e
            have := hu u hfi
            rw [hnl u (by rintro rfl; exact hun i _ hfi rfl), hunl u hfi] at this; cases this
          · rw [hnl j e] at hj
            have hsd : s ≠ d := by rintro rfl; exact hssa j q _ hq hqs e k2
            rw [htm s hsd]
            obtain ⟨v, hv, r⟩ := hd.done j q s hj hq hqs (fun u' hu' => by have := hu u' hu'; rwa [hnl u' (fun e' => hun j u' hu' e'.symm)] at this)
            exact ⟨v, hv, r.ev' e0⟩
        · show σ.off b q ∨ b = w.heap.size ↔ _
          rw [hd.offc b q]
          constructor
          · rintro ((h | ⟨j, h⟩) | rfl)
            · exact .inl h
            · exact .inr ⟨j, by rw [beqF (by rintro rfl; rw [hpbi] at h; cases h), cond_false]; exact h⟩
            · exact .inr ⟨i, by simp⟩
          · rintro (h | ⟨j, h⟩)
            · exact .inl (.inl h)
            · by_cases e : j = i
              · subst e; simp at h; exact .inr h.symm
              · rw [beqF e, cond_false] at h; exact .inl (.inr ⟨j, h⟩)
        · have hj : cond (Nat.beq j i) (some w.heap.size) (pb j) = some b := hj
          by_cases e : j = i
          · subst e
            exact ⟨u, hfi, by rw [hcond]; simp, by rw [hnl u (by rintro rfl; exact hun _ _ hfi rfl)]; exact hunl u hfi⟩
          · rw [beqF e, cond_false] at hj
            obtain ⟨u', h1, h2, h3⟩ := hd.pbl j b hj
            exact ⟨u', h1, by rw [hnl j (fun e' => e e'.symm)]; exact h2, by rw [hnl u' (fun e' => hun j u' h1 e'.symm)]; exact h3⟩
        · have h1 : cond (Nat.beq a1 i) (some w.heap.size) (pb a1) = some b := h1
          have h2 : cond (Nat.beq a2 i) (some w.heap.size) (pb a2) = some b := h2
          by_cases e1 : a1 = i <;> by_cases e2 : a2 = i
          · rw [e1, e2]
          · rw [e1, Nat.beq_refl, cond_true] at h1; injection h1 with h1
            rw [beqF e2, cond_false] at h2
            have := hold a2 b h2; omega
          · rw [e2, Nat.beq_refl, cond_true] at h2; injection h2 with h2
            rw [beqF e1, cond_false] at h1
            have := hold a1 b h1; omega
          · rw [beqF e1, cond_false] at h1; rw [beqF e2, cond_false] at h2
            exact hd.pbi a1 a2 b h1 h2
        · by_cases e : i = j
          · subst e
            rw [ho] at h4; injection h4 with h4; subst h4
            rw [k2] at h5; injection h5 with h5; subst h5
            rw [k3] at h6; injection h6 with h6; subst h6
            exact ⟨w.heap.size, c, el, ti, by simp, j4, htd, heap_alloc_at w _, hev.below.size, r6, r2, r3⟩
          · rw [hnl j e] at h2
            rw [hnl u' (fun e' => hun j u' h1 e'.symm)] at h3
            obtain ⟨b, c', el', ti', p1, p2, p3, p4, p5, p6, p7⟩ := hd.pend j u' q d' ty' h1 h2 h3 h4 h5 h6
            refine ⟨b, c', el', ti', by rw [beqF (fun e' => e e'.symm), cond_false]; exact p1, p2, ?_, by rw [heap_alloc_ne w _ (hold j b p1)]; exact p4, p5, p6, p7⟩
            rw [htm d' (by rintro rfl; exact hssa j q _ h4 h5 e k2)]; exact p3
      | none =>
        -- any other operation: notes are taken first
        have main : ∀ (p' : Nat) (er : Env) (h0 h1 : HS) (μ1 : Gh) (σ1 : St) (pb1 : Nat → Option Nat), p' ≤ os.length → (∀ k, k < os.length → ef k = true → ((listed.setIfInBounds i true).getD k false = true ↔ k < p')) → (∀ σ, HCov σ h1 → HCov σ (ch p')) →
            Inv w μ1 σ1 → HCov σ1 h0 → EvO w0 μ0 σ0 w μ1 σ1 → Ev0 w μ σ w μ1 σ1 → (∀ b q, σ1.off b q ↔ off0 b q ∨ ∃ j, pb1 j = some b) → (∀ j, fl j = some i → pb1 j = none) → (∀ j, fl j ≠ some i → pb1 j = pb j) → (∀ j b, pb1 j = some b → ¬ Live μ1 σ1 b) →
            (∀ j q s, fl j = some i → os[j]? = some q → q.dst = some s → ∃ v, av.tmps[s]? = some v ∧ Rel w μ1 σ1 v (rs j)) →
            RelA w μ1 σ1 N av er → OpOK P N ⟨os⟩ o er σ1 (rs i) h1 h0 →
            (if Region.wanted o (yielded ⟨os⟩ av.tmps) = true then o.wp P av w (wpAny P .any ⟨os⟩ Qc fuel (listed.setIfInBounds i true)) Qc ∨ (o.asks P av w ∧ LetsOut Qc) else wpAny P .any ⟨os⟩ Qc fuel (listed.setIfInBounds i true) (av.put o.dst undef) w) := by
          intro p' er h0 h1 μ1 σ1 pb1 hp' heffp' hcc i1 c1 ev1 e01 ho1 hq1 hq2 hq3 hq4 hrel hop
          have hnew : ∀ (av' : Act) (w' : World) (μ' : Gh) (σ' : St), HCov σ' (ch p') → Ev w μ1 σ1 w' μ' σ' → Inv w' μ' σ' → av'.tmps.size = N → av'.defers = [] → (∀ s, o.dst ≠ some s → av'.tmps[s]? = av.tmps[s]?) → (∀ s, o.dst = some s → ∃ v, av'.tmps[s]? = some v ∧ Rel w' μ' σ' v (rs i)) →
              wpAny P .any ⟨os⟩ Qc fuel (listed.setIfInBounds i true) av' w' := by
            intro av' w' μ' σ' hcov' hev' hi' hsz' hdf' hfr hdst
            refine ih (l.erase i) _ p' pb1 av' w' μ' σ' (hn.erase i) hlen' (by simpa using hsz) hmem' (ev1.trans hev') ⟨hi', hsz', hdf', hcov', hp', heffp', fun s t hno ht => ?_, fun j q s hj hq hqs hu => ?_, hclosed', fun b q => by rw [hev'.off]; exact ho1 b q, fun j b hj => ?_, fun a1 a2 b g1 g2 => ?_, fun j u' q d' ty' g1 g2 g3 g4 g5 g6 => ?_⟩
            · have hds : o.dst ≠ some s := hno i o (by rw [hcond]; simp) ho
              rw [hfr s hds]
              obtain ⟨v, hv, r⟩ := hd.base s t (fun j q hj hq => hno j q (by rw [hcond, hj]; cases Nat.beq i j <;> rfl) hq) ht
              exact ⟨v, hv, (r.ev' e01).ev hev'⟩
            · by_cases e : i = j
              · subst e
                rw [ho] at hq; injection hq with hq; subst hq
                exact hdst s hqs
              · rw [hnl j e] at hj
                rw [hfr s (hssa j q s hq hqs e)]
                by_cases hji : fl j = some i
                · obtain ⟨v, hv, r⟩ := hq4 j q s hji hq hqs
                  exact ⟨v, hv, r.ev hev'⟩
                · obtain ⟨v, hv, r⟩ := hd.done j q s hj hq hqs (fun u' hu' => by
                    have := hu u' hu'
                    rwa [hnl u' (by rintro rfl; exact hji hu')] at this)
                  exact ⟨v, hv, (r.ev' e01).ev hev'⟩
            · have hji : fl j ≠ some i := fun h => by rw [hq1 j h] at hj; cases hj
              rw [hq2 j hji] at hj
              obtain ⟨u', g1, g2, g3⟩ := hd.pbl j b hj
              have hji2 : i ≠ j := by rintro rfl; rw [hfi] at g1; cases g1
              exact ⟨u', g1, by rw [hnl j hji2]; exact g2, by rw [hnl u' (by rintro rfl; exact hji g1)]; exact g3⟩
            · have h3 : fl a1 ≠ some i := fun h => by rw [hq1 a1 h] at g1; cases g1
              have h4 : fl a2 ≠ some i := fun h => by rw [hq1 a2 h] at g2; cases g2
              rw [hq2 a1 h3] at g1; rw [hq2 a2 h4] at g2
              exact hd.pbi a1 a2 b g1 g2
            · have hji2 : i ≠ j := by rintro rfl; rw [hfi] at g1; cases g1
              have hui : u' ≠ i := by rintro rfl; rw [hcond] at g3; simp at g3
              have hji : fl j ≠ some i := by rw [g1]; intro h; injection h with h; exact hui h
              rw [hnl j hji2] at g2
              rw [hnl u' (fun e => hui e.symm)] at g3
              obtain ⟨b, c', el', ti', p1, p2, p3, p4, p5, p6, p7⟩ := hd.pend j u' q d' ty' g1 g2 g3 g4 g5 g6
              have hpb1 : pb1 j = some b := by rw [hq2 j hji]; exact p1
              obtain ⟨l1, l2⟩ := hev'.live b (Array.getElem?_eq_some_iff.1 p4).1 (hq3 j b hpb1)
              exact ⟨b, c', el', ti', hpb1, p2, by rw [hfr d' (hssa j q d' g4 g5 hji2)]; exact p3, by rw [l2]; exact p4, p5, l1, p7⟩
          rcases hop with ⟨hg, hA⟩ | ⟨hg, ht, hh, hfit'⟩
          · rw [wanted_of hrel hg, if_pos rfl]
            refine .inl ?_
            have := hA (fun a' σ' => a' = put er o.dst (rs i) ∧ HCov σ' (ch p')) (fun σ' h => ⟨rfl, hcc σ' h⟩) av w μ1 i1 hrel
              (fun av' w' => ∃ μ' σ', Ev w μ1 σ1 w' μ' σ' ∧ Inv w' μ' σ' ∧ HCov σ' (ch p') ∧ RelA w' μ' σ' N av' (put er o.dst (rs i))) Qc
              (by rintro av' w' μ' a' σ' h1 h2 h3 ⟨rfl, h4⟩; exact ⟨μ', σ', h1, h2, h4, h3⟩)
            refine Oper.wp_mono ?_ (upon_frame this)
            rintro av' w' ⟨⟨μ', σ', h1, h2, h3, h4⟩, h5⟩
            exact hnew av' w' μ' σ' h3 h1 h2 h4.size h4.defers h5 (fun s hs => h4.tmp s _ (by rw [hs]; simp [put, get]))
          · rw [wanted_of hrel hg, if_neg (by simp)]
            have hp := hrel.put hfit' (v := undef) (t := .tup []) (.tup [] #[] rfl fun j c v h1 h2 => by simp at h1)
            refine hnew _ w μ1 σ1 (hcc σ1 (by rw [hh]; exact c1)) (.refl _ _ _) i1 hp.size hp.defers (fun s hs => ?_) (fun s hs => ?_)
            · cases hd' : o.dst with
              | none => simp [Act.put]
              | some d =>
                have : d ≠ s := fun e => hs (by rw [hd', e])
                simp [Act.put, Array.getElem?_setIfInBounds, this]
            · rw [ht]; exact hp.tmp s _ (by rw [hs]; simp [put, get])
        have hpbl : ∀ j b, pb j = some b → ¬ Live μ σ b := by
          intro j b hj
          obtain ⟨u', g1, g2, g3⟩ := hd.pbl j b hj
          obtain ⟨oj, dj, tj, q1, q2, q3, _⟩ := hfl.op j u' g1
          obtain ⟨b', c', el', ti', p1, p2, p3, p4, p5, p6, _⟩ := hd.pend j u' oj dj tj g1 g2 g3 q1 q2 q3
          rw [hj] at p1; injection p1 with p1; subst p1; exact p6
        cases hie : ef i with
        | true =>
          have hpi : p ≤ i := by
            rcases Nat.lt_or_ge i p with h | h
            · have := (hd.effp i hin hie).2 h; rw [hilf] at this; cases this
            · exact h
          have hbelow : ∀ k, ef k = true → k < i → listed.getD k false = true := by
            intro k hk hki
            obtain ⟨q, hq⟩ : ∃ q, os[k]? = some q := ⟨_, List.getElem?_eq_getElem (by omega)⟩
            have := hpair k q hq
            simp only [pairX, hie, hk, Bool.and_true, show Nat.blt k i = true from (by rw [Nat.blt_eq]; exact hki), cond_true, Bool.and_eq_true] at this
            exact hpre k this.1
          have hsame : ch i = ch p := chstab hch i hpi (by omega) (fun k h1 h2 => by
            cases hb : ef k with
            | false => rfl
            | true => have := (hd.effp k (by omega) hb).1 (hbelow k hb h2); omega)
          have hcov : HCov σ (ch i) := by rw [hsame]; exact hd.cov
          have hpend : ∀ j, j ∈ fs i → ∃ o' ty ti b c el d, os[j]? = some o' ∧ o'.op = .alloc ty ∧ G ty = some ti ∧ pb j = some b ∧ w.heap[b]? = some (.cells c el (0, 0)) ∧ w0.heap.size ≤ b ∧ ti.tree.cells.length ≤ c.size ∧ (∀ (w : World) (μ : Gh) (σ : St), CellsIn w μ σ ti.tree.cells c 0) ∧ o'.dst = some d ∧ av.tmps[d]? = some (.pointer (some ⟨b, 0, none⟩)) := by
            intro j hj
            have hji := (hfs i j).1 hj
            obtain ⟨oj, dj, tj, q1, q2, q3, _⟩ := hfl.op j i hji
            obtain ⟨b, c', el', ti', p1, p2, p3, p4, p5, p6, p7, p8⟩ := hd.pend j i oj dj tj hji (hpre j (hfl.reg j i hji).1) hilf q1 q2 q3
            exact ⟨oj, tj, ti', b, c', el', dj, q1, q3, p2, p1, p4, p5, p7, p8, q2, p3⟩
          obtain ⟨μ1, σ1, pb1, m1, m2, m3, m4, m5, m6, m7, m8, m9⟩ := reg_all hoff0 (fs i) _ _ _ _ (hreg i hin) (hnd i) μ σ pb hd.inv hcov hev hd.offc hd.pbi hpbl
            (fun j hj => by obtain ⟨o', ty, ti, b, c, el, d, q1, q2, q3, q4, q5, q6, q7, q8, _⟩ := hpend j hj; exact ⟨o', ty, ti, b, c, el, q1, q2, q3, q4, q5, q6, q7, q8⟩)
          have hfloat : ∀ j q s, fl j = some i → os[j]? = some q → q.dst = some s → ∃ v, av.tmps[s]? = some v ∧ Rel w μ1 σ1 v (rs j) := by
            intro j q s hj hq hqs
            obtain ⟨o', ty, ti, b, c, el, d, q1, q2, q3, q4, q5, q6, q7, q8, q9, q10⟩ := hpend j ((hfs i j).2 hj)
            rw [hq] at q1; injection q1 with q1; subst q1
            rw [hqs] at q9; injection q9 with q9; subst q9
            exact ⟨_, q10, m9 j b ((hfs i j).2 hj) q4⟩
          have hrel : RelA w μ1 σ1 N av (restrL (cp i) (looks ⟨os⟩ o)) := by
            refine ⟨hd.size, hd.defers, fun s t hu => ?_⟩
            obtain ⟨n1, n2⟩ := get_restrL hu
            rcases reg_get _ _ _ _ _ (hreg i hin) s t n2 with ⟨j, q, g1, g2, g3, g4⟩ | ⟨g1, g2⟩
            · subst g4; exact hfloat j q s ((hfs i j).1 g1) g2 g3
            · rcases hcg i s t (by omega) g2 with ⟨j, q, h1, h2, h3, h4, h5⟩ | ⟨h1, h2⟩
              · have := hpair j q h2
                simp only [pairX, h3, memB_of n1, Bool.not_true, Bool.false_or, Bool.and_eq_true, show Nat.blt j i = true from (by rw [Nat.blt_eq]; exact h1), cond_true] at this
                subst h4
                obtain ⟨v, hv, r⟩ := hd.done j q s (hpre j this.2.2) h2 h3 (fun r hr => by
                  rcases hfl.user j r q s i o hr h2 h3 ho n1 with e | e
                  · have := h5 r hr; omega
                  · exact hpre r e)
                exact ⟨v, hv, r.ev' m4⟩
              · obtain ⟨v, hv, r⟩ := hd.base s t (fun j q hj hq hqs => by
                  rcases Nat.lt_trichotomy j i with h | h | h
                  · exact h1 j q h hq hqs
                  · subst h; rw [hilf] at hj; cases hj
                  · have := hpair j q hq
                    have hb : Nat.blt j i = false := by cases hb : Nat.blt j i with | false => rfl | true => rw [Nat.blt_eq] at hb; omega
                    simp only [pairX, hqs, memB_of n1, Bool.not_true, Bool.false_or, Bool.and_eq_true, hb, cond_false, show Nat.blt i j = true from (by rw [Nat.blt_eq]; exact h), cond_true] at this
                    exact hpost j q hq hj this.2.2) h2
                exact ⟨v, hv, r.ev' m4⟩
          refine main (i + 1) _ (cq i) (ch (i + 1)) μ1 σ1 pb1 (by omega) (fun k hk he => ?_) (fun _ h => h) m1 m2 m3 m4 m5 (fun j hj => m6 j ((hfs i j).2 hj)) (fun j hj => m7 j (fun h => hj ((hfs i j).1 h))) m8 hfloat hrel (heff i o ho hie σ1 m2)
          rw [hcond]
          by_cases e : i = k
          · subst e; simp
          · rw [beqF e, cond_false, hd.effp k hk he]
            constructor
            · intro h; omega
            · intro h; exact (hd.effp k hk he).1 (hbelow k he (by omega))
        | false =>
          have hfsi : fs i = [] := by
            apply List.eq_nil_iff_forall_not_mem.2
            intro j hj
            have := (hfl.reg j i ((hfs i j).1 hj)).2.2.1
            rw [hie] at this; cases this
          have hnofl : ∀ j, fl j ≠ some i := fun j h => by have := (hfs i j).2 h; rw [hfsi] at this; simp at this
          have hcomp : Compat ef os i p := ⟨hd.ple, fun k hk he => ⟨fun h => (hd.effp k hk he).1 (hpre k h), fun h => by
            rcases Nat.lt_or_ge k p with h1 | h1
            · exfalso
              have hkl := (hd.effp k hk he).2 h1
              obtain ⟨q, hq⟩ : ∃ q, os[k]? = some q := ⟨_, List.getElem?_eq_getElem hk⟩
              exact hpost k q hq hkl h
            · exact h1⟩⟩
          have hrel : RelA w μ σ N av (restrL (ce i) (looks ⟨os⟩ o)) := by
            refine ⟨hd.size, hd.defers, fun s t hu => ?_⟩
            obtain ⟨n1, n2⟩ := get_restrL hu
            rcases hcg i s t (by omega) n2 with ⟨j, q, h1, h2, h3, h4, h5⟩ | ⟨h1, h2⟩
            · have := hpair j q h2
              simp only [pairX, h3, memB_of n1, Bool.not_true, Bool.false_or, Bool.and_eq_true, show Nat.blt j i = true from (by rw [Nat.blt_eq]; exact h1), cond_true] at this
              subst h4
              exact hd.done j q s (hpre j this.2.2) h2 h3 (fun r hr => by
                rcases hfl.user j r q s i o hr h2 h3 ho n1 with e | e
                · have := h5 r hr; omega
                · exact hpre r e)
            · refine hd.base s t (fun j q hj hq hqs => ?_) h2
              rcases Nat.lt_trichotomy j i with h | h | h
              · exact h1 j q h hq hqs
              · subst h; rw [hilf] at hj; cases hj
              · have := hpair j q hq
                have hb : Nat.blt j i = false := by cases hb : Nat.blt j i with | false => rfl | true => rw [Nat.blt_eq] at hb; omega
                simp only [pairX, hqs, memB_of n1, Bool.not_true, Bool.false_or, Bool.and_eq_true, hb, cond_false, show Nat.blt i j = true from (by rw [Nat.blt_eq]; exact h), cond_true] at this
                exact hpost j q hq hj this.2.2
          refine main p _ (ch p) (ch p) μ σ pb hd.ple (fun k hk he => ?_) (fun _ h => h) hd.inv hd.cov hev ⟨fun _ _ h => h, fun _ _ h => h, fun _ _ h => h, fun _ _ h => ⟨h, rfl⟩⟩ hd.offc (fun j hj => absurd hj (hnofl j)) (fun j _ => rfl) hpbl (fun j q s hj => absurd hj (hnofl j)) hrel (hqui i o p ho hie hfi hcomp σ hd.cov)
          have hki : i ≠ k := by rintro rfl; rw [hie] at he; cases he
          rw [hnl k hki]; exact hd.effp k hk he
end
end Go.Ts
