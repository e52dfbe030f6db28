/- Trees, continued: variables in memory, told without the state's text: what a block holds, and that all of them may be let go. -/
import Derived.Test.YtjcfhhepnjmchaaTrK
namespace Go.Tr
set_option linter.unusedSimpArgs false
set_option linter.unusedVariables false
section
variable {P : Program} {G : Nat → Option TI} {N : Nat} {σ σ0 σ1 σ2 : St} {a : Env} {Q : Exit → Env → St → Prop}

/-- The second state knows less of what may be written: nothing else is new. -/
structure Drop (σ σ0 : St) : Prop where
  base : σ.base = σ0.base
  spare : ∀ x, σ.spare x = σ0.spare x
  objs : ∀ x, σ.objs x = σ0.objs x ∨ σ0.objs x = none
theorem Drop.refl (σ : St) : Drop σ σ := ⟨rfl, fun _ => rfl, fun _ => .inl rfl⟩
theorem Drop.trans (h : Drop σ2 σ1) (k : Drop σ1 σ0) : Drop σ2 σ0 := ⟨h.base.trans k.base, fun x => (h.spare x).trans (k.spare x), fun x => by
  rcases k.objs x with h1 | h1
  · rw [← h1]; exact (h.objs x).imp (fun h2 => h2) (fun h2 => h2)
  · exact .inr h1⟩
theorem Drop.gone (h : Drop σ σ0) {b : Nat} (hb : σ.objs b = none) : σ0.objs b = none := by
  rcases h.objs b with h1 | h1
  · rw [← h1, hb]
  · exact h1
theorem Drop.step (h : Drop σ σ0) {b : Nat} {o : Option Ob} (hb : σ0.objs b = none) : Drop (σ.setO b o) σ0 :=
  ⟨h.base, h.spare, fun x => by
    by_cases e : x = b
    · subst e; exact .inr hb
    · rw [objs_setO_ne _ e]; exact h.objs x⟩
theorem drop_step (h : Drop σ σ0) : GStep σ σ0 := by
  intro w hi
  have hO : ∀ {b : Nat} {o : Ob}, σ0.objs b = some o → σ.objs b = some o := by
    intro b o hb
    rcases h.objs b with h1 | h1
    · rw [h1]; exact hb
    · rw [h1] at hb; cases hb
  have ev : Ev w σ w σ0 := ⟨h.base.symm, .refl _ _, fun b o hb => ⟨⟨hb.1, h.gone hb.2.1, fun f t hft => hb.2.2 f t (by rw [h.spare]; exact hft)⟩, rfl⟩⟩
  refine ⟨⟨by rw [← h.base]; exact hi.base, fun b ts hb => ?_, fun b f t hb => ?_, fun b es hb => ?_⟩, ev⟩
  · obtain ⟨h1, c, e, h2, h3, h4⟩ := hi.obj b ts (hO hb)
    exact ⟨by rw [← h.base]; exact h1, c, e, h2, h3, fun j t v h5 h6 => (h4 j t v h5 h6).ev ev⟩
  · obtain ⟨h1, h2, c, e, h3, h4, h5⟩ := hi.room b f t (by rw [h.spare]; exact hb)
    exact ⟨by rw [← h.base]; exact h1, h2, c, e, h3, h4, fun ts hts => h5 ts (hO hts)⟩
  · obtain ⟨h1, en, clock, h2, h3, h4⟩ := hi.map b es (hO hb)
    exact ⟨by rw [← h.base]; exact h1, en, clock, h2, h3, fun j k u e h5 h6 => let ⟨h7, h8⟩ := h4 j k u e h5 h6; ⟨h7.ev ev, h8.ev ev⟩⟩
theorem aw_drop {c : Code} (h : Drop σ σ0) (k : AW P N c Q a σ0) : AW P N c Q a σ := aw_ghost (drop_step h) k
theorem ACalls.dropped {f : FuncId} {ts : List T} {t : T} {R : T → St → Prop} (h : ACalls P f ts σ (fun r σ' => r = t ∧ Drop σ' σ)) (k : R t σ) : ACalls P f ts σ R := by
  refine ⟨h.1, fun vs w hi hs hr => (h.2 vs w hi hs hr).mono ?_⟩
  rintro e w' ⟨v, t', σ', rfl, ev, hi', r, rfl, hd⟩
  obtain ⟨h1, h2⟩ := drop_step hd w' hi'
  exact ⟨v, t', σ, rfl, ev.trans h2, h1, r.ev h2, k⟩

theorem op_box' (hG : Fits P G) {K : Env → St → Prop} {o : Oper} {e : TypeId} {x : Operand} {t : T}
    (hop : o.op = .box e x) (hx : evalO a x = some t) (hraw : notRaw t = true) {d : Option Tmp} (hdd : o.dst = d) (hd : fitsD N d = true)
    (k : ∀ b σ1, σ.objs b = none → σ1.objs b = some (.cells t.cells) → (∀ x o, σ.objs x = some o → σ1.objs x = some o) → Drop σ1 σ → K (put a d (.ptr b 0)) σ1) : AOp P N o a σ K :=
  op_box hG hop hx hraw hdd hd fun b hb _ => k b _ hb (objs_setO_same _ _) (fun x o hx => by rw [objs_setO_ne _ (by intro e; subst e; rw [hb] at hx; cases hx)]; exact hx) ((Drop.refl σ).step hb)
theorem op_alloc' (hG : Fits P G) {K : Env → St → Prop} {o : Oper} {e : TypeId} {ti : TI}
    (hop : o.op = .alloc e) (he : G e = some ti) {d : Option Tmp} (hdd : o.dst = d) (hd : fitsD N d = true)
    (k : ∀ b σ1, σ.objs b = none → σ1.objs b = some (.cells ti.tree.cells) → (∀ x o, σ.objs x = some o → σ1.objs x = some o) → Drop σ1 σ → K (put a d (.ptr b 0)) σ1) : AOp P N o a σ K :=
  op_alloc hG hop he hdd hd fun b hb _ => k b _ hb (objs_setO_same _ _) (fun x o hx => by rw [objs_setO_ne _ (by intro e; subst e; rw [hb] at hx; cases hx)]; exact hx) ((Drop.refl σ).step hb)
theorem op_store' (hG : Fits P G) {K : Env → St → Prop} {o : Oper} {ty : TypeId} {x y : Operand} {b p : Nat} {t : T} {ts : List T} {ti : TI}
    (hop : o.op = .store ty x y) (hx : evalO a x = some (.ptr b p)) (hy : evalO a y = some t)
    (hob : σ.objs b = some (.cells ts)) (hsc : (notRaw t && t.cells.all T.scalar) = true) (hty : G ty = some ti) (hsz : Nat.beq t.cells.length ti.size = true) (hle : Nat.ble (p + t.cells.length) ts.length = true) (hdd : o.dst = none)
    (k : ∀ σ1, σ1.objs b = some (.cells (stored ts t.cells p)) → (∀ x, x ≠ b → σ1.objs x = σ.objs x) → (∀ σ0, σ0.objs b = none → Drop σ σ0 → Drop σ1 σ0) → K a σ1) : AOp P N o a σ K :=
  op_store hG hop hx hy hob hsc hty hsz hle hdd (k _ (objs_setO_same _ _) (fun x hx => objs_setO_ne _ hx) (fun σ0 h1 h2 => h2.step h1))
theorem op_load (hG : Fits P G) {K : Env → St → Prop} {o : Oper} {ty : TypeId} {x : Operand} {b p : Nat} {t : T} {ts : List T}
    (hop : o.op = .load ty x) (hx : evalO a x = some (.ptr b p)) (hob : σ.objs b = some (.cells ts)) (hr : readT G ty ts p = some t) {d : Option Tmp} (hdd : o.dst = d) (hd : fitsD N d = true) (k : K (put a d t) σ) : AOp P N o a σ K := by
  refine op_q hG ?_ hdd hd k
  simp only [hop, evalOp, hx, hob, hr]

theorem resTs_nil : resTs G a σ [] = some [] := rfl
theorem resTs_tmp {t : Tmp} {x : T} {rs : List ResultVar} {xs : List T} (h : get a t = some x) (k : resTs G a σ rs = some xs) : resTs G a σ (.tmp t :: rs) = some (x :: xs) := by
  simp only [resTs, resT1, h, k]
theorem resTs_cell {t : Tmp} {ty : TypeId} {b o : Nat} {ts : List T} {x : T} {rs : List ResultVar} {xs : List T} (h : get a t = some (.ptr b o)) (ho : σ.objs b = some (.cells ts)) (hr : readT G ty ts o = some x) (k : resTs G a σ rs = some xs) :
    resTs G a σ (.cell t ty :: rs) = some (x :: xs) := by
  simp only [resTs, resT1, h, ho, hr, k]
theorem resT_one {rs : List ResultVar} {x : T} (h : resTs G a σ rs = some [x]) : resT G a σ rs = some x := by simp only [resT, h]
theorem resT_two {rs : List ResultVar} {x y : T} {xs : List T} (h : resTs G a σ rs = some (x :: y :: xs)) : resT G a σ rs = some (.tup (x :: y :: xs)) := by simp only [resT, h]
end
end Go.Tr
