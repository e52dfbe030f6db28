/- A machine over trees: a slice of bytes turned to its own type (behind a constant string): its row is frozen, and is data from then on. -/
import Derived.Test.YtholeicgmkjadaaTsXC
import Derived.Test.YtholeicgmkjadaaTsI
set_option linter.unusedVariables false
set_option linter.unusedSimpArgs false
namespace Go.Ts
section
variable {P : Program} {G : Nat → Option TI} {w : World} {μ : Gh} {σ : St} {N : Nat} {a : Env} {h : HS}
theorem frz_at {b k : Nat} {c : Array Value} {e : TypeId} (hb : w.heap[b]? = some (.cells c e (0, 0))) : (w.freeze ⟨b, k, none⟩ 1).heap[b]? = some (.cells c e (k, k + 1)) := by
  unfold World.freeze
  rw [if_neg (by decide)]
  simp [Array.getElem?_modify, hb]
theorem frz_ne {b b' k : Nat} (hne : b' ≠ b) : (w.freeze ⟨b, k, none⟩ 1).heap[b']? = w.heap[b']? := by
  unfold World.freeze
  rw [if_neg (by decide)]
  simp only [Array.getElem?_modify]
  rw [if_neg (fun h => hne h.symm)]
theorem frz_size {b k : Nat} : (w.freeze ⟨b, k, none⟩ 1).heap.size = w.heap.size := by
  unfold World.freeze
  rw [if_neg (by decide)]
  simp
theorem frz_cell {b k : Nat} {c : Array Value} {e : TypeId} (hb : w.heap[b]? = some (.cells c e (0, 0))) (x : Addr) : (w.freeze ⟨b, k, none⟩ 1).cell? x = w.cell? x := by
  unfold World.cell?
  by_cases hx : x.block = b
  · rw [hx, frz_at hb, hb]
  · rw [frz_ne hx]
theorem frz_bound {b k : Nat} {c : Array Value} {e : TypeId} (hb : w.heap[b]? = some (.cells c e (0, 0))) (x n : Nat) (h : Bound w x n) : Bound (w.freeze ⟨b, k, none⟩ 1) x n := by
  obtain ⟨c2, e2, f2, h1, h2⟩ := h
  by_cases hx : x = b
  · subst hx
    rw [hb] at h1; injection h1 with h1; injection h1 with q1 q2 q3; subst q1
    exact ⟨c, e, _, frz_at hb, h2⟩
  · exact ⟨c2, e2, f2, by rw [frz_ne hx]; exact h1, h2⟩
theorem frz_ev0 {b k : Nat} {c : Array Value} {e : TypeId} (hb : w.heap[b]? = some (.cells c e (0, 0))) : Ev0 w μ σ (w.freeze ⟨b, k, none⟩ 1) μ σ :=
  ⟨fun _ _ h => h, fun _ _ h => h, fun x n h => frz_bound hb x n h, fun x o hx => ⟨⟨by rw [frz_size]; exact hx.lt, hx.off, hx.obj, hx.room⟩, frz_cell hb _⟩⟩
theorem frz_inv (hi : Inv w μ σ) {b k : Nat} {c : Array Value} {e : TypeId} (hb : w.heap[b]? = some (.cells c e (0, 0))) (hno : ∀ i ob p, (i, ob) ∈ σ.L → μ.loc i ≠ some (b, p)) (hnr : ∀ l f t, l ∈ σ.R → μ.tok l = some (b, f, t) → ¬ f < t) :
    Inv (w.freeze ⟨b, k, none⟩ 1) μ σ := by
  refine ⟨fun i ts hx => ?_, fun i es hx => ?_, hi.inj, fun l hl => ?_, hi.rinj, hi.fin, fun x o h => by rw [frz_size]; exact hi.offlt x o h, hi.offobj⟩
  · obtain ⟨x, p, c2, e2, h1, h2, h3, h4⟩ := hi.obj i ts hx
    have hne : x ≠ b := fun h => hno i _ p hx (by rw [h1, h])
    exact ⟨x, p, c2, e2, h1, by rw [frz_ne hne]; exact h2, h3, fun j t v q1 q2 => (h4 j t v q1 q2).ev' (frz_ev0 hb)⟩
  · obtain ⟨x, c2, e2, h1, h2, h3, h4⟩ := hi.map i es hx
    have hne : x ≠ b := fun h => hno i _ 0 hx (by rw [h1, h])
    exact ⟨x, c2, e2, h1, by rw [frz_ne hne]; exact h2, h3, fun j k u e' q1 q2 => ⟨(h4 j k u e' q1 q2).1.ev' (frz_ev0 hb), (h4 j k u e' q1 q2).2.ev' (frz_ev0 hb)⟩⟩
  · obtain ⟨x, f, t, h1, h2, h3⟩ := hi.room l hl
    refine ⟨x, f, t, h1, h2, fun hlt => ?_⟩
    obtain ⟨⟨c2, e2, h4, h5⟩, h6⟩ := h3 hlt
    have hne : x ≠ b := fun h => hnr l f t hl (by rw [h1, h]) hlt
    exact ⟨⟨c2, e2, by rw [frz_ne hne]; exact h4, h5⟩, h6⟩
theorem aop_convI (hG : Fits P G) {o : Oper} {t el : TypeId} {x : Operand} {ti te : TI} {n i p m : Nat} {cap : Option Nat} {ts : List T} {K : Env → St → Prop} (ho : o.op = .convert t t x) (hx : evalO a x = some (.aref 1 i p m cap))
    (ht : G t = some ti) (htd : ti.d = .slice el) (he : G el = some te) (hed : te.d = .int .u8) (hob : σ.L[n]? = some (i, .cells ts)) (hle : p + m * 1 ≤ ts.length) (hsc : ((ts.drop p).take (m * 1)).all T.scalar = true) (hd : fitsD N o.dst = true)
    (k : K (put a o.dst (.sl 1 .no (chunks 1 m ((ts.drop p).take (m * 1))))) (σ.era n)) : AOp P N o a σ K := by
  intro av w μ hi hr next Qc hn
  have rx := evalO_rel hr hx
  have rf := freeze_value hi hob rx hle hsc
  obtain ⟨d1, e1, f1⟩ := g_under (w := w) hG ht
  obtain ⟨d2, e2, f2⟩ := g_under (w := w) hG he
  rw [htd] at f1; rw [hed] at f2
  obtain rfl := td_slice f1
  obtain rfl := td_int f2
  obtain ⟨b, q, c, e, hl, hc, hlen, hrel⟩ := hi.obj i ts (List.mem_of_getElem? hob)
  have hshape : w.shape? b = some (e, c.size) := by unfold World.shape?; rw [hc]
  generalize hv : av.eval x = vx at rx rf
  have hrun : (execOp av.eval o).run P w = .ok (.value vx) (w.freeze ⟨b, c.size, none⟩ 1) := by
    cases rx with
    | aref i b' q' p n' c' sz cap hl' hc' hcap hb =>
    rw [hl] at hl'; injection hl' with hl'; injection hl' with q1 q2; subst q1; subst q2
    simp [execOp, ho, hv, convert, e1, e2, markStringish, hshape]
  obtain ⟨i1, ev1⟩ := erase_step n w μ hi
  have hno : ∀ j ob p', (j, ob) ∈ (σ.era n).L → μ.loc j ≠ some (b, p') := (erase_imm hi hob hl 0).obj
  have hnr : ∀ l f t, l ∈ (σ.era n).R → μ.tok l = some (b, f, t) → ¬ f < t := fun l f t h1 h2 h3 => by
    have := (erase_imm hi hob hl f).room l f t h1 h2; omega
  have inv : Inv (w.freeze ⟨b, c.size, none⟩ 1) μ (σ.era n) := frz_inv i1 hc hno hnr
  have ev : Ev w μ σ (w.freeze ⟨b, c.size, none⟩ 1) μ (σ.era n) := by
    refine ⟨?_, ev1.loc, ev1.tok, rfl, fun x m h => frz_bound hc x m h, fun x hx hlv => ⟨(ev1.live x hx hlv).1, ?_⟩, fun x q' hx => ⟨?_, frz_cell hc _⟩⟩
    · exact ⟨by unfold World.freeze; rw [if_neg (by decide)], by unfold World.freeze; rw [if_neg (by decide)], by unfold World.freeze; rw [if_neg (by decide)], by rw [frz_size]; exact Nat.le_refl _, fun k hk => by omega⟩
    · refine frz_ne (fun hxb => hlv (.inl ⟨i, _, q, List.mem_of_getElem? hob, by rw [hl, hxb]⟩))
    · have := (ev1.imm x q' hx).1
      exact ⟨by rw [frz_size]; exact this.lt, this.off, this.obj, this.room⟩
  unfold Oper.wp
  rw [hrun]
  exact hn _ _ _ _ _ ev inv ((hr.ev ev).put hd (rf.ev' (frz_ev0 hc))) k
theorem HCov.era (c : HCov σ h) {q i : Nat} {o : Ob} (hq : σ.L[q]? = some (i, o)) : HCov (σ.era q) { h with L := h.L.del i } := by
  refine ⟨fun j n zn z ov hj => ?_, fun j es hj => ?_, fun k u hk => c.room k u hk, c.nx⟩
  · obtain ⟨h1, h2⟩ := Tr.get_del hj
    obtain ⟨ts, h3, h4⟩ := c.th j n zn z ov h2
    exact ⟨ts, mem_era_ne hq h3 h1, h4⟩
  · obtain ⟨h1, h2⟩ := Tr.get_del hj
    exact mem_era_ne hq (c.mp j es h2) h1
end
end Go.Ts
