/- Trees, continued: new arrays that may be written (make; append of zeros), and how they are handed over. -/
import Derived.Test.YtholeicgmkjadaaTsW
set_option linter.unusedVariables false
set_option linter.unusedSimpArgs false
namespace Go.Ts
section
variable {P : Program} {G : Nat → Option TI} {w w1 : World} {μ : Gh} {σ σ1 : St} {N : Nat} {a : Env} {Q : Exit → Env → St → Prop}

def zerosT (ti : TI) (n : Nat) : List T := (List.replicate n ti.tree).flatMap T.cells

theorem replicate_flat {α : Type} (l : List α) (s n k : Nat) (hs : l.length = s) : ((List.replicate n l).flatMap id)[k]? = if k < n * s then l[k % s]? else none := by
  induction n generalizing k with
  | zero => simp
  | succ n ih =>
    rw [List.replicate_succ, List.flatMap_cons]
    simp only [id]
    have hm : (n + 1) * s = n * s + s := by rw [Nat.add_mul]; omega
    rcases Nat.lt_or_ge k s with h | h
    · rw [List.getElem?_append_left (by omega), if_pos (by omega), Nat.mod_eq_of_lt h]
    · rw [List.getElem?_append_right (by omega), ih, hs, hm]
      have : k % s = (k - s) % s := Nat.mod_eq_sub_mod h
      rw [this]
      by_cases h2 : k < n * s + s
      · rw [if_pos h2, if_pos (by omega)]
      · rw [if_neg h2, if_neg (by omega)]

theorem zeros_rel (hG : Fits P G) {e : Nat} {ti : TI} (he : G e = some ti) (hs0 : 0 < ti.size) (n : Nat) : ∃ z, (∀ w, (zeroValue e).run P w = .ok z w) ∧ z.cells.size = ti.size ∧ (zerosT ti n).length = n * ti.size ∧
    ∀ (w : World) (μ : Gh) (σ : St) (j : Nat) (t : T) (v : Value), (zerosT ti n)[j]? = some t → ((Array.range (n * ti.size)).map fun q => z.cells[q % z.cells.size]!)[j]? = some v → Rel w μ σ v t := by
  obtain ⟨i0, d0, k1, k2, k3, k4, k5, k6, k7, k8⟩ := hG e ti he
  have hz : ∀ w, (zeroValue e).run P w = .ok (if ti.d.agg then .agg (ti.zero.map Z.value).toArray else (ti.zero.headD .b).value) w := by
    intro w; simp only [zeroValue, typeInfo, Sem.run_bind, run_program, Result.andThen_ok, k1, k6, Sem.run_pure]
  obtain ⟨z, uz, _, hz1, hz2⟩ := g_zero (P := P) (w := default) (μ := μ0) (σ := σ0) hG he
  have hzz : ∀ w, (zeroValue e).run P w = .ok z w := by
    rw [hz] at uz; injection uz with uz; intro w; rw [hz, uz]
  have hflat : zerosT ti n = (List.replicate n ti.tree.cells).flatMap id := by
    unfold zerosT
    rw [List.flatMap_id, List.flatMap_def, List.map_replicate]
  refine ⟨z, hzz, hz1, ?_, fun w μ σ j t v ht hv => ?_⟩
  · rw [hflat, List.flatMap_id, List.length_flatten]; simp [hz2]
  · rw [hflat, replicate_flat _ ti.size n j hz2] at ht
    split at ht
    · rename_i hj
      obtain ⟨z', uz', rz, _, _⟩ := g_zero (P := P) (w := w) (μ := μ) (σ := σ) hG he
      have : z' = z := by rw [hzz] at uz'; injection uz' with uz'; exact uz'.symm
      subst this
      have hraw : notRaw ti.tree = true := by
        unfold TI.tree; split
        · rfl
        · cases ti.zero.headD .b <;> rfl
      obtain ⟨_, hc2⟩ := rz.cells (notRaw_ne hraw)
      simp [hj] at hv
      have hmod : j % ti.size < ti.size := Nat.mod_lt _ hs0
      refine hc2 (j % ti.size) t v ht ?_
      rw [hz1] at hv
      rw [Array.getElem?_eq_getElem (by omega)]
      rw [← hv]
      simp [hz1, hmod]
    · cases ht

theorem op_makeX (hG : Fits P G) {K : Env → St → Prop} {o : Oper} {t : TypeId} {x y : Operand} {k k' : IntKind} {n : Int} {e : Nat} {ti te : TI}
    (hop : o.op = .makeSlice t x y) (ht : G t = some ti) (htd : ti.d = .slice e) (he : G e = some te) (hx : evalO a x = some (.int k n)) (hy : evalO a y = some (.int k' n))
    (hsz : (Nat.blt 0 te.size && Nat.ble te.bytes 4096) = true) {d : Tmp} (hdd : o.dst = some d) (hd : fitsD N (some d) = true) (hn : 0 ≤ n ∧ n ≤ 4294967296)
    (kk : ∀ i, (∀ m, σ.nx = some m → i = m) → K (put a (some d) (.aref te.size i 0 n.toNat (some n.toNat))) (σ.new i (.cells (zerosT te n.toNat)))) : AOp P N o a σ K := by
  generalize some d = dd at *
  subst hdd
  intro av w μ hi hr next Qc hnx
  simp only [Bool.and_eq_true, Nat.blt_eq] at hsz
  have hby := Nat.le_of_ble_eq_true hsz.2
  obtain ⟨n, rfl⟩ := Int.eq_ofNat_of_zero_le hn.1
  simp only [Int.toNat_natCast] at kk
  obtain ⟨d1, u1, f1⟩ := g_under (P := P) (w := w) hG ht
  rw [htd] at f1; obtain rfl := td_slice f1
  have us := g_size (P := P) (w := w) hG he
  obtain ⟨info, ui, hib, his⟩ := g_info (P := P) (w := w) hG he
  obtain ⟨z, hz, hz1, hz2, hz3⟩ := zeros_rel hG he hsz.1 n
  have rx := evalO_rel hr hx
  have ry := evalO_rel hr hy
  generalize hvx : av.eval x = vx at rx
  generalize hvy : av.eval y = vy at ry
  cases rx; cases ry
  generalize hcells : (Array.range (n * te.size)).map (fun q => z.cells[q % z.cells.size]!) = cells at hz3
  have hcs : cells.size = n * te.size := by rw [← hcells]; simp
  have hw64 : IntKind.i64.wrap (n : Int) = n := i64_in (by omega) (by omega)
  have hrun : (execOp av.eval o).run P w = .ok (.value (.slice (some ⟨w.heap.size, 0, none⟩) n n)) (w.alloc (.cells cells e)) := by
    have h1 : ¬ ((n : Int) < 0) := by omega
    have h2 : (info.bytes : Int) * (n : Int) ≤ 4096 * 4294967296 := by
      rw [hib]
      have : (te.bytes : Int) * (n : Int) ≤ 4096 * (n : Int) := Int.mul_le_mul_of_nonneg_right (by omega) (by omega)
      omega
    have h3 : ¬ (281474976710656 < (info.bytes : Int) * (n : Int)) := by omega
    simp [execOp, hop, Instr.makeSlice, u1, hvx, hvy, asInt, asIntOf, ui, hw64, h1, h3, us]
    by_cases hz0 : n = 0
    · subst hz0
      have : cells = #[] := by
        have : cells.size = 0 := by rw [hcs]; simp
        exact Array.eq_empty_of_size_eq_zero this
      have h00 : Array.map (fun x => (default : Value)) (Array.range 0) = #[] := Array.eq_empty_of_size_eq_zero (by simp)
      simp [newRow, this, h00]
    · have hpos : 0 < n * te.size := Nat.mul_pos (by omega) hsz.1
      have hne : ¬ (n = 0 ∨ te.size = 0) := by omega
      simp [hne, hz, hcells, newRow]
      intro h00; omega
  obtain ⟨i, f1, f2, f3, f4⟩ := hi.pick
  obtain ⟨ev, hi'⟩ := new_step hi cells e f1 f2 f3 f4 (ts := zerosT te n) (by rw [hz2, hcs]; exact Nat.le_refl _) (fun j c u hc hu => hz3 _ _ _ j c u hc (by simpa using hu))
  unfold Oper.wp
  rw [hrun]
  refine hnx _ _ _ _ _ ev hi' ((hr.ev ev).put hd (Rel.aref i w.heap.size 0 0 n n te.size _ (addL_same _ _) (Nat.le_refl _) (fun x hx => by injection hx) ⟨cells, e, _, heap_alloc_at w _, by rw [hcs]; simp⟩)) (kk i f3)

/-- The same, where nothing will be written. -/
theorem aop_makeI (hG : Fits P G) {K : Env → St → Prop} {o : Oper} {t : TypeId} {x y : Operand} {k k' : IntKind} {n : Int} {e : Nat} {ti te : TI}
    (hop : o.op = .makeSlice t x y) (ht : G t = some ti) (htd : ti.d = .slice e) (he : G e = some te) (hx : evalO a x = some (.int k n)) (hy : evalO a y = some (.int k' n))
    (hsz : (Nat.blt 0 te.size && Nat.ble te.bytes 4096) = true) (hd : fitsD N o.dst = true) (hn : 0 ≤ n ∧ n ≤ 4294967296)
    (kk : K (put a o.dst (.sl te.size .full (List.replicate n.toNat te.tree))) σ) : AOp P N o a σ K := by
  intro av w μ hi hr next Qc hnx
  simp only [Bool.and_eq_true, Nat.blt_eq] at hsz
  have hby := Nat.le_of_ble_eq_true hsz.2
  obtain ⟨n, rfl⟩ := Int.eq_ofNat_of_zero_le hn.1
  simp only [Int.toNat_natCast] at kk
  obtain ⟨d1, u1, f1⟩ := g_under (P := P) (w := w) hG ht
  rw [htd] at f1; obtain rfl := td_slice f1
  have us := g_size (P := P) (w := w) hG he
  obtain ⟨info, ui, hib, his⟩ := g_info (P := P) (w := w) hG he
  obtain ⟨z, hz, hz1, hz2, hz3⟩ := zeros_rel hG he hsz.1 n
  have rx := evalO_rel hr hx
  have ry := evalO_rel hr hy
  generalize hvx : av.eval x = vx at rx
  generalize hvy : av.eval y = vy at ry
  cases rx; cases ry
  generalize hcells : (Array.range (n * te.size)).map (fun q => z.cells[q % z.cells.size]!) = cells at hz3
  have hcs : cells.size = n * te.size := by rw [← hcells]; simp
  have hw64 : IntKind.i64.wrap (n : Int) = n := i64_in (by omega) (by omega)
  have hrun : (execOp av.eval o).run P w = .ok (.value (.slice (some ⟨w.heap.size, 0, none⟩) n n)) (w.alloc (.cells cells e)) := by
    have h1 : ¬ ((n : Int) < 0) := by omega
    have h2 : (info.bytes : Int) * (n : Int) ≤ 4096 * 4294967296 := by
      rw [hib]
      have : (te.bytes : Int) * (n : Int) ≤ 4096 * (n : Int) := Int.mul_le_mul_of_nonneg_right (by omega) (by omega)
      omega
    have h3 : ¬ (281474976710656 < (info.bytes : Int) * (n : Int)) := by omega
    simp [execOp, hop, Instr.makeSlice, u1, hvx, hvy, asInt, asIntOf, ui, hw64, h1, h3, us]
    by_cases hz0 : n = 0
    · subst hz0
      have : cells = #[] := by
        have : cells.size = 0 := by rw [hcs]; simp
        exact Array.eq_empty_of_size_eq_zero this
      have h00 : Array.map (fun x => (default : Value)) (Array.range 0) = #[] := Array.eq_empty_of_size_eq_zero (by simp)
      simp [newRow, this, h00]
    · have hpos : 0 < n * te.size := Nat.mul_pos (by omega) hsz.1
      have hne : ¬ (n = 0 ∨ te.size = 0) := by omega
      simp [hne, hz, hcells, newRow]
      intro h00; omega
  obtain ⟨ev, hi'⟩ := frozen_step hi cells e
  have htl : te.tree.cells.length = te.size := by
    obtain ⟨_, _, _, _, h⟩ := g_zero (P := P) (w := w) (μ := μ) (σ := σ) hG he
    exact h
  have hsized : sized te.size (List.replicate n te.tree) := by
    intro j x hx
    rw [List.getElem?_replicate] at hx
    split at hx
    · injection hx with hx; subst hx; exact htl
    · cases hx
  have hfl : flat (List.replicate n te.tree) = zerosT te n := rfl
  unfold Oper.wp
  rw [hrun]
  refine hnx _ _ _ _ _ ev hi' ((hr.ev ev).put hd (sl_mk (by simp) (Nat.le_refl _) (show OwnOK μ .full _ _ _ from rfl) hsized (fun k c hk => ?_))) kk
  rw [hfl] at hk
  have hheap : (w.alloc (.cells cells e)).heap[w.heap.size]? = some (.cells cells e (0, 0)) := heap_alloc_at w _
  have hklt := lt_of_get hk
  have hkc : cells[k]? = some cells[k] := Array.getElem?_eq_getElem (by omega)
  refine ⟨fresh_imm hi hheap k, cells[k], ?_, hz3 _ _ _ k c _ hk hkc⟩
  simp only [World.cell?, hheap, Nat.zero_add]
  simp

theorem op_make (hG : Fits P G) {K : Env → St → Prop} {o : Oper} {t : TypeId} {x y : Operand} {k k' : IntKind} {n : Int} {e : Nat} {ti te : TI}
    (hop : o.op = .makeSlice t x y) (ht : G t = some ti) (htd : ti.d = .slice e) (he : G e = some te) (hx : evalO a x = some (.int k n)) (hy : evalO a y = some (.int k' n))
    (hsz : (Nat.blt 0 te.size && Nat.ble te.bytes 4096) = true) {d : Tmp} (hdd : o.dst = some d) (hd : fitsD N (some d) = true) (hn : 0 ≤ n ∧ n ≤ 4294967296)
    (kk : ∀ i, K (put a (some d) (.aref te.size i 0 n.toNat (some n.toNat))) (σ.new i (.cells (zerosT te n.toNat)))) : AOp P N o a σ K :=
  op_makeX hG hop ht htd he hx hy hsz hdd hd hn (fun i _ => kk i)

theorem zeroCells_append (z : Array Value) (n m : Nat) : Builtin.zeroCells z n ++ Builtin.zeroCells z m = Builtin.zeroCells z (n + m) := by
  apply Array.ext
  · simp [Builtin.zeroCells, Nat.add_mul]
  · intro j h1 h2
    simp only [Builtin.zeroCells, Array.size_append, Array.size_map, Array.size_range] at h1 h2
    rcases Nat.lt_or_ge j (n * z.size) with h | h
    · rw [Array.getElem_append_left (by simpa [Builtin.zeroCells] using h)]
      simp [Builtin.zeroCells]
    · rw [Array.getElem_append_right (by simpa [Builtin.zeroCells] using h)]
      simp only [Builtin.zeroCells, Array.getElem_map, Array.getElem_range, Array.size_map, Array.size_range]
      congr 1
      have : j = (j - n * z.size) + z.size * n := by rw [Nat.mul_comm z.size n]; omega
      conv => rhs; rw [this, Nat.add_mul_mod_self_left]

/-- append of so many zeros onto nothing. -/
theorem op_zeros (hG : Fits P G) {K : Env → St → Prop} {o : Oper} {x y : Operand} {t1 t2 : TypeId} {e : Nat} {i1 i2 te : TI} {k k' : IntKind} {n : Int}
    (hop : o.op = .call { callee := .builtin .append, args := #[x, y], argTypes := #[t1, t2] }) (h1 : G t1 = some i1) (h1d : i1.d = .slice e) (he : G e = some te) (h2 : G t2 = some i2) (h2d : i2.d = .int k')
    (hx : evalO a x = some .nilsl) (hy : evalO a y = some (.int k n)) (hsz : (Nat.blt 0 te.size && Nat.ble te.bytes 4096) = true) {d : Tmp} (hdd : o.dst = some d) (hd : fitsD N (some d) = true) (hn : 0 < n ∧ n ≤ 4294967296)
    (kk : ∀ i cap, n.toNat ≤ cap → K (put a (some d) (.aref te.size i 0 n.toNat (some cap))) (σ.new i (.cells (zerosT te cap)))) : AOp P N o a σ K := by
  generalize some d = dd at *
  subst hdd
  intro av w μ hi hr next Qc hnx
  simp only [Bool.and_eq_true, Nat.blt_eq] at hsz
  have hby := Nat.le_of_ble_eq_true hsz.2
  obtain ⟨n, rfl⟩ := Int.eq_ofNat_of_zero_le (Int.le_of_lt hn.1)
  simp only [Int.toNat_natCast] at kk
  have hn1 : 0 < n := by omega
  obtain ⟨d1, u1, f1⟩ := g_under (P := P) (w := w) hG h1
  rw [h1d] at f1; obtain rfl := td_slice f1
  obtain ⟨d2, u2, f2⟩ := g_under (P := P) (w := w) hG h2
  rw [h2d] at f2; obtain rfl := td_int f2
  have us : ∀ w, (sizeOf e).run P w = .ok te.size w := fun w => g_size hG he
  obtain ⟨info, hib, his, ui⟩ : ∃ info : TypeInfo, info.bytes = te.bytes ∧ info.size = te.size ∧ ∀ w, (typeInfo e).run P w = .ok info w := by
    obtain ⟨i0, d0, k1, k2, k3, k4, k5, _⟩ := hG e te he
    exact ⟨i0, k5, k4, fun w => by simp [typeInfo, k1]⟩
  have rx := evalO_rel hr hx
  have ry := evalO_rel hr hy
  generalize hvx : av.eval x = vx at rx
  generalize hvy : av.eval y = vy at ry
  cases rx; cases ry
  obtain ⟨z, hz, hz1, _, _⟩ := zeros_rel hG he hsz.1 n
  have hw64 : IntKind.i64.wrap (n : Int) = n := i64_in (by omega) (by omega)
  have hq1 : ¬ ((n : Int) < 0) := by omega
  have hq2 : ¬ (281474976710656 < (n : Int) * (info.bytes : Int)) := by
    rw [hib]
    have : (n : Int) * (te.bytes : Int) ≤ 4294967296 * 4096 := by
      have h3 : n * te.bytes ≤ 4294967296 * 4096 := Nat.mul_le_mul (by omega) hby
      rw [← Int.natCast_mul]; omega
    omega
  have hq3 : ¬ (281474976710656 < Builtin.nextslicecap n 0 * info.bytes) := by
    have h1 := nextslicecap_le n 0 hn1
    have h2 : Builtin.nextslicecap n 0 * info.bytes ≤ 8589935360 * 4096 := Nat.mul_le_mul (by omega) (by omega)
    omega
  have hq4 : ¬ (9223372036854775807 < (n : Int)) := by omega
  have hfo : (Question.appendCap n 0 e).forced = false := rfl
  have hn0 : ¬ (n = 0) := by omega
  have hne : ¬ (n = 0 ∨ te.size = 0) := by omega
  generalize hcap : (Question.appendCap n 0 e).cut (w.tape w.drawn (.appendCap n 0 e)) = cap
  have hnc : n ≤ cap := by rw [← hcap]; simp only [Question.cut]; omega
  have hrun : (execOp av.eval o).run P w = .ok (.value (.slice (some ⟨w.heap.size, 0, none⟩) n cap)) (w.drew.alloc (.cells (Builtin.zeroCells z.cells cap) e)) := by
    have hzc : Builtin.zeroCells z.cells n ++ Builtin.zeroCells z.cells (cap - n) = Builtin.zeroCells z.cells cap := by
      rw [zeroCells_append]; congr 1; omega
    simp [execOp, hop, resolve, invoke, builtin, Builtin.append_, u1, u2, hvx, hvy, asInt, asIntOf, ui, hw64, hq1, hq2, hq3, hq4, us, hn0, hne, hz, hfo, hcap, Builtin.firstCells, newRow, hzc]
    have hpos : 0 < n * te.size := Nat.mul_pos hn1 hsz.1
    intro h00; omega
  obtain ⟨z', hz', hz1', hz2', hz3'⟩ := zeros_rel hG he hsz.1 cap
  have hzz : z' = z := by have := (hz' w).symm.trans (hz w); injection this
  subst hzz
  have hcs : (Builtin.zeroCells z'.cells cap).size = cap * te.size := by rw [zeroCells_size, hz1]
  have ev1 : Ev w μ σ w.drew μ σ := ev_same rfl rfl rfl rfl
  have hi1 : Inv w.drew μ σ := hi.ev_heap rfl ev1
  obtain ⟨i, f1, f2, f3, f4⟩ := hi1.pick
  obtain ⟨ev2, hi'⟩ := new_step hi1 (Builtin.zeroCells z'.cells cap) e f1 f2 f3 f4 (ts := zerosT te cap) (by rw [hz2', hcs]; exact Nat.le_refl _) (fun j c u hc hu => hz3' _ _ _ j c u hc (by rw [Nat.zero_add] at hu; rw [← hu]; unfold Builtin.zeroCells; rw [hz1]))
  have ev := ev1.trans ev2
  unfold Oper.wp
  rw [hrun]
  refine hnx _ _ _ _ _ ev hi' ((hr.ev ev).put hd (Rel.aref i w.heap.size 0 0 n cap te.size _ (addL_same _ _) hnc (fun x hx => by injection hx) ⟨_, e, _, heap_alloc_at w.drew _, by rw [hcs]; simp⟩)) (kk i cap hnc)

/-- A live thing that will not be written any more: its block's cells stay. -/
theorem erase_imm (hi : Inv w μ σ) {n i b p : Nat} {o : Ob} (hn : σ.L[n]? = some (i, o)) (hl : μ.loc i = some (b, p)) (q : Nat) : Imm w μ { σ with L := σ.L.eraseIdx n } b q := by
  have hin := List.mem_of_getElem? hn
  refine ⟨hi.lts hin hl, hi.offobj i o b p hin hl q, fun j ob p' h1 h2 => ?_, fun k f t h1 h2 h3 => ?_⟩
  · obtain ⟨m, hm⟩ := List.getElem?_of_mem h1
    rw [List.getElem?_eraseIdx] at hm
    split at hm
    · rename_i hlt
      have := hi.inj m n j i ob o b p' p hm hn h2 hl; omega
    · rename_i hge
      have := hi.inj (m + 1) n j i ob o b p' p hm hn h2 hl; omega
  · obtain ⟨b', f', t', r1, r2, r3⟩ := hi.room k h1
    rw [h2] at r1; injection r1 with r1; injection r1 with r1 r4; injection r4 with r4 r5
    subst r4; subst r5; subst r1
    obtain ⟨_, h6, _⟩ := r3 (by omega)
    exact h6 i o p hin hl
theorem erase_step (n : Nat) : GStep σ { σ with L := σ.L.eraseIdx n } := by
  have := keep_step (σ := σ) (List.eraseIdx_sublist σ.L n) (List.Sublist.refl σ.R)
  exact this
/-- A live slice, read as data for good. -/
theorem freeze_value (hi : Inv w μ σ) {n i o m sz : Nat} {cap : Option Nat} {ts : List T} {v : Value} (hn : σ.L[n]? = some (i, .cells ts)) (r : Rel w μ σ v (.aref sz i o m cap))
    (hle : o + m * sz ≤ ts.length) (hsc : ((ts.drop o).take (m * sz)).all T.scalar = true) : Rel w μ { σ with L := σ.L.eraseIdx n } v (.sl sz .no (chunks sz m ((ts.drop o).take (m * sz)))) := by
  cases r with
  | aref i b p o m c sz cap hl hc hcap hb =>
    obtain ⟨hf1, hf2⟩ := chunks_flat sz m _ hsc (by simp; omega)
    rw [List.take_take, Nat.min_self] at hf1
    obtain ⟨b', p', hl', hcells⟩ := hi.cells (List.mem_of_getElem? hn)
    rw [hl] at hl'; injection hl' with hl'; injection hl' with e1 e2; subst e1; subst e2
    refine sl_mk (chunks_length _ _ _) hc trivial hf2 fun k t hk => ?_
    rw [hf1, List.getElem?_take] at hk
    split at hk
    · rw [List.getElem?_drop] at hk
      obtain ⟨u, hu, ru⟩ := hcells (o + k) t hk
      rw [← Nat.add_assoc] at hu
      exact ⟨erase_imm hi hn hl _, u, hu, ru.ev (erase_step n w μ hi).2⟩
    · cases hk
/-- A live thing that was handed over is let go; what is known of one slot is read as data. -/
theorem aw_freeze (n j : Nat) {c : Code} {i o m sz : Nat} {cap : Option Nat} {ts : List T} (hg : get a j = some (.aref sz i o m cap)) (hn : σ.L[n]? = some (i, .cells ts)) (hle : o + m * sz ≤ ts.length) (hsc : ((ts.drop o).take (m * sz)).all T.scalar = true)
    (h : AW P N c Q ((j, .sl sz .no (chunks sz m ((ts.drop o).take (m * sz)))) :: a) { σ with L := σ.L.eraseIdx n }) : AW P N c Q a σ := by
  refine aw_conv (fun w μ av hi hr => ?_) h
  obtain ⟨i1, e1⟩ := erase_step n w μ hi
  obtain ⟨v, hv, r⟩ := hr.tmp j _ hg
  have hr1 := hr.ev e1
  refine ⟨μ, i1, e1, hr1.size, hr1.defers, fun x u hx => ?_⟩
  by_cases e : j = x
  · subst e
    have : T.sl sz .no (chunks sz m ((ts.drop o).take (m * sz))) = u := by simpa [get] using hx
    subst this
    exact ⟨v, hv, freeze_value hi hn r hle hsc⟩
  · exact hr1.tmp x u (by simpa [get, beqF e] using hx)
/-- An array of which nothing is taken yet: all of it is room. -/
theorem aw_room (n j : Nat) {c : Code} {i m sz c0 : Nat} {ts : List T} (hg : get a j = some (.aref sz i 0 m (some c0))) (hn : σ.L[n]? = some (i, .cells ts)) (hm : m = 0) (hnx : σ.nx = none)
    (h : ∀ k, AW P N c Q ((j, .sl sz (.tok k) []) :: a) { σ with L := σ.L.eraseIdx n, R := k :: σ.R }) : AW P N c Q a σ := by
  subst hm
  intro av w μ hi hr
  obtain ⟨k, f1, f2, f3, f4⟩ := hi.pick
  obtain ⟨i1, e1⟩ := erase_step n w μ hi
  obtain ⟨v, hv, r⟩ := hr.tmp j _ hg
  cases r with
  | aref i b p o m c1 sz cap hl hc hcap hb =>
  have hin := List.mem_of_getElem? hn
  obtain ⟨b', p', cs, e, hl', hh, hlen, hcells⟩ := hi.obj i ts hin
  rw [hl] at hl'; injection hl' with hl'; injection hl' with q1 q2; subst q1; subst q2
  have hbd : p + c1 * sz ≤ cs.size := by
    obtain ⟨c2, e2, f2', h1, h2⟩ := hb
    rw [hh] at h1; injection h1 with h1; injection h1 with h1; subst h1; simpa using h2
  have old : ∀ l, l ∈ σ.R → l ≠ k := by
    rintro l hl rfl
    obtain ⟨b', f', t', h1, _⟩ := hi.room l hl
    rw [f2] at h1; cases h1
  have new : ∀ b2 f t, (μ.addT k (b, p, p + c1 * sz)).tok k = some (b2, f, t) → b2 = b ∧ f = p ∧ t = p + c1 * sz := by
    intro b2 f t h; rw [addT_same] at h; injection h with h; injection h with h1 h; injection h with h2 h3; exact ⟨h1.symm, h2.symm, h3.symm⟩
  have himm := fun q => erase_imm hi hn hl q
  have hother : ∀ l b2 f t, l ∈ σ.R → μ.tok l = some (b2, f, t) → f < t → b2 ≠ b := by
    rintro l b2 f t h1 h2 h3 rfl
    obtain ⟨b', f', t', r1, r2, r3⟩ := hi.room l h1
    rw [h2] at r1; injection r1 with r1; injection r1 with r1 r4; injection r4 with r4 r5
    subst r4; subst r5; subst r1
    exact (r3 h3).2.1 i _ p hin hl
  have ev : Ev w μ σ w (μ.addT k (b, p, p + c1 * sz)) { σ with L := σ.L.eraseIdx n, R := k :: σ.R } := by
    refine ⟨.refl _ _, fun _ _ h => h, addT_mono f2, rfl, fun _ _ h => h, fun x hb hlv => ⟨?_, rfl⟩, fun x q h => ⟨⟨h.lt, h.off, fun i' ob p' h1 => h.obj i' ob p' ((List.eraseIdx_sublist _ _).subset h1), fun l g u h1 h2 => ?_⟩, rfl⟩⟩
    · rintro (⟨i', ob, p', h1, h2⟩ | ⟨l, f, t, h1, h2, h3⟩)
      · exact hlv (.inl ⟨i', ob, p', (List.eraseIdx_sublist _ _).subset h1, h2⟩)
      · rcases List.mem_cons.1 h1 with rfl | h1
        · obtain ⟨rfl, rfl, rfl⟩ := new _ _ _ h2; exact hlv (.inl ⟨i, _, _, hin, hl⟩)
        · rw [addT_ne _ (old l h1)] at h2; exact hlv (.inr ⟨l, f, t, h1, h2, h3⟩)
    · rcases List.mem_cons.1 h1 with rfl | h1
      · obtain ⟨rfl, rfl, rfl⟩ := new _ _ _ h2; exact absurd hl (h.obj i _ _ hin)
      · rw [addT_ne _ (old l h1)] at h2; exact h.room l g u h1 h2
  have inv : Inv w (μ.addT k (b, p, p + c1 * sz)) { σ with L := σ.L.eraseIdx n, R := k :: σ.R } := by
    refine ⟨fun i' us hx => ?_, fun i' es hx => ?_, i1.inj, fun l hl2 => ?_, fun n1 m1 l l' b2 f t g u h1 h2 h3 h4 h5 h6 => ?_, ⟨k + 1, fun j hj => ⟨(f4 j (by omega)).1, by rw [addT_ne _ (by omega)]; exact (f4 j (by omega)).2⟩, fun m hm => by rw [show ({ σ with L := σ.L.eraseIdx n, R := k :: σ.R } : St).nx = σ.nx from rfl, hnx] at hm; cases hm⟩, hi.offlt, i1.offobj⟩
    · obtain ⟨b, p, c, e, h1, h2, h3, h4⟩ := hi.obj i' us ((List.eraseIdx_sublist _ _).subset hx)
      exact ⟨b, p, c, e, h1, h2, h3, fun j t v h5 h6 => (h4 j t v h5 h6).ev ev⟩
    · obtain ⟨b, c, e, h1, h2, h3, h4⟩ := hi.map i' es ((List.eraseIdx_sublist _ _).subset hx)
      exact ⟨b, c, e, h1, h2, h3, fun j k u e h5 h6 => let ⟨h7, h8⟩ := h4 j k u e h5 h6; ⟨h7.ev ev, h8.ev ev⟩⟩
    · rcases List.mem_cons.1 hl2 with rfl | hl2
      · refine ⟨b, p, p + c1 * sz, addT_same _ _, by omega, fun hlt => ⟨⟨cs, e, hh, hbd⟩, fun i' ob p' h1 h2 => (himm 0).obj i' ob p' h1 h2, fun o _ _ => (himm o).off⟩⟩
      · obtain ⟨b2, f, t, h1, h2, h3⟩ := hi.room l hl2
        refine ⟨b2, f, t, by rw [addT_ne _ (old l hl2)]; exact h1, h2, fun hlt => ?_⟩
        obtain ⟨h4, h5, h6⟩ := h3 hlt
        exact ⟨h4, fun i' ob p' h7 => h5 i' ob p' ((List.eraseIdx_sublist _ _).subset h7), h6⟩
    · have h1' : (k :: σ.R)[n1]? = some l := h1
      have h2' : (k :: σ.R)[m1]? = some l' := h2
      cases n1 with
      | zero =>
        simp at h1'; subst h1'
        cases m1 with
        | zero => rfl
        | succ m1 =>
          have e2 : σ.R[m1]? = some l' := by simpa using h2'
          obtain ⟨rfl, rfl, rfl⟩ := new _ _ _ h3
          have hm2 := List.mem_of_getElem? e2
          rw [addT_ne _ (old l' hm2)] at h4
          exact absurd rfl (hother l' _ g u hm2 h4 h6)
      | succ n1 =>
        have e1 : σ.R[n1]? = some l := by simpa using h1'
        have hm1 := List.mem_of_getElem? e1
        rw [addT_ne _ (old l hm1)] at h3
        cases m1 with
        | zero =>
          simp at h2'; subst h2'
          obtain ⟨rfl, rfl, rfl⟩ := new _ _ _ h4
          exact absurd rfl (hother l _ f t hm1 h3 h5)
        | succ m1 =>
          have e2 : σ.R[m1]? = some l' := by simpa using h2'
          rw [addT_ne _ (old l' (List.mem_of_getElem? e2))] at h4
          rw [hi.rinj n1 m1 l l' b2 f t g u e1 e2 h3 h4 h5 h6]
  have hr1 := hr.ev ev
  refine wp_mono (h k av w _ inv ⟨hr1.size, hr1.defers, fun x u hx => ?_⟩) fun e av' w' ⟨a', σ', μ', k1, k2, k3, k4⟩ => ⟨a', σ', μ', ev.trans k1, k2, k3, k4⟩
  by_cases e : j = x
  · subst e
    have : T.sl sz (.tok k) [] = u := by simpa [get] using hx
    subst this
    refine ⟨_, hv, .sl b (p + 0) c1 sz _ [] 0 rfl (Nat.zero_le _) ⟨_, addT_same _ _, .inl (by simp)⟩ (fun i x hx => by simp at hx) (fun i x j c hx => by simp at hx) (fun i x j c v hx => by simp at hx)⟩
  · exact hr1.tmp x u (by simpa [get, beqF e] using hx)

/-- A live slice, cut to nothing at its begin. -/
theorem op_cut0 (hG : Fits P G) {K : Env → St → Prop} {o : Oper} {t : TypeId} {x : Operand} {lo hi : Option Operand} {k k' : IntKind} {sz e i p n c0 : Nat} {ti te : TI}
    (hop : o.op = .slice t x lo hi none) (hx : evalO a x = some (.aref sz i p n (some c0))) (hl : (lo.map (evalO a)).getD (some (.int .i64 0)) = some (.int k 0)) (hh : (hi.map (evalO a)).getD (some (.int .i64 n)) = some (.int k' 0))
    (ht : G t = some ti) (htd : ti.d = .slice e) (hte : G e = some te) (hsz : Nat.beq sz te.size = true) {d : Tmp} (hdd : o.dst = some d) (hd : fitsD N (some d) = true)
    (kk : K (put a (some d) (.aref sz i p 0 (some c0))) σ) : AOp P N o a σ K := by
  generalize some d = dd at *
  subst hdd
  intro av w μ hiv hr next Qc hn
  obtain rfl : sz = te.size := Nat.eq_of_beq_eq_true hsz
  obtain ⟨d1, e1, f1⟩ := g_under (P := P) (w := w) hG ht
  rw [htd] at f1; obtain rfl := td_slice f1
  have hs := g_size (w := w) (P := P) hG hte
  have rx := evalO_rel hr hx
  have opt : ∀ (x : Option Operand) (d k : IntKind) (m l : Int), (x.map (evalO a)).getD (some (.int d m)) = some (.int k l) → (x.map av.eval = none ∧ l = m) ∨ ∃ k', x.map av.eval = some (.int k' l) := by
    intro x d k m l hl
    cases x with
    | none => simp at hl; exact .inl ⟨rfl, hl.2.symm⟩
    | some x =>
      simp at hl
      have := evalO_rel hr hl
      generalize hv : av.eval x = v at this
      cases this
      exact .inr ⟨k, by simp [hv]⟩
  generalize hv : av.eval x = vx at rx
  cases rx with
  | aref i b q p n c sz cap hloc hc hcap hb =>
    have hsb := sliceBounds_run (P := P) (w := w) (n := n) (cap := c) (opt lo _ _ _ _ hl) (opt hi _ _ _ _ hh) (Int.le_refl _) (Int.le_refl _) (by omega) hc
    have hrun : (execOp av.eval o).run P w = .ok (.value (.slice (some ⟨b, q + p, none⟩) 0 c)) w := by
      have h9 : (Instr.sliceAt t (.slice (some ⟨b, q + p, none⟩) n c) (lo.map av.eval) (hi.map av.eval) none).run P w = .ok (.slice (some ⟨b, q + p, none⟩) 0 c) w := by
        simp only [Int.toNat_zero] at hsb
        have h0 : (⟨b, q + p, none⟩ : Addr).add 0 = ⟨b, q + p, none⟩ := by rw [add_at]; rfl
        simp [Instr.sliceAt, Instr.slice, e1, hsb, hs, h0]
      simp only [execOp, hop, hv, Option.map_none, Sem.run_bind, h9, Result.andThen_ok, Sem.run_pure]
    unfold Oper.wp
    rw [hrun]
    exact hn _ _ _ _ _ (.refl _ _ _) hiv (hr.put hd (.aref i b q p 0 c _ _ hloc (Nat.zero_le _) hcap hb)) kk
end
end Go.Ts
