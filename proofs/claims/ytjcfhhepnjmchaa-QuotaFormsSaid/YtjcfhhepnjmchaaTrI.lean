/- Trees, continued: new arrays that may be written (make; append of zeros), and how they are handed over. -/
import Derived.Test.YtjcfhhepnjmchaaTrG
set_option linter.unusedVariables false
set_option linter.unusedSimpArgs false
namespace Go.Tr
section
variable {P : Program} {G : Nat → Option TI} {w w1 : World} {σ σ1 : St} {N : Nat} {a : Env} {Q : Exit → Env → St → Prop}

def zerosT (ti : TI) (n : Nat) : List T := (List.replicate n ti.tree).flatMap T.cells

theorem replicate_flat {α : Type} (l : List α) (s n k : Nat) (hs : l.length = s) : ((List.replicate n l).flatMap id)[k]? = if k < n * s then l[k % s]? else none := by
  induction n generalizing k with
  | zero => simp
  | succ n ih =>
    rw [List.replicate_succ, List.flatMap_cons]
    simp only [id]
    have hm : (n + 1) * s = n * s + s := by rw [Nat.add_mul]; omega
    rcases Nat.lt_or_ge k s with h | h
    · rw [List.getElem?_append_left (by omega), if_pos (by omega), Nat.mod_eq_of_lt h]
    · rw [List.getElem?_append_right (by omega), ih, hs, hm]
      have : k % s = (k - s) % s := Nat.mod_eq_sub_mod h
      rw [this]
      by_cases h2 : k < n * s + s
      · rw [if_pos h2, if_pos (by omega)]
      · rw [if_neg h2, if_neg (by omega)]

theorem zeros_rel (hG : Fits P G) {e : Nat} {ti : TI} (he : G e = some ti) (hs0 : 0 < ti.size) (n : Nat) : ∃ z, (∀ w, (zeroValue e).run P w = .ok z w) ∧ z.cells.size = ti.size ∧ (zerosT ti n).length = n * ti.size ∧
    ∀ (w : World) (σ : St) (j : Nat) (t : T) (v : Value), (zerosT ti n)[j]? = some t → ((Array.range (n * ti.size)).map fun q => z.cells[q % z.cells.size]!)[j]? = some v → Rel w σ v t := by
  obtain ⟨i0, d0, k1, k2, k3, k4, k5, k6, k7, k8⟩ := hG e ti he
  have hz : ∀ w, (zeroValue e).run P w = .ok (if ti.d.agg then .agg (ti.zero.map Z.value).toArray else (ti.zero.headD .b).value) w := by
    intro w; simp only [zeroValue, typeInfo, Sem.run_bind, run_program, Result.andThen_ok, k1, k6, Sem.run_pure]
  obtain ⟨z, uz, _, hz1, hz2⟩ := g_zero (P := P) (w := default) (σ := { base := 0, objs := fun _ => none, spare := fun _ => none }) hG he
  have hzz : ∀ w, (zeroValue e).run P w = .ok z w := by
    rw [hz] at uz; injection uz with uz; intro w; rw [hz, uz]
  have hflat : zerosT ti n = (List.replicate n ti.tree.cells).flatMap id := by
    unfold zerosT
    rw [List.flatMap_id, List.flatMap_def, List.map_replicate]
  refine ⟨z, hzz, hz1, ?_, fun w σ j t v ht hv => ?_⟩
  · rw [hflat, List.flatMap_id, List.length_flatten]; simp [hz2]
  · rw [hflat, replicate_flat _ ti.size n j hz2] at ht
    split at ht
    · rename_i hj
      obtain ⟨z', uz', rz, _, _⟩ := g_zero (P := P) (w := w) (σ := σ) hG he
      have : z' = z := by rw [hzz] at uz'; injection uz' with uz'; exact uz'.symm
      subst this
      have hraw : notRaw ti.tree = true := by
        unfold TI.tree; split
        · rfl
        · cases ti.zero.headD .b <;> rfl
      obtain ⟨_, hc2⟩ := rz.cells (notRaw_ne hraw)
      simp [hj] at hv
      have hmod : j % ti.size < ti.size := Nat.mod_lt _ hs0
      refine hc2 (j % ti.size) t v ht ?_
      rw [hz1] at hv
      rw [Array.getElem?_eq_getElem (by omega)]
      rw [← hv]
      simp [hz1, hmod]
    · cases ht

theorem op_make (hG : Fits P G) {K : Env → St → Prop} {o : Oper} {t : TypeId} {x y : Operand} {k k' : IntKind} {n : Int} {e : Nat} {ti te : TI}
    (hop : o.op = .makeSlice t x y) (ht : G t = some ti) (htd : ti.d = .slice e) (he : G e = some te) (hx : evalO a x = some (.int k n)) (hy : evalO a y = some (.int k' n))
    (hsz : (Nat.blt 0 te.size && Nat.ble te.bytes 4096) = true) {d : Option Tmp} (hdd : o.dst = d) (hd : fitsD N d = true) (hn : 0 ≤ n ∧ n ≤ 4294967296)
    (kk : ∀ b, σ.objs b = none → σ.spare b = none → K (put a d (.aref te.size (some (b, 0, n.toNat * te.size)) b 0 n.toNat)) (σ.setO b (some (.cells (zerosT te n.toNat))))) : AOp P N o a σ K := by
  subst hdd
  intro av w hi hr next Qc hnx
  simp only [Bool.and_eq_true, Nat.blt_eq] at hsz
  have hby := Nat.le_of_ble_eq_true hsz.2
  obtain ⟨n, rfl⟩ := Int.eq_ofNat_of_zero_le hn.1
  simp only [Int.toNat_natCast] at kk
  obtain ⟨d1, u1, f1⟩ := g_under (P := P) (w := w) hG ht
  rw [htd] at f1; obtain rfl := td_slice f1
  have us := g_size (P := P) (w := w) hG he
  obtain ⟨info, ui, hib, his⟩ := g_info (P := P) (w := w) hG he
  obtain ⟨z, hz, hz1, hz2, hz3⟩ := zeros_rel hG he hsz.1 n
  have rx := evalO_rel hr hx
  have ry := evalO_rel hr hy
  generalize hvx : av.eval x = vx at rx
  generalize hvy : av.eval y = vy at ry
  cases rx; cases ry
  generalize hcells : (Array.range (n * te.size)).map (fun q => z.cells[q % z.cells.size]!) = cells at hz3
  have hcs : cells.size = n * te.size := by rw [← hcells]; simp
  have hw64 : IntKind.i64.wrap (n : Int) = n := i64_in (by omega) (by omega)
  have hrun : (execOp av.eval o).run P w = .ok (.value (.slice (some ⟨w.heap.size, 0, none⟩) n n)) (w.alloc (.cells cells e)) := by
    have h1 : ¬ ((n : Int) < 0) := by omega
    have h2 : (info.bytes : Int) * (n : Int) ≤ 4096 * 4294967296 := by
      rw [hib]
      have : (te.bytes : Int) * (n : Int) ≤ 4096 * (n : Int) := Int.mul_le_mul_of_nonneg_right (by omega) (by omega)
      omega
    have h3 : ¬ (281474976710656 < (info.bytes : Int) * (n : Int)) := by omega
    simp [execOp, hop, Instr.makeSlice, u1, hvx, hvy, asInt, asIntOf, ui, hw64, h1, h3, us]
    by_cases hz0 : n = 0
    · subst hz0
      have : cells = #[] := by
        have : cells.size = 0 := by rw [hcs]; simp
        exact Array.eq_empty_of_size_eq_zero this
      have h00 : Array.map (fun x => (default : Value)) (Array.range 0) = #[] := Array.eq_empty_of_size_eq_zero (by simp)
      simp [newRow, this, h00]
    · have hpos : 0 < n * te.size := Nat.mul_pos (by omega) hsz.1
      have hne : ¬ (n = 0 ∨ te.size = 0) := by omega
      simp [hne, hz, hcells, newRow]
      intro h00; omega
  obtain ⟨ev, hi'⟩ := alloc_step (σ1 := σ.setO w.heap.size (some (.cells (zerosT te n)))) hi cells e rfl (fun k hk => objs_setO_ne _ hk) (fun k hk => rfl)
    (fun ev o ho => by
      rw [objs_setO_same] at ho; injection ho with ho; subst ho
      exact ⟨_, rfl, by rw [hz2, hcs]; exact Nat.le_refl _, fun j c u hc hu => hz3 _ _ j c u hc hu⟩)
    (fun f t hf => by
      have : σ.spare w.heap.size = some (f, t) := hf
      rw [hi.fresh_room] at this; cases this)
  unfold Oper.wp
  rw [hrun]
  refine hnx _ _ _ _ ev hi' ((hr.ev ev).put hd (.aref _ _ _ _ _ _ (Nat.le_refl _) (fun q hq => ?_))) (kk w.heap.size hi.fresh_obj hi.fresh_room)
  injection hq with hq; subst hq; exact ⟨rfl, by simp⟩

theorem zeroCells_append (z : Array Value) (n m : Nat) : Builtin.zeroCells z n ++ Builtin.zeroCells z m = Builtin.zeroCells z (n + m) := by
  apply Array.ext
  · simp [Builtin.zeroCells, Nat.add_mul]
  · intro j h1 h2
    simp only [Builtin.zeroCells, Array.size_append, Array.size_map, Array.size_range] at h1 h2
    rcases Nat.lt_or_ge j (n * z.size) with h | h
    · rw [Array.getElem_append_left (by simpa [Builtin.zeroCells] using h)]
      simp [Builtin.zeroCells]
    · rw [Array.getElem_append_right (by simpa [Builtin.zeroCells] using h)]
      simp only [Builtin.zeroCells, Array.getElem_map, Array.getElem_range, Array.size_map, Array.size_range]
      congr 1
      have : j = (j - n * z.size) + z.size * n := by rw [Nat.mul_comm z.size n]; omega
      conv => rhs; rw [this, Nat.add_mul_mod_self_left]

/-- append of so many zeros onto nothing. -/
theorem op_append0 (hG : Fits P G) {K : Env → St → Prop} {o : Oper} {x y : Operand} {t1 t2 : TypeId} {e : Nat} {i1 i2 te : TI} {k k' : IntKind} {n : Int}
    (hop : o.op = .call { callee := .builtin .append, args := #[x, y], argTypes := #[t1, t2] }) (h1 : G t1 = some i1) (h1d : i1.d = .slice e) (he : G e = some te) (h2 : G t2 = some i2) (h2d : i2.d = .int k')
    (hx : evalO a x = some .nilsl) (hy : evalO a y = some (.int k n)) (hsz : (Nat.blt 0 te.size && Nat.ble te.bytes 4096) = true) {d : Option Tmp} (hdd : o.dst = d) (hd : fitsD N d = true) (hn : 0 < n ∧ n ≤ 4294967296)
    (kk : ∀ b cap, n.toNat ≤ cap → σ.objs b = none → σ.spare b = none → K (put a d (.aref te.size (some (b, 0, cap * te.size)) b 0 n.toNat)) (σ.setO b (some (.cells (zerosT te cap))))) : AOp P N o a σ K := by
  subst hdd
  intro av w hi hr next Qc hnx
  simp only [Bool.and_eq_true, Nat.blt_eq] at hsz
  have hby := Nat.le_of_ble_eq_true hsz.2
  obtain ⟨n, rfl⟩ := Int.eq_ofNat_of_zero_le (Int.le_of_lt hn.1)
  simp only [Int.toNat_natCast] at kk
  have hn1 : 0 < n := by omega
  obtain ⟨d1, u1, f1⟩ := g_under (P := P) (w := w) hG h1
  rw [h1d] at f1; obtain rfl := td_slice f1
  obtain ⟨d2, u2, f2⟩ := g_under (P := P) (w := w) hG h2
  rw [h2d] at f2; obtain rfl := td_int f2
  have us : ∀ w, (sizeOf e).run P w = .ok te.size w := fun w => g_size hG he
  obtain ⟨info, hib, his, ui⟩ : ∃ info : TypeInfo, info.bytes = te.bytes ∧ info.size = te.size ∧ ∀ w, (typeInfo e).run P w = .ok info w := by
    obtain ⟨i0, d0, k1, k2, k3, k4, k5, _⟩ := hG e te he
    exact ⟨i0, k5, k4, fun w => by simp [typeInfo, k1]⟩
  have rx := evalO_rel hr hx
  have ry := evalO_rel hr hy
  generalize hvx : av.eval x = vx at rx
  generalize hvy : av.eval y = vy at ry
  cases rx; cases ry
  obtain ⟨z, hz, hz1, _, _⟩ := zeros_rel hG he hsz.1 n
  have hw64 : IntKind.i64.wrap (n : Int) = n := i64_in (by omega) (by omega)
  have hq1 : ¬ ((n : Int) < 0) := by omega
  have hq2 : ¬ (281474976710656 < (n : Int) * (info.bytes : Int)) := by
    rw [hib]
    have : (n : Int) * (te.bytes : Int) ≤ 4294967296 * 4096 := by
      have h3 : n * te.bytes ≤ 4294967296 * 4096 := Nat.mul_le_mul (by omega) hby
      rw [← Int.natCast_mul]; omega
    omega
  have hq3 : ¬ (281474976710656 < Builtin.nextslicecap n 0 * info.bytes) := by
    have h1 := nextslicecap_le n 0 hn1
    have h2 : Builtin.nextslicecap n 0 * info.bytes ≤ 8589935360 * 4096 := Nat.mul_le_mul (by omega) (by omega)
    omega
  have hq4 : ¬ (9223372036854775807 < (n : Int)) := by omega
  have hfo : (Question.appendCap n 0 e).forced = false := rfl
  have hn0 : ¬ (n = 0) := by omega
  have hne : ¬ (n = 0 ∨ te.size = 0) := by omega
  generalize hcap : (Question.appendCap n 0 e).cut (w.tape w.drawn (.appendCap n 0 e)) = cap
  have hnc : n ≤ cap := by rw [← hcap]; simp only [Question.cut]; omega
  have hrun : (execOp av.eval o).run P w = .ok (.value (.slice (some ⟨w.heap.size, 0, none⟩) n cap)) (w.drew.alloc (.cells (Builtin.zeroCells z.cells cap) e)) := by
    have hzc : Builtin.zeroCells z.cells n ++ Builtin.zeroCells z.cells (cap - n) = Builtin.zeroCells z.cells cap := by
      rw [zeroCells_append]; congr 1; omega
    simp [execOp, hop, resolve, invoke, builtin, Builtin.append_, u1, u2, hvx, hvy, asInt, asIntOf, ui, hw64, hq1, hq2, hq3, hq4, us, hn0, hne, hz, hfo, hcap, Builtin.firstCells, newRow, hzc]
    have hpos : 0 < n * te.size := Nat.mul_pos hn1 hsz.1
    intro h00; omega
  obtain ⟨z', hz', hz1', hz2', hz3'⟩ := zeros_rel hG he hsz.1 cap
  have hzz : z' = z := by have := (hz' w).symm.trans (hz w); injection this
  subst hzz
  have hcs : (Builtin.zeroCells z'.cells cap).size = cap * te.size := by rw [zeroCells_size, hz1]
  have ev1 : Ev w σ w.drew σ := ev_same rfl rfl rfl rfl
  have hi1 : Inv w.drew σ := hi.ev_heap rfl ev1
  obtain ⟨ev2, hi'⟩ := alloc_step (σ1 := σ.setO w.heap.size (some (.cells (zerosT te cap)))) hi1 (Builtin.zeroCells z'.cells cap) e rfl (fun k hk => objs_setO_ne _ hk) (fun k hk => rfl)
    (fun ev o ho => by
      have ho' : (σ.setO w.heap.size (some (.cells (zerosT te cap)))).objs w.heap.size = some o := ho
      rw [objs_setO_same] at ho'; injection ho' with ho'; subst ho'
      refine ⟨_, rfl, by rw [hz2', hcs]; exact Nat.le_refl _, fun j c u hc hu => hz3' _ _ j c u hc ?_⟩
      rw [← hu]; unfold Builtin.zeroCells; rw [hz1])
    (fun f t hf => by
      have : σ.spare w.heap.size = some (f, t) := hf
      rw [hi.fresh_room] at this; cases this)
  have ev := ev1.trans ev2
  unfold Oper.wp
  rw [hrun]
  refine hnx _ _ _ _ ev hi' ((hr.ev ev).put hd (.aref _ _ _ _ _ _ hnc (fun q hq => ?_))) (kk w.heap.size cap hnc hi.fresh_obj hi.fresh_room)
  injection hq with hq; subst hq; exact ⟨rfl, by simp⟩

/-- An array that is written no more, of which nothing is taken yet: all of it is room. -/
theorem aref_room {b cap : Nat} {z : List T} (hb1 : σ.objs b = none) (hb2 : σ.spare b = none) (hz : z.length = cap) : GStep (σ.setO b (some (.cells z))) (σ.sp (b, 0, cap)) := by
  intro w hi
  have hob : (σ.setO b (some (.cells z))).objs b = some (.cells z) := objs_setO_same _ _
  obtain ⟨h1, c, e, h2, h3, h4⟩ := hi.obj b z hob
  have hO : ∀ x, x ≠ b → (σ.sp (b, 0, cap)).objs x = (σ.setO b (some (.cells z))).objs x := fun x hx => by rw [sp_objs, objs_setO_ne _ hx]
  have hR : ∀ x, x ≠ b → (σ.sp (b, 0, cap)).spare x = (σ.setO b (some (.cells z))).spare x := fun x hx => by rw [sp_spare_ne _ hx]; rfl
  have ev : Ev w (σ.setO b (some (.cells z))) w (σ.sp (b, 0, cap)) := by
    refine ⟨sp_base _, .refl _ _, fun x o hx => ⟨?_, rfl⟩⟩
    have hne : x ≠ b := by intro e; subst e; have := hx.2.1; rw [hob] at this; cases this
    exact ⟨hx.1, by rw [hO x hne]; exact hx.2.1, by rw [hR x hne]; exact hx.2.2⟩
  refine ⟨inv_at hi ev h1 (fun _ _ _ => rfl) h2 hO hR (fun o ho => ?_) (fun f t hft => ?_), ev⟩
  · rw [sp_objs, hb1] at ho; cases ho
  · by_cases hc : (0 : Nat) = cap
    · rw [sp_eq (by exact hc), hb2] at hft; cases hft
    · rw [sp_ne (by exact hc)] at hft
      have : (σ.setR b (some (0, cap))).spare b = some (f, t) := hft
      rw [spare_setR_same] at this
      injection this with this
      injection this with e1 e2
      subst e1; subst e2
      exact ⟨Nat.zero_le _, by omega, fun ts hts => by rw [sp_objs, hb1] at hts; cases hts⟩

theorem room_rel {v : Value} {b cap n : Nat} (r : Rel w σ v (.aref 1 (some (b, 0, cap)) b 0 0)) (hn : n = cap) : Rel w1 σ1 v (.sl 1 (some (b, 0, n)) []) := by
  cases r with
  | aref b o n' cap' sz own hc ho =>
    obtain ⟨_, h2⟩ := ho _ rfl
    refine .sl b 0 cap' 1 _ [] 0 rfl (Nat.zero_le _) (fun q hq => .inl ?_) (fun i x hx => by simp at hx) (fun i x j c hx => by simp at hx) (fun i x j c v hx => by simp at hx)
    injection hq with hq; subst hq
    simp only at h2
    rw [hn]; simp; omega
end
end Go.Tr
