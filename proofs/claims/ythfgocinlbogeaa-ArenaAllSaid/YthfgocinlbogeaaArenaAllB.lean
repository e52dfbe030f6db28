/- Part of the proof of the law ArenaAll: the texts TsH, TsG, TsK, TsP, TsW, TsI, TsL, TsR. No conditions. -/
import Derived.Test.YthfgocinlbogeaaArenaAllA
import Derived.ProofKit
import Derived.OpenShut
import Derived.ChangeOld
import Derived.SizedLaws
import Derived.Orders
set_option linter.unusedSimpArgs false
set_option linter.unusedVariables false
set_option linter.unusedVariables false
set_option linter.unusedSimpArgs false
namespace Go.Ts

theorem mapM_some {α β : Type} {f : α → Option β} : ∀ {l : List α} {r : List β}, l.mapM f = some r → r.length = l.length ∧ ∀ (i : Nat) (x : α), l[i]? = some x → ∃ y, f x = some y ∧ r[i]? = some y
  | [], r, h => by simp at h; subst h; exact ⟨rfl, fun i x hx => by simp at hx⟩
  | a :: l, r, h => by
    simp only [List.mapM_cons, Option.pure_def, Option.bind_eq_bind, Option.bind_eq_some_iff] at h
    obtain ⟨y, hy, ys, hys, h⟩ := h
    injection h with h; subst h
    obtain ⟨h1, h2⟩ := mapM_some hys
    refine ⟨by simp [h1], fun i x hx => ?_⟩
    cases i with
    | zero => simp at hx; subst hx; exact ⟨y, hy, rfl⟩
    | succ i => simpa using h2 i x (by simpa using hx)

def tileB (G : Nat → Option TI) : Nat → List (Nat × Nat) → Nat → Bool
  | acc, [], size => Nat.beq acc size
  | acc, (off, ft) :: r, size => Nat.beq off acc && match sizeT G ft with
    | some n => tileB G (acc + n) r size
    | none => false

def okTy (G : Nat → Option TI) : Nat → Nat → Bool
  | 0, _ => false
  | n + 1, t => match G t with
    | some i => match i.d with
      | .bool | .int _ | .str => true
      | .slice e => okTy G n e && (match G e with | some ie => Nat.blt 0 ie.size && Nat.blt 0 ie.bytes | none => false)
      | .struct fs => tileB G 0 fs i.size && fs.all fun f => okTy G n f.2
      | _ => false
    | none => false

def bigLen : Nat := 140737488351232

def TyFs (R : Nat → List T → Prop) : List (Nat × Nat) → List T → Prop
  | [], cs => cs = []
  | (_, ft) :: r, cs => ∃ p q, cs = p ++ q ∧ R ft p ∧ TyFs R r q
def AggOK (G : Nat → Option TI) (e : Nat) (x : T) : Prop := ∀ ie, G e = some ie → (ie.d.agg = true → ∃ c, x = .agg c) ∧ (ie.d.agg = false → x.cells = [x])
def Ty (G : Nat → Option TI) : Nat → Nat → List T → Prop
  | 0, _, _ => False
  | n + 1, t, cs => match G t with
    | some i => match i.d with
      | .bool => ∃ b, cs = [.bool b]
      | .int k => ∃ v, cs = [.int k v] ∧ (Lit.int k v).wf = true
      | .str => ∃ s, cs = [.str s] ∧ s.length ≤ bigLen
      | .slice e => ∃ xs, cs = [.sl ((sizeT G e).getD 0) .no xs] ∧ xs.length ≤ bigLen ∧ ∀ x ∈ xs, Ty G n e x.cells ∧ AggOK G e x
      | .struct fs => TyFs (Ty G n) fs cs
      | _ => False
    | none => False

def σ0 : St := ⟨[], [], fun _ _ => False, none⟩
def μ0 : Gh := ⟨fun _ => none, fun _ => none⟩
theorem inv0 (w : World) : Inv w μ0 σ0 := ⟨fun i ts h => absurd h List.not_mem_nil, fun i es h => absurd h List.not_mem_nil, fun n m i j x y b p q h => by simp [σ0] at h, fun k h => absurd h List.not_mem_nil, fun n m k l b f t g u h => by simp [σ0] at h,
  ⟨0, fun i _ => ⟨rfl, rfl⟩, fun m h => by simp [σ0] at h⟩, fun b o h => h.elim, fun i ob b p h => absurd h List.not_mem_nil⟩
theorem imm0 {w : World} {b o : Nat} (h : b < w.heap.size) : Imm w μ0 σ0 b o := ⟨h, fun h => h, fun i ob p h => absurd h List.not_mem_nil, fun k f t h => absurd h List.not_mem_nil⟩
theorem cell_lt {w : World} {a : Addr} {v : Value} (h : w.cell? a = some v) : a.block < w.heap.size ∧ a = ⟨a.block, a.off, none⟩ := by
  unfold World.cell? at h
  split at h
  · rename_i c t f hc
    refine ⟨(Array.getElem?_eq_some_iff.1 hc).1, ?_⟩
    split at h
    · cases h
    · rename_i hs
      obtain ⟨b, o, s⟩ := a
      cases s with
      | none => rfl
      | some x => simp at hs
  · cases h

section
variable {P : Program} {G : Nat → Option TI} {w : World} {H : Type} {enc : TypeId × Value → H}

def CRel (w : World) (cs : List Value) (ts : List T) : Prop := ts.length = cs.length ∧ ∀ (j : Nat) (c : T) (v : Value), ts[j]? = some c → cs[j]? = some v → Rel w μ0 σ0 v c

theorem CRel.append {cs cs' : List Value} {ts ts' : List T} (h : CRel w cs ts) (k : CRel w cs' ts') : CRel w (cs ++ cs') (ts ++ ts') := by
  refine ⟨by simp [h.1, k.1], fun j c v hc hv => ?_⟩
  rcases Nat.lt_or_ge j ts.length with hj | hj
  · rw [List.getElem?_append_left hj] at hc
    rw [List.getElem?_append_left (by rw [← h.1]; exact hj)] at hv
    exact h.2 j c v hc hv
  · rw [List.getElem?_append_right hj] at hc
    rw [List.getElem?_append_right (by rw [← h.1]; exact hj), ← h.1] at hv
    exact k.2 _ c v hc hv
theorem CRel.one {v : Value} {t : T} (h : Rel w μ0 σ0 v t) : CRel w [v] [t] := by
  refine ⟨rfl, fun j c u hc hu => ?_⟩
  cases j with
  | zero => simp at hc hu; subst hc; subst hu; exact h
  | succ j => simp at hc

theorem under_of (hG : Fits P G) {t : Nat} {i : TI} (h : G t = some i) : ∃ d, P.underlying t = some d ∧ tdOf d = i.d ∧ P.cellsOf t = i.size ∧ P.bytesOf t = i.bytes := by
  obtain ⟨info, d, h1, h2, h3, h4, h5, _⟩ := hG t i h
  exact ⟨d, h2, h3, by simp [Program.cellsOf, h1, h4], by simp [Program.bytesOf, h1, h5]⟩

theorem tile_fields (hG : Fits P G) {f : Field → Option (DataW H × List MemPlace)} {n : Nat}
    (cs : List Value) : ∀ (fs : List Field) (acc size : Nat) (xs : List (DataW H × List MemPlace)), tileB G acc (fs.map fun f => (f.offset, f.type)) size = true → cs.length = size → fs.mapM f = some xs →
    (∀ (g : Field), g ∈ fs → ∀ x, f g = some x → x ∈ xs → ∃ ts, CRel w ((cs.drop g.offset).take (P.cellsOf g.type)) ts ∧ Ty G n g.type ts) →
    acc ≤ size ∧ ∃ ts, CRel w (cs.drop acc) ts ∧ TyFs (Ty G n) (fs.map fun f => (f.offset, f.type)) ts
  | [], acc, size, xs, ht, hl, hm, _ => by
    simp only [List.map_nil, tileB] at ht
    have := Nat.eq_of_beq_eq_true ht
    subst this
    exact ⟨Nat.le_refl _, [], ⟨by simp [hl], fun j c v hc => by simp at hc⟩, rfl⟩
  | g :: fs, acc, size, xs, ht, hl, hm, hih => by
    simp only [List.map_cons, tileB, Bool.and_eq_true] at ht
    obtain ⟨h1, h2⟩ := ht
    have h1 := Nat.eq_of_beq_eq_true h1
    cases hs : sizeT G g.type with
    | none => simp [hs] at h2
    | some m =>
      simp only [hs] at h2
      obtain ⟨i, hi, him⟩ := sizeT_some hs
      obtain ⟨d, _, _, hcell, _⟩ := under_of hG hi
      simp only [List.mapM_cons, Option.pure_def, Option.bind_eq_bind, Option.bind_eq_some_iff] at hm
      obtain ⟨y, hy, ys, hys, hm⟩ := hm
      injection hm with hm; subst hm
      obtain ⟨hle, ts2, k1, k2⟩ := tile_fields hG cs fs (acc + m) size ys h2 hl hys (fun g' hg' x hx hxm => hih g' (List.mem_cons_of_mem _ hg') x hx (List.mem_cons_of_mem _ hxm))
      obtain ⟨ts1, j1, j2⟩ := hih g List.mem_cons_self y hy List.mem_cons_self
      refine ⟨by omega, ts1 ++ ts2, ?_, ts1, ts2, rfl, j2, k2⟩
      have hd : cs.drop acc = (cs.drop g.offset).take (P.cellsOf g.type) ++ cs.drop (acc + m) := by
        rw [h1, hcell, him, ← List.drop_drop, List.take_append_drop]
      rw [hd]
      exact j1.append k1

theorem exists_list {R : Nat → T → Prop} : ∀ n, (∀ i, i < n → ∃ x, R i x) → ∃ xs : List T, xs.length = n ∧ ∀ (i : Nat) (x : T), xs[i]? = some x → R i x
  | 0, _ => ⟨[], rfl, fun i x h => by simp at h⟩
  | n + 1, h => by
    obtain ⟨xs, h1, h2⟩ := exists_list n (fun i hi => h i (by omega))
    obtain ⟨x, hx⟩ := h n (by omega)
    refine ⟨xs ++ [x], by simp [h1], fun i y hy => ?_⟩
    rcases Nat.lt_or_ge i xs.length with hi | hi
    · rw [List.getElem?_append_left hi] at hy; exact h2 i y hy
    · rw [List.getElem?_append_right hi] at hy
      cases hk : i - xs.length with
      | zero => rw [hk] at hy; simp at hy; subst hy; rw [show i = n by omega]; exact hx
      | succ k => rw [hk] at hy; simp at hy

theorem ty_nonagg {n e : Nat} {ts : List T} {ie : TI} (h : Ty G n e ts) (he : G e = some ie) (ha : ie.d.agg = false) : ∃ c, ts = [c] ∧ c.cells = [c] := by
  cases n with
  | zero => exact h.elim
  | succ n =>
    simp only [Ty, he] at h
    cases hd : ie.d <;> simp only [hd] at h <;> first | (exact h.elim) | skip
    · obtain ⟨b, rfl⟩ := h; exact ⟨_, rfl, rfl⟩
    · obtain ⟨b, rfl, _⟩ := h; exact ⟨_, rfl, rfl⟩
    · obtain ⟨b, rfl, _⟩ := h; exact ⟨_, rfl, rfl⟩
    · obtain ⟨b, rfl, _⟩ := h; exact ⟨_, rfl, rfl⟩
    · rw [hd] at ha; cases ha

theorem weightsAll_mem {e : Nat} {d : DataW H} {x : Nat} : ∀ {l : List (DataW H)}, d ∈ l → x ∈ d.weights P e → x ∈ DataW.weightsAll P e l
  | [], h, _ => by cases h
  | d' :: l, h, hx => by
    simp only [DataW.weightsAll, List.mem_append]
    rcases List.mem_cons.1 h with rfl | h
    · exact .inl hx
    · exact .inr (weightsAll_mem h hx)

theorem cells?_some {a : Addr} {n : Nat} {cl : List Value} (h : w.cells? 0 a n = some cl) : cl.length = n ∧ ∀ j, j < n → ∃ v, w.cell? (a.add j) = some v ∧ cl[j]? = some v := by
  unfold World.cells? at h
  rw [if_pos (Nat.zero_le _)] at h
  obtain ⟨h1, h2⟩ := mapM_some h
  exact ⟨by simpa using h1, fun j hj => h2 j j (by simp [hj])⟩

theorem trod_rel (hG : Fits P G) : ∀ (fuel n t : Nat) (cs : List Value) (d : DataW H) (ps : List MemPlace), okTy G n t = true → DataW.trod enc P w 0 (fun _ => true) true fuel t cs = some (d, ps) →
    (∀ x ∈ d.weights P t, x ≤ reachBytes) → ∃ ts, CRel w cs ts ∧ Ty G n t ts
  | 0, n, t, cs, d, ps, _, h, _ => by simp [DataW.trod] at h
  | fuel + 1, 0, t, cs, d, ps, ho, _, _ => by simp [okTy] at ho
  | fuel + 1, n + 1, t, cs, d, ps, ho, h, hw => by
    simp only [okTy] at ho
    cases hi : G t with
    | none => simp [hi] at ho
    | some i =>
      simp only [hi] at ho
      obtain ⟨ud, hu, hud, hcells, hbytes⟩ := under_of hG hi
      simp only [Ty, hi]
      cases hd : i.d with
      | bool =>
        rw [hd] at hud; obtain rfl := td_bool hud
        rcases cs with _ | ⟨v, _ | ⟨v2, r⟩⟩
        · simp [DataW.trod, hu] at h
        · cases v <;> simp [DataW.trod, hu] at h
          exact ⟨[_], .one (.bool _), _, rfl⟩
        · cases v <;> simp [DataW.trod, hu] at h
      | int k =>
        rw [hd] at hud; obtain rfl := td_int hud
        rcases cs with _ | ⟨v, _ | ⟨v2, r⟩⟩
        · simp [DataW.trod, hu] at h
        · cases v <;> simp [DataW.trod, hu] at h
          obtain ⟨⟨rfl, h2⟩, _⟩ := h
          exact ⟨[_], .one (.int _ _), _, rfl, h2⟩
        · cases v <;> simp [DataW.trod, hu] at h
      | str =>
        rw [hd] at hud; obtain rfl := td_str hud
        rcases cs with _ | ⟨v, _ | ⟨v2, r⟩⟩
        · simp [DataW.trod, hu] at h
        · cases v <;> simp [DataW.trod, hu] at h
          rename_i s
          obtain ⟨h2, rfl, _⟩ := h
          have := hw s.data.toList.length (by simp [DataW.weights])
          exact ⟨[_], .one (.str s), _, rfl, by unfold reachBytes at this; unfold bigLen; omega⟩
        · cases v <;> simp [DataW.trod, hu] at h
      | struct fs =>
        rw [hd] at hud ho
        simp only [Bool.and_eq_true] at ho
        obtain ⟨fa, rfl, hfs⟩ := td_struct hud
        subst hfs
        simp only [DataW.trod, hu] at h
        split at h
        · rename_i hlen
          rw [hcells] at hlen
          simp only [Option.map_eq_some_iff] at h
          obtain ⟨xs, hxs, hdd⟩ := h
          injection hdd with hdd _; subst hdd
          have hmm := mapM_some hxs
          obtain ⟨_, ts, k1, k2⟩ := tile_fields (w := w) (n := n) hG cs fa.toList 0 i.size xs ho.1 hlen hxs (fun g hg x hx hxm => by
            refine trod_rel hG fuel n g.type _ x.1 x.2 ?_ hx ?_
            · have := List.all_eq_true.1 ho.2 (g.offset, g.type) (List.mem_map.2 ⟨g, hg, rfl⟩)
              exact this
            · intro y hy
              refine hw y ?_
              simp only [DataW.weights, hu]
              obtain ⟨j, hj, hjx⟩ := List.getElem_of_mem hg
              obtain ⟨x', hx', hjx'⟩ := hmm.2 j g (by rw [List.getElem?_eq_getElem hj, hjx])
              rw [hx] at hx'; injection hx' with hx'; subst hx'
              exact DataW.weights_mem_each (j := j) (t := g.type) (d := x.1) (by simp [List.getElem?_eq_getElem hj, hjx]) (by simp [hjx']) y hy)
          exact ⟨ts, by simpa using k1, k2⟩
        · cases h
      | slice e =>
        rw [hd] at hud ho
        simp only [Bool.and_eq_true] at ho
        obtain ⟨ho1, ho2⟩ := ho
        obtain rfl := A0 hud
        cases hie : G e with
        | none => simp [hie] at ho2
        | some ie =>
          simp only [hie, Bool.and_eq_true, Nat.blt_eq] at ho2
          obtain ⟨d2, _, _, hce, hbe⟩ := under_of hG hie
          have hsz : (sizeT G e).getD 0 = ie.size := by simp [sizeT, hie]
          simp only [hsz]
          rcases cs with _ | ⟨v, _ | ⟨v2, r⟩⟩
          · simp [DataW.trod, hu] at h
          · cases v with
            | slice a len cap =>
              cases a with
              | none =>
                cases len with
                | zero => cases cap with
                  | zero => exact ⟨[.sl ie.size .no []], .one (.slnil _ _ trivial), [], rfl, by simp [bigLen], fun x hx => by cases hx⟩
                  | succ c => simp [DataW.trod, hu] at h
                | succ l => simp [DataW.trod, hu] at h
              | some a =>
                simp only [DataW.trod, hu] at h
                split at h
                · rename_i hcond
                  simp only [Option.bind_eq_some_iff, Option.map_eq_some_iff, if_true] at h
                  obtain ⟨elems, hel, rest, hre, hdd⟩ := h
                  injection hdd with hdd _; subst hdd
                  obtain ⟨m1, m2⟩ := mapM_some hel
                  obtain ⟨r1, r2⟩ := mapM_some hre
                  simp only [List.length_range] at m1 r1
                  have hel' : ∀ i, i < len → ∃ y cl, elems[i]? = some y ∧ w.cells? 0 (a.add (i * ie.size)) ie.size = some cl ∧ DataW.trod enc P w 0 (fun _ => true) true fuel e cl = some y := by
                    intro i hi
                    obtain ⟨y, hy1, hy2⟩ := m2 i i (by simp [hi])
                    rw [hce] at hy1
                    obtain ⟨cl, hcl, hy1⟩ := Option.bind_eq_some_iff.1 hy1
                    exact ⟨y, cl, hy2, hcl, hy1⟩
                  have hre' : ∀ j, j < cap - len → ∃ cl, w.cells? 0 (a.add ((len + j) * ie.size)) ie.size = some cl := by
                    intro i hi
                    obtain ⟨y, hy1, hy2⟩ := r2 i i (by simp [hi])
                    rw [hce] at hy1
                    obtain ⟨cl, hcl, hy1⟩ := Option.bind_eq_some_iff.1 hy1
                    exact ⟨cl, hcl⟩
                  have hlen : len ≤ bigLen := by
                    have h1 := hw _ (by simp only [DataW.weights, hu]; exact List.mem_cons_self)
                    simp only [List.length_map, m1, hbe] at h1
                    have h2 : len * 1 ≤ (len + rest.length) * ie.bytes := Nat.mul_le_mul (by omega) ho2.2
                    unfold reachBytes at h1; unfold bigLen; omega
                  by_cases hcap : cap = 0
                  · have h0 : len = 0 := by omega
                    subst hcap; subst h0
                    exact ⟨[.sl ie.size .no []], .one (.slz a _ _ trivial), [], rfl, by simp [bigLen], fun x hx => by cases hx⟩
                  · have ha : ∃ b p, a = ⟨b, p, none⟩ := by
                      have hc0 : ∃ v, w.cell? a = some v := by
                        by_cases hl0 : len = 0
                        · obtain ⟨cl, hcl⟩ := hre' 0 (by omega)
                          obtain ⟨v, hv, _⟩ := (cells?_some hcl).2 0 ho2.1
                          rw [hl0] at hv
                          simp [Addr.add] at hv
                          exact ⟨v, hv⟩
                        · obtain ⟨y, cl, _, hcl, _⟩ := hel' 0 (by omega)
                          obtain ⟨v, hv, _⟩ := (cells?_some hcl).2 0 ho2.1
                          simp [Addr.add] at hv
                          exact ⟨v, hv⟩
                      obtain ⟨v, hv⟩ := hc0
                      exact ⟨a.block, a.off, (cell_lt hv).2⟩
                    obtain ⟨b, p, rfl⟩ := ha
                    obtain ⟨xs, hx1, hx2⟩ := exists_list (R := fun i x => x.cells.length = ie.size ∧ (∀ (j : Nat) (c : T), x.cells[j]? = some c → ∃ v, w.cell? ⟨b, p + i * ie.size + j, none⟩ = some v ∧ Rel w μ0 σ0 v c) ∧ Ty G n e x.cells ∧ AggOK G e x) len (fun i hi => by
                      obtain ⟨y, cl, hy, hcl, htr⟩ := hel' i hi
                      obtain ⟨c1, c2⟩ := cells?_some hcl
                      obtain ⟨ts, k1, k2⟩ := trod_rel hG fuel n e cl y.1 y.2 ho1 htr (fun q hq => hw q (by
                        simp only [DataW.weights, hu, List.mem_cons, List.mem_append]
                        exact .inr (.inl (weightsAll_mem (List.mem_map.2 ⟨y, List.mem_of_getElem? hy, rfl⟩) hq))))
                      have fin : ∀ x : T, x.cells = ts → AggOK G e x → ∃ x : T, x.cells.length = ie.size ∧ (∀ (j : Nat) (c : T), x.cells[j]? = some c → ∃ v, w.cell? ⟨b, p + i * ie.size + j, none⟩ = some v ∧ Rel w μ0 σ0 v c) ∧ Ty G n e x.cells ∧ AggOK G e x := by
                        intro x hx hagg
                        refine ⟨x, by rw [hx, k1.1, c1], fun j c hj => ?_, by rw [hx]; exact k2, hagg⟩
                        rw [hx] at hj
                        have hjl : j < ie.size := by
                          rcases Nat.lt_or_ge j ts.length with h | h
                          · rw [k1.1, c1] at h; exact h
                          · rw [List.getElem?_eq_none h] at hj; cases hj
                        obtain ⟨v, hv1, hv2⟩ := c2 j hjl
                        rw [add_at, add_at] at hv1
                        exact ⟨v, hv1, k1.2 j c v hj hv2⟩
                      cases hag : ie.d.agg with
                      | true => exact fin (.agg ts) rfl (fun ie' h1 => ⟨fun _ => ⟨ts, rfl⟩, fun h2 => by rw [hie] at h1; injection h1 with h1; subst h1; rw [hag] at h2; cases h2⟩)
                      | false =>
                        obtain ⟨c, rfl, hc⟩ := ty_nonagg k2 hie hag
                        exact fin c hc (fun ie' h1 => ⟨fun h2 => (by rw [hie] at h1; injection h1 with h1; subst h1; rw [hag] at h2; cases h2), fun _ => hc⟩))
                    refine ⟨[.sl ie.size .no xs], .one (.sl b p cap ie.size .no xs len hx1 hcond.2.1 trivial (fun i x hx => (hx2 i x hx).1) (fun i x j c hx hj => ?_) (fun i x j c v hx hj hv => ?_)), xs, rfl, by omega, fun x hx => ?_⟩
                    · obtain ⟨v, hv, _⟩ := (hx2 i x hx).2.1 j c hj
                      exact ⟨imm0 (cell_lt hv).1, v, hv⟩
                    · obtain ⟨u, hu', hr⟩ := (hx2 i x hx).2.1 j c hj
                      rw [hv] at hu'; injection hu' with hu'; exact hu' ▸ hr
                    · obtain ⟨i, hi, rfl⟩ := List.getElem_of_mem hx
                      exact ⟨(hx2 i _ (List.getElem?_eq_getElem hi)).2.2.1, (hx2 i _ (List.getElem?_eq_getElem hi)).2.2.2⟩
                · cases h
            | _ => simp [DataW.trod, hu] at h
          · cases v with
            | slice a _ _ => cases a <;> simp [DataW.trod, hu] at h
            | _ => simp [DataW.trod, hu] at h
      | _ => rw [hd] at ho; cases ho

def ArgTy (G : Nat → Option TI) (n t : Nat) (x : T) : Prop := Ty G n t x.cells ∧ AggOK G t x

theorem arg_rel (hG : Fits P G) {n t base : Nat} {v : Value} {d : DataW H} {ps : List MemPlace} (ho : okTy G n t = true) (hv : Value.okWide P w .any base t v) (h : DataW.Trod enc P w 0 (fun _ => true) true t v d ps)
    (hw : ∀ x ∈ d.weights P t, x ≤ reachBytes) : ∃ x, Rel w μ0 σ0 v x ∧ ArgTy G n t x := by
  obtain ⟨fuel, h⟩ := h
  obtain ⟨ts, h1, h2⟩ := trod_rel hG fuel n t _ d ps ho h hw
  cases n with
  | zero => exact h2.elim
  | succ n =>
    have ho2 := ho
    simp only [okTy] at ho2
    cases hi : G t with
    | none => simp [hi] at ho2
    | some i =>
      simp only [hi] at ho2
      obtain ⟨ud, hu, hud, hcells, hbytes⟩ := under_of hG hi
      cases ha : i.d.agg with
      | true =>
        have : ∃ cs, v = .agg cs := by
          unfold Value.okWide at hv
          cases hd : i.d <;> rw [hd] at ha ho2 <;> first | (cases ha; done) | skip
          · cases ho2
          · rw [hd] at hud
            obtain ⟨f, rfl, _⟩ := td_struct hud
            simp only [hu] at hv
            obtain ⟨cs, rfl, _⟩ := hv
            exact ⟨cs, rfl⟩
        obtain ⟨cs, rfl⟩ := this
        refine ⟨.agg ts, .agg _ _ (by have := h1.1; simp [Value.cells] at this; omega) (fun j c v hc hv => h1.2 j c v hc (by simpa [Value.cells] using hv)), h2, fun i' h3 => ⟨fun _ => ⟨ts, rfl⟩, fun h4 => by rw [hi] at h3; injection h3 with h3; subst h3; rw [ha] at h4; cases h4⟩⟩
      | false =>
        obtain ⟨c, rfl, hc⟩ := ty_nonagg h2 hi ha
        have hv1 : v.cells = #[v] := by
          cases v with
          | agg cs =>
            exfalso
            unfold Value.okWide Cell.okWide at hv
            cases hd : i.d <;> rw [hd] at ha ho2 hud <;> first | (cases ha; done) | (cases ho2; done) | skip
            · obtain rfl := td_bool hud; simp [hu, Cell.ok] at hv
            · obtain rfl := td_str hud; simp [hu, Cell.ok] at hv
            · obtain rfl := td_int hud; simp [hu, Cell.ok] at hv
            · obtain rfl := A0 hud; simp [hu, Cell.ok] at hv
          | _ => rfl
        rw [hv1] at h1
        refine ⟨c, h1.2 0 c v rfl rfl, by rw [hc]; exact h2, fun i' h3 => ⟨fun h4 => ?_, fun _ => hc⟩⟩
        rw [hi] at h3; injection h3 with h3; subst h3; rw [ha] at h4; cases h4

theorem law_calls {f : FuncId} {xs : List T} {vs : Array Value} (hl : vs.size = xs.length) (hr : ∀ (j : Nat) (x : T) (v : Value), xs[j]? = some x → vs[j]? = some v → Rel w μ0 σ0 v x)
    (h : ACalls P f xs σ0 (fun r _ => r = .bool true)) : Calls P f vs w fun e w' => e = .returned (.bool true) ∧ Go.RowKit.Below w.heap.size w w' := by
  refine (h.2 vs w μ0 (inv0 w) hl hr).mono ?_
  rintro e w' ⟨v, t, σ', μ', rfl, ev, hi, r, rfl⟩
  cases r
  refine ⟨rfl, ev.below.os, ev.below.tape, ev.below.output, ev.below.size, fun k hk => (ev.live k hk ?_).2⟩
  rintro (⟨i, ob, p, h, _⟩ | ⟨k, f, t, h, _⟩)
  · exact absurd h List.not_mem_nil
  · exact absurd h List.not_mem_nil
end
end Go.Ts
set_option linter.unusedVariables false
set_option linter.unusedSimpArgs false
namespace Go.Ts
section
variable {P : Program} {G : Nat → Option TI} {σ : St} {N : Nat} {a : Env} {Q : Exit → Env → St → Prop}

theorem op_q (hG : Fits P G) {K : Env → St → Prop} {o : Oper} {t : T} (he : Av G (fun _ => none) (Ad a) o.op = some t) {d : Tmp} (hdd : o.dst = some d) (hd : Ai N (some d) = true)
    (k : K (put a (some d) t) σ) : AOp P N o a σ K := by
  generalize some d = dd at *
  subst hdd
  exact (aop_quiet0 hG he hd k)

theorem op_q' (hG : Fits P G) {K : Env → St → Prop} {o : Oper} {t : T} (u : T) (he : Av G (fun _ => none) (Ad a) o.op = some t) (hu : t = u) {d : Tmp} (hdd : o.dst = some d) (hd : Ai N (some d) = true)
    (k : K (put a (some d) u) σ) : AOp P N o a σ K := by
  generalize some d = dd at *
  subst hdd
  exact (aop_quiet0 hG (hu ▸ he) hd k)

def AL (P : Program) (N : Nat) (ops : Array Oper) (Q : Exit → Env → St → Prop) (k : Nat) (os : List Oper) (a : Env) (σ : St) : Prop :=
  ops.toList.drop k = os → AOps P N ops Q (List.range' k os.length) a σ

theorem aw_regL {id : Nat} {os : List Oper} (h : AL P N ⟨os⟩ Q 0 os a σ) : AW P N (.region id ⟨os⟩ false) Q a σ := by
  refine aw_region ?_
  have := h (by simp)
  rwa [List.range_eq_range']
theorem al_nil {ops : Array Oper} {k : Nat} (h : Q .normal a σ) : AL P N ops Q k [] a σ := fun _ => aops_nil h
theorem al_get {ops : Array Oper} {k : Nat} {o : Oper} {os : List Oper} (h : ops.toList.drop k = o :: os) : ops[k]? = some o ∧ ops.toList.drop (k + 1) = os := by
  constructor
  · have := congrArg (fun l => l[0]?) h
    simpa using this
  · rw [← List.drop_drop, h]; rfl
theorem Ac {ops : Array Oper} {k : Nat} {o : Oper} {os : List Oper} (hg : Bb ops a o = some true) (h : AOp P N o a σ (fun a' σ' => AL P N ops Q (k + 1) os a' σ')) : AL P N ops Q k (o :: os) a σ := by
  intro hd
  obtain ⟨h1, h2⟩ := al_get hd
  rw [List.length_cons, List.range'_succ]
  refine aops_cons h1 hg ?_
  intro av w μ hi hr next Qc hn
  exact h av w μ hi hr next Qc fun av' w' μ' a' σ' k1 k2 k3 k4 => hn av' w' μ' a' σ' k1 k2 k3 (k4 h2)
theorem al_s {ops : Array Oper} {k : Nat} {o : Oper} {os : List Oper} (hg : Bb ops a o = some false) {d : Tmp} (hdd : o.dst = some d) (hd : Ai N (some d) = true) (h : AL P N ops Q (k + 1) os (put a (some d) (.tup [])) σ) : AL P N ops Q k (o :: os) a σ := by
  generalize some d = dd at *
  subst hdd
  intro hdr
  obtain ⟨h1, h2⟩ := al_get hdr
  rw [List.length_cons, List.range'_succ]
  exact aops_skip h1 hg hd (h h2)

theorem op_call {K : Env → St → Prop} {o : Oper} {f : Operand} {args : Array Operand} {tys : Array TypeId} {g : FuncId} {caps ts : List T} 
    (hop : o.op = .call { callee := .value f, args := args, argTypes := tys }) (hf : Ad a f = some (.fn (.func g) caps)) (ha : argsT a args.toList = some ts) {d : Tmp} (hdd : o.dst = some d) (hd : Ai N (some d) = true)
    (k : ACalls P g (ts ++ caps) σ (fun r σ' => K (put a (some d) r) σ')) : AOp P N o a σ K := by
  generalize some d = dd at *
  subst hdd
  exact (aop_call hop hf ha hd k)

theorem op_box (hG : Fits P G) {K : Env → St → Prop} {o : Oper} {e : TypeId} {x : Operand} {t : T}
    (hop : o.op = .box e x) (hx : Ad a x = some t) (hraw : notRaw t = true) {d : Tmp} (hdd : o.dst = some d) (hd : Ai N (some d) = true)
    (k : ∀ i, K (put a (some d) (.ptr i 0)) (σ.new i (.cells t.cells))) : AOp P N o a σ K := by
  generalize some d = dd at *
  subst hdd
  exact (aop_box hG hop hx hraw hd fun i _ => k i)

theorem op_alloc (hG : Fits P G) {K : Env → St → Prop} {o : Oper} {e : TypeId} {ti : TI}
    (hop : o.op = .alloc e) (he : G e = some ti) {d : Tmp} (hdd : o.dst = some d) (hd : Ai N (some d) = true)
    (k : ∀ i, K (put a (some d) (.ptr i 0)) (σ.new i (.cells ti.tree.cells))) : AOp P N o a σ K := by
  generalize some d = dd at *
  subst hdd
  exact (aop_alloc hG hop he hd fun i _ => k i)

theorem op_callN {K : Env → St → Prop} {o : Oper} {f : Operand} {args : Array Operand} {tys : Array TypeId} {g : FuncId} {caps ts : List T}
    (hop : o.op = .call { callee := .value f, args := args, argTypes := tys }) (hf : Ad a f = some (.fn (.func g) caps)) (ha : argsT a args.toList = some ts) (hdd : o.dst = none)
    (k : ACalls P g (ts ++ caps) σ (fun r σ' => K a σ')) : AOp P N o a σ K :=
  aop_call hop hf ha (by rw [hdd]; rfl) (by rw [hdd]; exact k)

theorem op_store (n : Nat) (hG : Fits P G) {K : Env → St → Prop} {o : Oper} {ty : TypeId} {x y : Operand} {i p : Nat} {t : T} {ts : List T} {ti : TI}
    (hop : o.op = .store ty x y) (hx : Ad a x = some (.ptr i p)) (hob : σ.L[n]? = some (i, .cells ts)) (hy : Ad a y = some t)
    (hsc : (notRaw t && t.cells.all T.scalar) = true) (hty : G ty = some ti) (hsz : Nat.beq t.cells.length ti.size = true) (hle : Nat.ble (p + t.cells.length) ts.length = true) (hdd : o.dst = none)
    (k : K a (σ.set n i (.cells (stored ts t.cells p)))) : AOp P N o a σ K :=
  aop_store hG hop hx hy hob hsc hty hsz hle (by rw [hdd]; rfl) (by rw [hdd]; exact k)

theorem op_load (n : Nat) (hG : Fits P G) {K : Env → St → Prop} {o : Oper} {ty : TypeId} {x : Operand} {i p : Nat} {t : T} {ts : List T}
    (hop : o.op = .load ty x) (hx : Ad a x = some (.ptr i p)) (hob : σ.L[n]? = some (i, .cells ts)) (ht : readT G ty ts p = some t) {d : Tmp} (hdd : o.dst = some d) (hd : Ai N (some d) = true)
    (k : K (put a (some d) t) σ) : AOp P N o a σ K := by
  generalize some d = dd at *
  subst hdd
  intro av w μ hi hr next Qc hn
  have rx := Al hr hx
  generalize hv : av.eval x = vx at rx
  cases rx with
  | ptr i b q p hl =>
    obtain ⟨b', q', hl', hcells⟩ := hi.cells (List.mem_of_getElem? hob)
    rw [hl] at hl'; injection hl' with hl'; injection hl' with e1 e2; subst e1; subst e2
    obtain ⟨u, hu, ru⟩ := readT_run (P := P) hG hcells ht
    have hrun : (execOp av.eval o).run P w = .ok (.value u) w := by
      simp only [execOp, hop, Instr.loadAt, hv, Instr.sureAddr, Sem.run_bind, Sem.run_pure, Result.andThen_ok, hu]
    unfold Oper.wp
    rw [hrun]
    exact hn _ _ _ _ _ (.refl _ _ _) hi (hr.put hd ru) k

theorem op_append (n : Nat) (hG : Fits P G) {K : Env → St → Prop} {o : Oper} {x y : Operand} {t1 t2 : TypeId} {e sz : Nat} {i1 i2 ie : TI} {k0 : Nat} {xs ys : List T} {ty : T}
    (hop : o.op = .call { callee := .builtin .append, args := #[x, y], argTypes := #[t1, t2] }) (hx : Ad a x = some (.sl sz (.tok k0) xs)) (hRn : σ.R[n]? = some k0) (hnx : σ.nx = none) (h1 : G t1 = some i1) (h1d : i1.d = .slice e) (he : G e = some ie) (h2 : G t2 = some i2) (h2d : ∃ e2, i2.d = .slice e2)
    (hy : Ad a y = some ty) (hsrc : srcOf (fun _ => none) sz ty = some ys) (hsz : (Nat.beq sz ie.size && Nat.blt 0 sz && Nat.ble ie.bytes 4096) = true) {d : Tmp} (hdd : o.dst = some d) (hd : Ai N (some d) = true)
    (hsc : Scal ys) (hlen : xs.length + ys.length ≤ 4294967296)
    (k : ∀ k', K (put a (some d) (.sl sz (.tok k') (xs ++ ys))) (σ.tk n k')) : AOp P N o a σ K := by
  generalize some d = dd at *
  subst hdd
  exact aop_append hG hop h1 h1d he h2 h2d hx hy hsrc hsz hnx hRn hsc hlen hd k
theorem op_append0 (hG : Fits P G) {K : Env → St → Prop} {o : Oper} {x y : Operand} {t1 t2 : TypeId} {e sz : Nat} {i1 i2 ie : TI} {xs ys : List T} {tx ty : T}
    (hop : o.op = .call { callee := .builtin .append, args := #[x, y], argTypes := #[t1, t2] }) (hx : Ad a x = some tx) (hnr : noRoom tx = some xs) (hnx : σ.nx = none) (h1 : G t1 = some i1) (h1d : i1.d = .slice e) (he : G e = some ie) (h2 : G t2 = some i2) (h2d : ∃ e2, i2.d = .slice e2)
    (hnz : noRoomSz ie.size tx = true) (hy : Ad a y = some ty) (hsrc : srcOf (fun _ => none) ie.size ty = some ys) (hsz : (Nat.blt 0 ie.size && Nat.ble ie.bytes 4096) = true) {d : Tmp} (hdd : o.dst = some d) (hd : Ai N (some d) = true)
    (hsc : Scal ys) (hlen : xs.length + ys.length ≤ 4294967296)
    (k : ∀ k', K (put a (some d) (.sl ie.size (.tok k') (xs ++ ys))) { σ with R := k' :: σ.R }) : AOp P N o a σ K := by
  generalize some d = dd at *
  subst hdd
  rw [Bool.and_eq_true] at hsz
  exact aop_append0 hG hop h1 h1d he h2 h2d hx hnr hnz hy hsrc (by simp [hsz]) hnx hsc hlen hd k

theorem op_mkslice (hG : Fits P G) {K : Env → St → Prop} {o : Oper} {t : TypeId} {len e : Nat} {parts : Array (Nat × Operand)} {ti ie : TI} {pt : List (Nat × T)}
    (hop : o.op = .buildSlice t len parts) (ht : G t = some ti) (htd : ti.d = .slice e) (he : G e = some ie) (hp : partsT a parts.toList = some pt)
    (hok : (decide (pt.map Prod.fst = List.range' 0 len) && Nat.beq pt.length len && (pt.all fun p => notRaw p.2 && Nat.beq p.2.cells.length ie.size) && Nat.ble (len * ie.size) 16777216 && Nat.blt 0 ie.size) = true) {d : Tmp} (hdd : o.dst = some d) (hd : Ai N (some d) = true)
    (k : K (put a (some d) (.sl ie.size .full (pt.map Prod.snd))) σ) : AOp P N o a σ K := by
  generalize some d = dd at *
  subst hdd
  exact
  (aop_buildSlice hG hop ht htd he hp hok hd k)

theorem op_build (hG : Fits P G) {K : Env → St → Prop} {o : Oper} {t : TypeId} {parts : Array (Nat × Operand)} {ti : TI} {pt : List (Nat × T)} {cs : List T}
    (hop : o.op = .build t parts) (ht : G t = some ti) (hpl : (placesOk G ti) = true) (hp : partsT a parts.toList = some pt) (hf : treeFill (placeOf G ti) (ti.zero.map Z.tree) pt = some cs) {d : Tmp} (hdd : o.dst = some d) (hd : Ai N (some d) = true)
    (k : K (put a (some d) (.agg cs)) σ) : AOp P N o a σ K := by
  generalize some d = dd at *
  subst hdd
  exact (aop_build hG hop ht hpl hp hf hd k)

theorem op_eqnil (hG : Fits P G) {K : Env → St → Prop} {o : Oper} {op : BinOp} {xt yt : TypeId} {x y : Operand} {sz : Nat} {own : Own} {xs : List T} {ti : TI} {e : Nat}
    (hop : o.op = .binOp op xt x y yt) (hop2 : isEq op = some true) (ht : G xt = some ti) (htd : ti.d = .slice e)
    (hx : Ad a x = some (.sl sz own xs)) (hy : Ad a y = some .nilsl) {d : Tmp} (hdd : o.dst = some d) (hd : Ai N (some d) = true)
    (k : ∀ b : Bool, (b = true → xs = []) → K (put a (some d) (.bool b)) σ) : AOp P N o a σ K := by
  generalize some d = dd at *
  subst hdd
  intro av w μ hi hr next Qc hn
  obtain rfl : op = .eql := by cases op <;> simp [isEq] at hop2; rfl
  have rx := Al hr hx
  have ry := Al hr hy
  obtain ⟨d1, u1, f1⟩ := Aq (P := P) (w := w) hG ht
  rw [htd] at f1; obtain rfl := A0 f1
  generalize hvy : av.eval y = vy at ry
  cases ry
  have run : ∀ (vx : Value) (b : Bool), av.eval x = vx → (∀ n, (Op.equalIn (n + 1) xt vx (.slice none 0 0)).run P w = .ok b w) → (eqGuard .eql xt x y vx (.slice none 0 0)).run P w = .ok () w →
      (binOp .eql xt vx (.slice none 0 0)).run P w = .ok (.bool b) w → (execOp av.eval o).run P w = .ok (.value (.bool b)) w := by
    intro vx b hvx h1 h2 h3
    simp [execOp, hop, hvx, hvy, h2, h3]
  generalize hvx : av.eval x = vx at rx
  cases rx with
  | slnil =>
    have hrun : (execOp av.eval o).run P w = .ok (.value (.bool true)) w := by
      refine run _ true hvx (fun n => by simp [Op.equalIn, u1]) rfl ?_
      simp only [binOp, equal_unf]
      generalize 9999 = n
      simp [Op.equalIn, u1]
    unfold Oper.wp
    rw [hrun]
    exact hn _ _ _ _ _ (.refl _ _ _) hi (hr.put hd (.bool _)) (k true fun _ => rfl)
  | slz ad sz own h =>
    have hrun : (execOp av.eval o).run P w = .ok (.value (.bool false)) w := by
      refine run _ false hvx (fun n => by simp [Op.equalIn, u1]) rfl ?_
      simp only [binOp, equal_unf]
      generalize 9999 = n
      simp [Op.equalIn, u1]
    unfold Oper.wp
    rw [hrun]
    exact hn _ _ _ _ _ (.refl _ _ _) hi (hr.put hd (.bool _)) (k false fun h => by cases h)
  | sl b p cap sz own xs n hxn hc ho hs h r =>
    have hrun : (execOp av.eval o).run P w = .ok (.value (.bool false)) w := by
      refine run _ false hvx (fun n => by simp [Op.equalIn, u1]) rfl ?_
      simp only [binOp, equal_unf]
      generalize 9999 = n
      simp [Op.equalIn, u1]
    unfold Oper.wp
    rw [hrun]
    exact hn _ _ _ _ _ (.refl _ _ _) hi (hr.put hd (.bool _)) (k false fun h => by cases h)

theorem Af (hG : Fits P G) {f : FuncId} {fn : Func} {c : Code} {ts : List T} {R : T → St → Prop} {rs : List ResultVar} (hf : P.funcs[f]? = some fn) (hb : fn.body = some c) (hN : fn.ntmps = N) (hrs : fn.results.toList = rs) (hname : (fn.name == "runtime.NumGoroutine") = false) (hlen : Nat.ble ts.length N = true)
    (h : AW P N c (retA G rs R) (envOf 0 ts) σ) : ACalls P f ts σ R := by
  subst hN; subst hrs
  exact acalls_of hG hf hb (by simpa using hname) (Nat.le_of_ble_eq_true hlen) h

theorem aw_if_t {c : Operand} {x y : Code} (hc : Ad a c = some (.bool true)) (h : AW P N x Q a σ) : AW P N (.cond c x y) Q a σ := aw_cond hc h
theorem aw_if_f {c : Operand} {x y : Code} (hc : Ad a c = some (.bool false)) (h : AW P N y Q a σ) : AW P N (.cond c x y) Q a σ := aw_cond hc h
theorem aw_if {c : Operand} {x y : Code} {b : Bool} (hc : Ad a c = some (.bool b)) (ht : b = true → AW P N x Q a σ) (hf : b = false → AW P N y Q a σ) : AW P N (.cond c x y) Q a σ := by
  cases b with
  | true => exact aw_cond hc (ht rfl)
  | false => exact aw_cond hc (hf rfl)

theorem Ag : ResRs G a σ [] [] := rfl
theorem Ae {x : Tmp} {t : T} {rs : List ResultVar} {ts : List T} (h : get a x = some t) (k : ResRs G a σ rs ts) : ResRs G a σ (.tmp x :: rs) (t :: ts) := ⟨t, ts, h, k, rfl⟩
theorem conv_drop {t u : T} {L' : List (Nat × Ob)} {R' : List Nat} (hL : L'.Sublist σ.L) (hR : R'.Sublist σ.R) (h : Wk t u) : Conv σ t ⟨L', R', σ.off, σ.nx⟩ u := (Conv.g (Bc hL hR)).trans (Conv.wk h)
theorem i64_in {n : Int} (h1 : -9223372036854775808 ≤ n) (h2 : n ≤ 9223372036854775807) : IntKind.i64.wrap n = n := by
  unfold IntKind.wrap; simp [IntKind.bits, IntKind.signed]; omega
theorem u64_in {n : Int} (h1 : 0 ≤ n) (h2 : n < 18446744073709551616) : IntKind.u64.wrap n = n := by
  unfold IntKind.wrap; simp [IntKind.bits, IntKind.signed]; omega
theorem u8_wrap (n : Int) : IntKind.u8.wrap n = n % 256 := by unfold IntKind.wrap; simp [IntKind.bits, IntKind.signed]
theorem Wk.int {k : IntKind} {x y : Int} (h : x = y) : Wk (.int k x) (.int k y) := by subst h; exact .refl _
theorem Wk.eq {x y : T} (h : x = y) : Wk x y := by subst h; exact .refl _

theorem op_idx (hG : Fits P G) {K : Env → St → Prop} {o : Oper} {t : TypeId} {x ix : Operand} {k : IntKind} {n : Int} {sz e : Nat} {own : Own} {xs : List T} {y : T} {ti te : TI}
    (hop : o.op = .indexAddr t x ix) (hn : Ad a ix = some (.int k n)) (hx : Ad a x = some (.sl sz own xs)) (ht : G t = some ti) (htd : ti.d = .slice e) (hte : G e = some te) (hsz : Nat.beq sz te.size = true) {d : Tmp} (hdd : o.dst = some d) (hd : Ai N (some d) = true)
    (h0 : 0 ≤ n) (hy : xs[n.toNat]? = some y) (kk : K (put a (some d) (.ro y 0)) σ) : AOp P N o a σ K := by
  refine op_q hG ?_ hdd hd kk
  obtain ⟨d, s1, s2, s3⟩ := ti
  simp only at htd; subst htd
  simp only [hop, Av, hn, ht, hx, sizeT, hte, Option.map_some, h0, decide_true, cond_true, hsz, hy]

theorem op_shr (hG : Fits P G) {K : Env → St → Prop} {o : Oper} {t yt : TypeId} {x y : Operand} {k k' : IntKind} {n m : Int} {ti : TI}
    (hop : o.op = .binOp .shr t x y yt) (ht : G t = some ti) (hx : Ad a x = some (.int k n)) (hy : Ad a y = some (.int k' m)) {d : Tmp} (hdd : o.dst = some d) (hd : Ai N (some d) = true)
    (h0 : 0 ≤ m) (kk : K (put a (some d) (.int k (n / 2 ^ (min m.toNat k.bits)))) σ) : AOp P N o a σ K := by
  refine op_q hG ?_ hdd hd kk
  have : ¬ m < 0 := by omega
  simp only [hop, Av, hx, hy, ht, evalBin, isShift, cond_true, evalShift, this, decide_false, cond_false]
  rw [Int.fdiv_eq_ediv_of_nonneg _ (Int.pow_nonneg (by omega))]

theorem op_slice (hG : Fits P G) {K : Env → St → Prop} {o : Oper} {t : TypeId} {x : Operand} {lo hi : Option Operand} {k k' : IntKind} {l h : Int} {sz e : Nat} {own : Own} {xs : List T} {ti te : TI}
    (hop : o.op = .slice t x lo hi none) (hx : Ad a x = some (.sl sz own xs)) (hl : (lo.map (Ad a)).getD (some (.int .i64 0)) = some (.int k l)) (hh : (hi.map (Ad a)).getD (some (.int .i64 xs.length)) = some (.int k' h))
    (ht : G t = some ti) (htd : ti.d = .slice e) (hte : G e = some te) (hsz : Nat.beq sz te.size = true) {d : Tmp} (hdd : o.dst = some d) (hd : Ai N (some d) = true)
    (hb : 0 ≤ l ∧ l ≤ h ∧ h ≤ xs.length) (kk : K (put a (some d) (.sl sz (cond (h == (xs.length : Int)) own .no) ((xs.take h.toNat).drop l.toNat))) σ) : AOp P N o a σ K := by
  refine op_q hG ?_ hdd hd kk
  obtain ⟨d, s1, s2, s3⟩ := ti
  simp only at htd; subst htd
  simp only [hop, Av, ht, sizeT, hte, Option.map_some, hx, hl, hh, hsz, hb.1, hb.2.1, hb.2.2, decide_true, Bool.and_self, cond_true]

def plainOp : Op → Bool
  | .move _ | .assign _ | .load .. | .fieldAddr .. | .field .. | .extract .. | .nilCheck _ | .makeFunc .. => true
  | .call { callee := .builtin .len, .. } => true
  | .call { callee := .builtin .cap, .. } => true
  | _ => false
theorem op_idx_aref (hG : Fits P G) {K : Env → St → Prop} {o : Oper} {t : TypeId} {x ix : Operand} {k : IntKind} {n : Int} {sz e i p len : Nat} {cap : Option Nat} {ti te : TI}
    (hop : o.op = .indexAddr t x ix) (hn : Ad a ix = some (.int k n)) (hx : Ad a x = some (.aref sz i p len cap)) (ht : G t = some ti) (htd : ti.d = .slice e) (hte : G e = some te) (hsz : Nat.beq sz te.size = true) {d : Tmp} (hdd : o.dst = some d) (hd : Ai N (some d) = true)
    (h0 : 0 ≤ n ∧ n < len) (kk : K (put a (some d) (.ptr i (p + n.toNat * sz))) σ) : AOp P N o a σ K := by
  refine op_q hG ?_ hdd hd kk
  obtain ⟨d, s1, s2, s3⟩ := ti
  simp only at htd; subst htd
  simp only [hop, Av, hn, ht, hx, sizeT, hte, Option.map_some, h0.1, h0.2, decide_true, cond_true, hsz, Bool.and_self]

theorem Wk.list {sz : Nat} {own : Own} {xs ys : List T} (hl : xs.length = ys.length) (h : ∀ (i : Nat) (x y : T), xs[i]? = some x → ys[i]? = some y → x.scalar = true ∧ y.scalar = true ∧ Wk x y) : Wk (.sl sz own xs) (.sl sz own ys) := by
  intro w μ σ v r
  have hx : ∀ (i : Nat) (y : T), ys[i]? = some y → ∃ x, xs[i]? = some x ∧ x.scalar = true ∧ y.scalar = true ∧ Wk x y := by
    intro i y hy
    have hi : i < xs.length := by
      rcases Nat.lt_or_ge i ys.length with h' | h'
      · omega
      · rw [List.getElem?_eq_none h'] at hy; cases hy
    exact ⟨xs[i], List.getElem?_eq_getElem hi, h i _ y (List.getElem?_eq_getElem hi) hy⟩
  cases r with
  | slnil sz own h0 => cases ys with
    | nil => exact .slnil _ _ h0
    | cons y ys => simp at hl
  | slz ad sz own h0 => cases ys with
    | nil => exact .slz ad _ _ h0
    | cons y ys => simp at hl
  | sl b p cap sz own xs n hn hc ho hs h0 r0 =>
    refine .sl b p cap sz own ys n (by omega) hc ho (fun i y hy => ?_) (fun i y j c hy hj => ?_) (fun i y j c v hy hj hv => ?_)
    · obtain ⟨x, hx1, hx2, hx3, _⟩ := hx i y hy
      have := hs i x hx1
      rw [scalar_cells hx2] at this; rw [scalar_cells hx3]; exact this
    · obtain ⟨x, hx1, hx2, hx3, _⟩ := hx i y hy
      rw [scalar_cells hx3] at hj
      cases j with
      | zero => exact h0 i x 0 x hx1 (by rw [scalar_cells hx2]; rfl)
      | succ j => simp at hj
    · obtain ⟨x, hx1, hx2, hx3, hw⟩ := hx i y hy
      rw [scalar_cells hx3] at hj
      cases j with
      | zero => simp at hj; subst hj; exact hw _ _ _ _ (r0 i x 0 x v hx1 (by rw [scalar_cells hx2]; rfl) hv)
      | succ j => simp at hj

theorem Wk.tup {cs ds : List T} (hl : cs.length = ds.length) (h : ∀ (j : Nat) (c d : T), cs[j]? = some c → ds[j]? = some d → Wk c d) : Wk (.tup cs) (.tup ds) := by
  intro w μ σ v r
  cases r with
  | tup cs vs hn r0 =>
    refine .tup ds vs (by omega) (fun j d v hd hv => ?_)
    have hj : j < cs.length := by
      rcases Nat.lt_or_ge j ds.length with h' | h'
      · omega
      · rw [List.getElem?_eq_none h'] at hd; cases hd
    exact h j _ d (List.getElem?_eq_getElem hj) hd w μ σ v (r0 j _ v (List.getElem?_eq_getElem hj) hv)
theorem Wk.agg {cs ds : List T} (hl : cs.length = ds.length) (h : ∀ (j : Nat) (c d : T), cs[j]? = some c → ds[j]? = some d → Wk c d) : Wk (.agg cs) (.agg ds) := by
  intro w μ σ v r
  cases r with
  | agg cs vs hn r0 =>
    refine .agg ds vs (by omega) (fun j d v hd hv => ?_)
    have hj : j < cs.length := by
      rcases Nat.lt_or_ge j ds.length with h' | h'
      · omega
      · rw [List.getElem?_eq_none h'] at hd; cases hd
    exact h j _ d (List.getElem?_eq_getElem hj) hd w μ σ v (r0 j _ v (List.getElem?_eq_getElem hj) hv)
def WkL : List T → List T → Prop
  | [], [] => True
  | c :: cs, d :: ds => Wk c d ∧ WkL cs ds
  | _, _ => False
theorem WkL.get : ∀ {cs ds : List T}, WkL cs ds → cs.length = ds.length ∧ ∀ (j : Nat) (c d : T), cs[j]? = some c → ds[j]? = some d → Wk c d
  | [], [], _ => ⟨rfl, fun j c d h => by simp at h⟩
  | [], _ :: _, h => h.elim
  | _ :: _, [], h => h.elim
  | c :: cs, d :: ds, h => by
    obtain ⟨h1, h2⟩ := h.2.get
    refine ⟨by simp [h1], fun j x y hx hy => ?_⟩
    cases j with
    | zero => simp at hx hy; subst hx; subst hy; exact h.1
    | succ j => exact h2 j x y (by simpa using hx) (by simpa using hy)
theorem ACalls.weakL {f : FuncId} {ts us : List T} {R : T → St → Prop} (h : ACalls P f us σ R) (hw : WkL ts us) : ACalls P f ts σ R := h.weak hw.get.1 hw.get.2

theorem wk1 {a b : T} (h1 : Wk a b) : WkL [a] [b] := And.intro h1 trivial
theorem wk2 {a b c d : T} (h1 : Wk a b) (h2 : Wk c d) : WkL [a, c] [b, d] := And.intro h1 (wk1 h2)
theorem wk3 {a b c d e f : T} (h1 : Wk a b) (h2 : Wk c d) (h3 : Wk e f) : WkL [a, c, e] [b, d, f] := And.intro h1 (wk2 h2 h3)
theorem wkc {a b : T} {l m : List T} (h1 : Wk a b) (h2 : WkL l m) : WkL (a :: l) (b :: m) := And.intro h1 h2

def Pure (P : Program) (f : FuncId) (ts : List T) (r : T) : Prop := ∀ off, ACalls P f ts ⟨[], [], off, none⟩ (fun u σ' => u = r ∧ σ' = ⟨[], [], off, none⟩)
theorem Pure.calls {f : FuncId} {ts : List T} {r : T} (h : Pure P f ts r) (hnx : σ.nx = none) {R : T → St → Prop} (k : R r σ) : ACalls P f ts σ R := by
  refine (frame (Ls := []) (Lf := σ.L) (List.Perm.refl _) (R := fun u L R => u = r ∧ L = [] ∧ R = []) hnx fun off => (h off).mono fun u σ' ⟨h1, h2⟩ => by subst h2; exact ⟨rfl, h1, rfl, rfl⟩).mono ?_
  rintro u σ' ⟨L', R', ⟨rfl, rfl, rfl⟩, rfl⟩
  obtain ⟨L, R, off, nx⟩ := σ
  simp only at hnx; subst hnx
  exact k
def Owns (P : Program) (f : FuncId) (ts : List T) (sz : Nat) (xs : List T) : Prop := ∀ off, ACalls P f ts ⟨[], [], off, none⟩ (fun u σ' => ∃ k, u = .sl sz (.tok k) xs ∧ σ' = ⟨[], [k], off, none⟩)
theorem Owns.calls {f : FuncId} {ts : List T} {sz : Nat} {xs : List T} (h : Owns P f ts sz xs) (hnx : σ.nx = none) {R : T → St → Prop} (k : ∀ k, R (.sl sz (.tok k) xs) { σ with R := k :: σ.R }) : ACalls P f ts σ R := by
  refine (frame (Ls := []) (Lf := σ.L) (List.Perm.refl _) (R := fun u L R => ∃ k, u = .sl sz (.tok k) xs ∧ L = [] ∧ R = [k]) hnx fun off => (h off).mono fun u σ' ⟨k, h1, h2⟩ => by subst h2; exact ⟨rfl, k, h1, rfl, rfl⟩).mono ?_
  rintro u σ' ⟨L', R', ⟨k0, rfl, rfl, rfl⟩, rfl⟩
  obtain ⟨L, R, off, nx⟩ := σ
  simp only at hnx; subst hnx
  exact k k0
theorem ACalls.conv {f : FuncId} {ts : List T} {R R' : T → St → Prop} (h : ACalls P f ts σ R) (k : ∀ t σ1, R t σ1 → CR σ1 t R') : ACalls P f ts σ R' := by
  refine ⟨h.1, fun vs w μ hi hs hr => (h.2 vs w μ hi hs hr).mono ?_⟩
  rintro e w' ⟨v, t, σ', μ', rfl, ev, hi', r, hR⟩
  obtain ⟨μ2, σ2, u, g1, g2, g3, hR'⟩ := k t σ' hR w' μ' v hi' r
  exact ⟨v, u, σ2, μ2, rfl, ev.trans g2, g1, g3, hR'⟩
theorem Owns.pure {f : FuncId} {ts : List T} {sz : Nat} {xs : List T} (h : Owns P f ts sz xs) : Pure P f ts (.sl sz .no xs) := by
  intro off
  refine (h off).conv ?_
  rintro t σ1 ⟨k, rfl, rfl⟩
  exact (conv_drop (L' := []) (R' := []) (List.nil_sublist _) (List.nil_sublist _) (Wk.own _ _ _)).cr ⟨rfl, rfl⟩
theorem Pure.weak {f : FuncId} {ts us : List T} {r : T} (h : Pure P f us r) (hw : WkL ts us) : Pure P f ts r := fun off => (h off).weakL hw
theorem Owns.weak {f : FuncId} {ts us : List T} {sz : Nat} {xs : List T} (h : Owns P f us sz xs) (hw : WkL ts us) : Owns P f ts sz xs := fun off => (h off).weakL hw
theorem op_pure {K : Env → St → Prop} {o : Oper} {f : Operand} {args : Array Operand} {tys : Array TypeId} {g : FuncId} {caps ts : List T} {r : T}
    (hop : o.op = .call { callee := .value f, args := args, argTypes := tys }) (hf : Ad a f = some (.fn (.func g) caps)) (ha : argsT a args.toList = some ts) {d : Tmp} (hdd : o.dst = some d) (hd : Ai N (some d) = true) (hnx : σ.nx = none)
    (h : Pure P g (ts ++ caps) r) (k : K (put a (some d) r) σ) : AOp P N o a σ K := op_call hop hf ha hdd hd (h.calls hnx k)
theorem op_owns {K : Env → St → Prop} {o : Oper} {f : Operand} {args : Array Operand} {tys : Array TypeId} {g : FuncId} {caps ts : List T} {sz : Nat} {xs : List T}
    (hop : o.op = .call { callee := .value f, args := args, argTypes := tys }) (hf : Ad a f = some (.fn (.func g) caps)) (ha : argsT a args.toList = some ts) {d : Tmp} (hdd : o.dst = some d) (hd : Ai N (some d) = true) (hnx : σ.nx = none)
    (h : Owns P g (ts ++ caps) sz xs) (k : ∀ k, K (put a (some d) (.sl sz (.tok k) xs)) { σ with R := k :: σ.R }) : AOp P N o a σ K := op_call hop hf ha hdd hd (h.calls hnx k)

theorem bytesOf_map : ∀ (l : List UInt8), bytesOf (l.map bT) = some l
  | [] => rfl
  | x :: l => by
    have hx := x.toNat_lt
    have : byteOfT (bT x) = some x := by
      unfold bT byteOfT
      have h1 : (decide ((0 : Int) ≤ (x.toNat : Int)) && decide ((x.toNat : Int) < 256)) = true := by simp; omega
      simp only [h1, cond_true]
      simp
    simp only [List.map_cons, bytesOf, this, bytesOf_map l]

theorem op_rem (hG : Fits P G) {K : Env → St → Prop} {o : Oper} {t yt : TypeId} {x y : Operand} {k : IntKind} {n m : Int} {ti : TI}
    (hop : o.op = .binOp .rem t x y yt) (ht : G t = some ti) (hx : Ad a x = some (.int k n)) (hy : Ad a y = some (.int k m)) {d : Tmp} (hdd : o.dst = some d) (hd : Ai N (some d) = true)
    (h0 : 0 ≤ n ∧ 0 < m) (kk : K (put a (some d) (.int k (n % m))) σ) : AOp P N o a σ K := by
  refine op_q hG ?_ hdd hd kk
  have h1 : (m == 0) = false := by simp; omega
  simp only [hop, Av, hx, hy, ht, evalBin, isShift, cond_false, decide_true, cond_true, evalInt, h1, Int.tmod_eq_emod_of_nonneg h0.1]
theorem op_shl (hG : Fits P G) {K : Env → St → Prop} {o : Oper} {t yt : TypeId} {x y : Operand} {k k' : IntKind} {n m : Int} {ti : TI}
    (hop : o.op = .binOp .shl t x y yt) (ht : G t = some ti) (hx : Ad a x = some (.int k n)) (hy : Ad a y = some (.int k' m)) {d : Tmp} (hdd : o.dst = some d) (hd : Ai N (some d) = true)
    (h0 : 0 ≤ m) (kk : K (put a (some d) (.int k (k.wrap (n * 2 ^ (min m.toNat k.bits))))) σ) : AOp P N o a σ K := by
  refine op_q hG ?_ hdd hd kk
  have : ¬ m < 0 := by omega
  simp only [hop, Av, hx, hy, ht, evalBin, isShift, cond_true, evalShift, this, decide_false, cond_false]
theorem Bj {rs : List ResultVar} {ts : List T} {r : T} (h : ResRs G a σ rs ts) (hw : Wk (tup1 ts) r) (hnx : σ.nx = none) : retA G rs (fun u σ' => u = r ∧ σ' = ⟨[], [], σ.off, none⟩) .ret a σ := by
  refine ⟨ts, h, ((conv_drop (L' := []) (R' := []) (List.nil_sublist _) (List.nil_sublist _) hw).cr ⟨rfl, ?_⟩)⟩
  rw [hnx]
theorem ret_owns (n : Nat) {rs : List ResultVar} {k sz : Nat} {xs ys : List T} (h : ResRs G a σ rs [.sl sz (.tok k) ys]) (hn : σ.R[n]? = some k) (he : ys = xs) (hnx : σ.nx = none) : retA G rs (fun u σ' => ∃ k, u = .sl sz (.tok k) xs ∧ σ' = ⟨[], [k], σ.off, none⟩) .ret a σ := by
  subst he
  refine ⟨_, h, ((conv_drop (L' := []) (R' := [k]) (List.nil_sublist _) (List.singleton_sublist.2 (List.mem_of_getElem? hn)) (Wk.refl _)).cr ⟨k, rfl, ?_⟩)⟩
  rw [hnx]
theorem tok_value {w : World} {μ : Gh} (hi : Inv w μ σ) (hnx : σ.nx = none) {v : Value} {t : T} {sz : Nat} {xs : List T} (r : Rel w μ σ v t) (h1 : noRoom t = some xs) (h2 : noRoomSz sz t = true) :
    ∃ k μ', Ev w μ σ w μ' { σ with R := k :: σ.R } ∧ Inv w μ' { σ with R := k :: σ.R } ∧ Rel w μ' { σ with R := k :: σ.R } v (.sl sz (.tok k) xs) := by
  have rx := noRoom_rel r h1 h2
  obtain ⟨k1, f1, f2, f3, f4⟩ := hi.pick
  obtain ⟨x0, hx0, hown⟩ : ∃ x0 : Nat × Nat × Nat, x0.2.1 = x0.2.2 ∧ ∀ w μ' σ', Rel w μ' σ' v (.sl sz .full xs) → μ'.tok k1 = some x0 → Rel w μ' σ' v (.sl sz (.tok k1) xs) := by
    cases rx with
    | slnil => exact ⟨(0, 0, 0), rfl, fun w μ' σ' r h => .slnil _ _ ⟨_, h, rfl⟩⟩
    | slz ad => exact ⟨(0, 0, 0), rfl, fun w μ' σ' r h => .slz ad _ _ ⟨_, h, rfl⟩⟩
    | sl b p cap sz own xs n hn hc ho hs h0 r0 =>
      refine ⟨(b, p + n * sz, p + cap * sz), ho, fun w μ' σ' r h => ?_⟩
      cases r with
      | slz ad => exact .slz _ _ _ ⟨_, h, ho⟩
      | sl b p cap sz own xs n hn hc ho hs h0 r0 => exact .sl b p cap sz _ xs n hn hc ⟨_, h, .inl rfl⟩ hs h0 r0
  obtain ⟨ev1, hi1⟩ := tok_step hi hnx f1 f2 f4 x0 hx0
  exact ⟨k1, _, ev1, hi1, hown _ _ _ (rx.ev ev1) (addT_same _ _)⟩
theorem ret_owns0 {rs : List ResultVar} {sz : Nat} {t : T} {xs ys : List T} (h : ResRs G a σ rs [t]) (h1 : noRoom t = some ys) (h2 : noRoomSz sz t = true) (he : ys = xs) (hnx : σ.nx = none) : retA G rs (fun u σ' => ∃ k, u = .sl sz (.tok k) xs ∧ σ' = ⟨[], [k], σ.off, none⟩) .ret a σ := by
  subst he
  refine ⟨_, h, fun w μ v hi r => ?_⟩
  obtain ⟨k, μ1, e1, i1, r1⟩ := tok_value hi hnx r h1 h2
  obtain ⟨i2, e2⟩ := Bc (σ := { σ with R := k :: σ.R }) (L' := []) (R' := [k]) (List.nil_sublist _) (List.singleton_sublist.2 (by simp)) w μ1 i1
  refine ⟨μ1, _, _, i2, e1.trans e2, r1.ev e2, k, rfl, ?_⟩
  rw [hnx]
theorem op_min {K : Env → St → Prop} {o : Oper} {x y : Operand} {tys : Array TypeId} {k : IntKind} {m n : Int}
    (hop : o.op = .call { callee := .builtin .min, args := #[x, y], argTypes := tys }) (hx : Ad a x = some (.int k m)) (hy : Ad a y = some (.int k n)) {d : Tmp} (hdd : o.dst = some d) (hd : Ai N (some d) = true)
    (kk : K (put a (some d) (.int k (min m n))) σ) : AOp P N o a σ K := by
  generalize some d = dd at *
  subst hdd
  intro av w μ hi hr next Qc hnx
  have rx := Al hr hx
  have ry := Al hr hy
  generalize hvx : av.eval x = vx at rx
  generalize hvy : av.eval y = vy at ry
  cases rx; cases ry
  have hrun : (execOp av.eval o).run P w = .ok (.value (.int k (min m n))) w := by
    simp [execOp, hop, resolve, invoke, builtin, Builtin.min_, Builtin.min2, hvx, hvy]
    omega
  unfold Oper.wp
  rw [hrun]
  exact hnx _ _ _ _ _ (.refl _ _ _) hi (hr.put hd (.int _ _)) kk
end
end Go.Ts
namespace Go.Ts
set_option linter.unusedSimpArgs false
set_option linter.unusedVariables false

def Ax (ops : Array Oper) (o : Oper) : List Nat :=
  (o.op.operands.toList.filterMap fun | .tmp t => some t | _ => none) ++
  (match o.guard with
   | some (g, _) => ((ops[g]?).bind (·.dst)).toList
   | none => [])
def memB (s : Nat) : List Nat → Bool
  | [] => false
  | x :: l => cond (Nat.beq x s) true (memB s l)
def Ay (a : Env) : List Nat → Env
  | [] => []
  | s :: l => match get a s with
    | some t => (s, t) :: Ay a l
    | none => Ay a l
theorem get_restr {a : Env} {s : Nat} {t : T} : ∀ {l : List Nat}, get (Ay a l) s = some t → s ∈ l ∧ get a s = some t
  | [], h => by simp [Ay, get] at h
  | x :: l, h => by
    unfold Ay at h
    cases hx : get a x with
    | none =>
      simp only [hx] at h
      obtain ⟨h1, h2⟩ := get_restr h
      exact ⟨List.mem_cons_of_mem _ h1, h2⟩
    | some u =>
      simp only [hx] at h
      by_cases e : x = s
      · subst e
        have : u = t := by simpa [get] using h
        subst this
        exact ⟨List.mem_cons_self, hx⟩
      · simp only [get, beqF e, cond_false] at h
        obtain ⟨h1, h2⟩ := get_restr h
        exact ⟨List.mem_cons_of_mem _ h1, h2⟩

def hasEdge (o : Oper) (j : Nat) : Bool := o.after.toList.any fun e => Region.binds .any e && Nat.beq e.on j
def pairOK (ops : Array Oper) (i j : Nat) (o p : Oper) : Bool :=
  match p.dst with
  | none => true
  | some s => (Nat.beq i j || !(match o.dst with | some s' => Nat.beq s s' | none => false)) && (!memB s (Ax ops o) || (cond (Nat.blt j i) (hasEdge o j) (cond (Nat.blt i j) (hasEdge p i) true)))
def drawOK2 (ops : Array Oper) (i : Nat) (o : Oper) : Nat → List Oper → Bool
  | _, [] => true
  | j, p :: ps => pairOK ops i j o p && drawOK2 ops i o (j + 1) ps
def drawOK1 (ops : Array Oper) : Nat → List Oper → Bool
  | _, [] => true
  | i, o :: os => (o.after.toList.all fun e => !Region.binds .any e || Nat.blt e.on i) && drawOK2 ops i o 0 ops.toList && drawOK1 ops (i + 1) os
def drawOK (ops : Array Oper) : Bool := drawOK1 ops 0 ops.toList

theorem memB_of {s : Nat} : ∀ {l : List Nat}, s ∈ l → memB s l = true
  | x :: l, h => by
    unfold memB
    by_cases e : x = s
    · subst e; simp
    · rw [beqF e]
      rcases List.mem_cons.1 h with h | h
      · exact absurd h.symm e
      · exact memB_of h
theorem drawOK2_at {ops : Array Oper} {i : Nat} {o : Oper} : ∀ {j0 : Nat} {ps : List Oper}, drawOK2 ops i o j0 ps = true → ∀ (j : Nat) (p : Oper), ps[j]? = some p → pairOK ops i (j0 + j) o p = true
  | j0, [], _, j, p, h => by simp at h
  | j0, q :: ps, h, j, p, hp => by
    simp only [drawOK2, Bool.and_eq_true] at h
    cases j with
    | zero => simp at hp; subst hp; exact h.1
    | succ j =>
      have := drawOK2_at h.2 j p (by simpa using hp)
      rwa [show j0 + 1 + j = j0 + (j + 1) by omega] at this
theorem drawOK1_at {ops : Array Oper} : ∀ {i0 : Nat} {os : List Oper}, drawOK1 ops i0 os = true → ∀ (i : Nat) (o : Oper), os[i]? = some o →
    (∀ e ∈ o.after.toList, Region.binds .any e = true → e.on < i0 + i) ∧ drawOK2 ops (i0 + i) o 0 ops.toList = true
  | i0, [], _, i, o, h => by simp at h
  | i0, q :: os, h, i, o, ho => by
    simp only [drawOK1, Bool.and_eq_true] at h
    cases i with
    | zero =>
      simp at ho; subst ho
      refine ⟨fun e he hb => ?_, h.1.2⟩
      have := List.all_eq_true.1 h.1.1 e he
      simpa [hb, Nat.blt_eq] using this
    | succ i =>
      have := drawOK1_at h.2 i o (by simpa using ho)
      rwa [show i0 + 1 + i = i0 + (i + 1) by omega] at this

theorem upon_frame {P : Program} {o : Oper} {a : Act} {next : Act → World → Prop} {Q : Exit → Act → World → Prop} {r : Result Next} (h : o.upon P a next Q r) :
    o.upon P a (fun a' w' => next a' w' ∧ ∀ s, o.dst ≠ some s → a'.tmps[s]? = a.tmps[s]?) Q r := by
  have hp : ∀ (a' : Act) (v : Value), a'.tmps = a.tmps → ∀ s, o.dst ≠ some s → (a'.put o.dst v).tmps[s]? = a.tmps[s]? := by
    intro a' v ha s hs
    cases hd : o.dst with
    | none => simp [Act.put, ha]
    | some d =>
      have : d ≠ s := fun e => hs (by rw [hd, e])
      simp [Act.put, ha, Array.getElem?_setIfInBounds, this]
  cases r with
  | ok n w' =>
    cases n with
    | value v => exact ⟨h, hp a v rfl⟩
    | skip => exact ⟨h, hp a _ rfl⟩
    | defer d => exact ⟨h, hp _ _ rfl⟩
    | enter f args =>
      refine Calls.mono h fun e w'' he => ?_
      cases e with
      | returned v => exact ⟨he, hp a v rfl⟩
      | panicked c => exact he
      | outgrown => exact he
    | row f args => exact Rows.mono h fun v w'' he => ⟨he, hp a v rfl⟩
    | _ => exact h
  | halt x w' => cases x <;> exact h

section
variable {P : Program} {G : Nat → Option TI} {N : Nat} {σ : St}

def StepOK (P : Program) (N : Nat) (ops : Array Oper) (σ : St) (o : Oper) (b : Env) (t : T) : Prop :=
  (Bb ops b o = some true ∧ ∀ K : Env → St → Prop, K (put b o.dst t) σ → AOp P N o b σ K) ∨ (Bb ops b o = some false ∧ t = .tup [] ∧ Ai N o.dst = true)

def DL (P : Program) (N : Nat) (ops : Array Oper) (Q : Exit → Env → St → Prop) (σ : St) : List Oper → Env → Prop
  | [], a => Q .normal a σ
  | o :: os, a => ∃ t, StepOK P N ops σ o (Ay a (Ax ops o)) t ∧ DL P N ops Q σ os (put a o.dst t)

def A3 : List Oper → List T → Env → Nat → Env
  | o :: os, t :: rs, a, j + 1 => A3 os rs (put a o.dst t) j
  | _, _, a, _ => a

theorem dl_can {ops : Array Oper} {Q : Exit → Env → St → Prop} : ∀ (os : List Oper) (a : Env), DL P N ops Q σ os a →
    ∃ rs : List T, rs.length = os.length ∧ (∀ (j : Nat) (o : Oper), os[j]? = some o → ∃ t, rs[j]? = some t ∧ StepOK P N ops σ o (Ay (A3 os rs a j) (Ax ops o)) t) ∧ Q .normal (A3 os rs a os.length) σ
  | [], a, h => ⟨[], rfl, fun j o ho => by simp at ho, by simpa [A3, DL] using h⟩
  | o :: os, a, h => by
    obtain ⟨t, h1, h2⟩ := h
    obtain ⟨rs, k1, k2, k3⟩ := dl_can os _ h2
    refine ⟨t :: rs, by simp [k1], fun j o' ho' => ?_, by simpa [A3] using k3⟩
    cases j with
    | zero => simp at ho'; subst ho'; exact ⟨t, rfl, by simpa [A3] using h1⟩
    | succ j =>
      obtain ⟨t', h3, h4⟩ := k2 j o' (by simpa using ho')
      exact ⟨t', by simpa using h3, by simpa [A3] using h4⟩

theorem get_envAt : ∀ (os : List Oper) (rs : List T) (a : Env) (i s : Nat) (t : T), rs.length = os.length → i ≤ os.length → get (A3 os rs a i) s = some t →
    (∃ (j : Nat) (o : Oper), j < i ∧ os[j]? = some o ∧ o.dst = some s ∧ rs[j]? = some t) ∨ ((∀ (j : Nat) (o : Oper), j < i → os[j]? = some o → o.dst ≠ some s) ∧ get a s = some t)
  | os, rs, a, 0, s, t, hl, hi, h => by
    right
    have : A3 os rs a 0 = a := by cases os <;> cases rs <;> rfl
    rw [this] at h
    exact ⟨fun j o hj => by omega, h⟩
  | [], rs, a, i + 1, s, t, hl, hi, h => by simp at hi
  | o :: os, [], a, i + 1, s, t, hl, hi, h => by simp at hl
  | o :: os, u :: rs, a, i + 1, s, t, hl, hi, h => by
    simp only [A3] at h
    rcases get_envAt os rs _ i s t (by simpa using hl) (by simpa using hi) h with ⟨j, o', h1, h2, h3, h4⟩ | ⟨h1, h2⟩
    · exact .inl ⟨j + 1, o', by omega, by simpa using h2, h3, by simpa using h4⟩
    · cases hd : o.dst with
      | none =>
        rw [hd] at h2
        refine .inr ⟨fun j o' hj ho' => ?_, h2⟩
        cases j with
        | zero => simp at ho'; subst ho'; rw [hd]; simp
        | succ j => exact h1 j o' (by omega) (by simpa using ho')
      | some d =>
        rw [hd] at h2
        by_cases e : d = s
        · subst e
          have : u = t := by simpa [put, get] using h2
          subst this
          exact .inl ⟨0, o, by omega, rfl, hd, rfl⟩
        · simp only [put, get, beqF e, cond_false] at h2
          refine .inr ⟨fun j o' hj ho' => ?_, h2⟩
          cases j with
          | zero => simp at ho'; subst ho'; rw [hd]; simpa using e
          | succ j => exact h1 j o' (by omega) (by simpa using ho')

structure DInv (os : List Oper) (rs : List T) (a0 : Env) (N : Nat) (σ : St) (listed : Array Bool) (av : Act) (w : World) (μ : Gh) : Prop where
  inv : Inv w μ σ
  size : av.tmps.size = N
  defers : av.defers = []
  base : ∀ (s : Nat) (t : T), (∀ (j : Nat) (o : Oper), listed.getD j false = true → os[j]? = some o → o.dst ≠ some s) → get a0 s = some t → ∃ v, av.tmps[s]? = some v ∧ Rel w μ σ v t
  done : ∀ (j : Nat) (o : Oper) (s : Nat) (t : T), listed.getD j false = true → os[j]? = some o → o.dst = some s → rs[j]? = some t → ∃ v, av.tmps[s]? = some v ∧ Rel w μ σ v t
  closed : ∀ (j : Nat) (o : Oper), listed.getD j false = true → os[j]? = some o → ∀ e ∈ o.after.toList, Region.binds .any e = true → listed.getD e.on false = true

theorem minimal {l : List Nat} (h : l ≠ []) : ∃ i ∈ l, ∀ j ∈ l, i ≤ j := by
  cases l with
  | nil => exact absurd rfl h
  | cons x l =>
    induction l generalizing x with
    | nil => exact ⟨x, by simp, fun j hj => by simp at hj; omega⟩
    | cons y l ih =>
      obtain ⟨i, hi, hm⟩ := ih (min x y) (by simp)
      refine ⟨i, ?_, fun j hj => ?_⟩
      · rcases List.mem_cons.1 hi with h | h
        · rw [h]
          rcases Nat.le_total x y with h' | h'
          · rw [Nat.min_eq_left h']; simp
          · rw [Nat.min_eq_right h']; simp
        · simp [h]
      · have h0 := hm (min x y) (by simp)
        rcases List.mem_cons.1 hj with h | h
        · subst h; exact Nat.le_trans h0 (Nat.min_le_left _ _)
        · rcases List.mem_cons.1 h with h | h
          · subst h; exact Nat.le_trans h0 (Nat.min_le_right _ _)
          · exact hm j (by simp [h])

theorem setD {listed : Array Bool} {i j : Nat} (hi : i < listed.size) {d : Bool} : (listed.setIfInBounds i true).getD j d = cond (Nat.beq i j) true (listed.getD j d) := by
  by_cases e : i = j
  · subst e; simp [Array.getD, hi]
  · rw [beqF e]
    simp only [cond_false, Array.getD_eq_getD_getElem?, Array.getElem?_setIfInBounds, if_neg e]

theorem wpAny_of {os : List Oper} {rs : List T} {a0 : Env} {Qc : Exit → Act → World → Prop} {w0 : World} {μ0 : Gh} (hc : drawOK ⟨os⟩ = true) (hl : rs.length = os.length)
    (hs : ∀ (j : Nat) (o : Oper), os[j]? = some o → ∃ t, rs[j]? = some t ∧ StepOK P N ⟨os⟩ σ o (Ay (A3 os rs a0 j) (Ax ⟨os⟩ o)) t)
    (hQ : ∀ av' w' μ', Ev w0 μ0 σ w' μ' σ → Inv w' μ' σ → RelA w' μ' σ N av' (A3 os rs a0 os.length) → Qc .normal av' w') :
    ∀ (fuel : Nat) (l : List Nat) (listed : Array Bool) (av : Act) (w : World) (μ : Gh), l.Nodup → l.length = fuel → listed.size = os.length → (∀ i, i ∈ l ↔ i < os.length ∧ listed.getD i true = false) →
      Ev w0 μ0 σ w μ σ → DInv os rs a0 N σ listed av w μ → wpAny P .any ⟨os⟩ Qc fuel listed av w := by
  intro fuel
  induction fuel with
  | zero =>
    intro l listed av w μ hn hlen hsz hmem hev hd
    obtain rfl : l = [] := List.eq_nil_of_length_eq_zero hlen
    have hall : ∀ i, i < os.length → listed.getD i false = true := by
      intro i hi
      have h1 : ¬ listed.getD i true = false := fun h => by simpa using (hmem i).2 ⟨hi, h⟩
      simp only [Array.getD_eq_getD_getElem?, Array.getElem?_eq_getElem (show i < listed.size by omega), Option.getD_some] at h1 ⊢
      simpa using h1
    refine ⟨?_, hQ av w μ hev hd.inv ⟨hd.size, hd.defers, fun s t ht => ?_⟩⟩
    · simp only [Region.ready, List.filter_eq_nil_iff, List.mem_range]
      intro i hi
      have h1 := hall i (by simpa using hi)
      simp only [Array.getD_eq_getD_getElem?, Array.getElem?_eq_getElem (show i < listed.size by simp at hi; omega), Option.getD_some] at h1 ⊢
      simp [h1]
    · rcases get_envAt os rs a0 _ s t hl (Nat.le_refl _) ht with ⟨j, o, h1, h2, h3, h4⟩ | ⟨h1, h2⟩
      · exact hd.done j o s t (hall j h1) h2 h3 h4
      · exact hd.base s t (fun j o _ ho => h1 j o (List.getElem?_eq_some_iff.1 ho).1 ho) h2
  | succ fuel ih =>
    intro l listed av w μ hn hlen hsz hmem hev hd
    have hdef : ∀ i, i < os.length → listed.getD i true = listed.getD i false := by
      intro i hi
      simp only [Array.getD_eq_getD_getElem?, Array.getElem?_eq_getElem (show i < listed.size by omega), Option.getD_some]
    refine ⟨fun hr => ?_, fun i hi => ?_⟩
    · exfalso
      obtain ⟨i, hil, him⟩ := minimal (l := l) (by intro h; subst h; simp at hlen)
      obtain ⟨h1, h2⟩ := (hmem i).1 hil
      have : i ∈ Region.ready .any ⟨os⟩ listed := by
        simp only [Region.ready, List.mem_filter, List.mem_range]
        refine ⟨by simpa using h1, ?_⟩
        have ho : (⟨os⟩ : Array Oper)[i]? = some os[i] := by simp [h1]
        simp only [h2, ho, Option.map_some, Option.getD_some, Bool.not_false, Bool.true_and]
        rw [← Array.all_toList, List.all_eq_true]
        intro e he
        obtain ⟨k1, _⟩ := drawOK1_at hc i os[i] (List.getElem?_eq_getElem h1)
        cases hb : Region.binds .any e with
        | false => simp
        | true =>
          have := k1 e he hb
          have h3 : e.on < os.length := by omega
          have h4 : ¬ e.on ∈ l := fun h => by have := him _ h; omega
          have h5 : ¬ listed.getD e.on true = false := fun h => h4 ((hmem _).2 ⟨h3, h⟩)
          rw [hdef _ h3] at h5
          simpa using h5
      rw [hr] at this; cases this
    · simp only [Region.ready, List.mem_filter, List.mem_range, Bool.and_eq_true] at hi
      obtain ⟨hi1, hi2, hi3⟩ := hi
      have hin : i < os.length := by simpa using hi1
      have hil : listed.getD i true = false := by simpa using hi2
      have hilf : listed.getD i false = false := by rw [← hdef i hin]; exact hil
      obtain ⟨o, ho⟩ : ∃ o, os[i]? = some o := ⟨_, List.getElem?_eq_getElem hin⟩
      have ho' : (⟨os⟩ : Array Oper)[i]? = some o := by simpa using ho
      simp only [ho', Option.map_some, Option.getD_some] at hi3
      rw [← Array.all_toList, List.all_eq_true] at hi3
      have hready : ∀ e ∈ o.after.toList, Region.binds .any e = true → listed.getD e.on false = true := by
        intro e he hb
        have := hi3 e he
        simpa [hb] using this
      obtain ⟨hk1, hk2⟩ := drawOK1_at hc i o ho
      simp only [Nat.zero_add] at hk1 hk2
      have hpair : ∀ (j : Nat) (p : Oper), os[j]? = some p → pairOK ⟨os⟩ i j o p = true := fun j p hp => by simpa using drawOK2_at hk2 j p hp
      have hedge : ∀ (q : Oper) (j : Nat), hasEdge q j = true → ∃ e ∈ q.after.toList, Region.binds .any e = true ∧ e.on = j := by
        intro q j h
        obtain ⟨e, he, h2⟩ := List.any_eq_true.1 h
        simp only [Bool.and_eq_true] at h2
        exact ⟨e, he, h2.1, Nat.eq_of_beq_eq_true h2.2⟩
      obtain ⟨t, ht, hstep⟩ := hs i o ho
      have hrel : RelA w μ σ N av (Ay (A3 os rs a0 i) (Ax ⟨os⟩ o)) := by
        refine ⟨hd.size, hd.defers, fun s u hu => ?_⟩
        obtain ⟨m1, m2⟩ := get_restr hu
        rcases get_envAt os rs a0 i s u hl (by omega) m2 with ⟨j, p, h1, h2, h3, h4⟩ | ⟨h1, h2⟩
        · have := hpair j p h2
          simp only [pairOK, h3, memB_of m1, Bool.not_true, Bool.false_or, Bool.and_eq_true, show Nat.blt j i = true from (by rw [Nat.blt_eq]; exact h1), cond_true] at this
          obtain ⟨e, he, hb, hon⟩ := hedge o j this.2
          exact hd.done j p s u (hon ▸ hready e he hb) h2 h3 h4
        · refine hd.base s u (fun j p hj hp hps => ?_) h2
          rcases Nat.lt_trichotomy j i with h | h | h
          · exact h1 j p h hp hps
          · subst h; rw [hilf] at hj; cases hj
          · have := hpair j p hp
            have hb : Nat.blt j i = false := by cases hb : Nat.blt j i with | false => rfl | true => rw [Nat.blt_eq] at hb; omega
            simp only [pairOK, hps, memB_of m1, Bool.not_true, Bool.false_or, Bool.and_eq_true, hb, cond_false, show Nat.blt i j = true from (by rw [Nat.blt_eq]; exact h), cond_true] at this
            obtain ⟨e, he, hb, hon⟩ := hedge p i this.2
            have := hd.closed j p hj hp e he hb
            rw [hon, hilf] at this; cases this
      have hnew : ∀ (av' : Act) (w' : World) (μ' : Gh), Ev w μ σ w' μ' σ → Inv w' μ' σ → av'.tmps.size = N → av'.defers = [] → (∀ s, o.dst ≠ some s → av'.tmps[s]? = av.tmps[s]?) →
          (∀ s, o.dst = some s → ∃ v, av'.tmps[s]? = some v ∧ Rel w' μ' σ v t) → wpAny P .any ⟨os⟩ Qc fuel (listed.setIfInBounds i true) av' w' := by
        intro av' w' μ' hev' hi' hsz' hdf' hfr hdst
        have hcond : ∀ j, (listed.setIfInBounds i true).getD j false = cond (Nat.beq i j) true (listed.getD j false) := fun j => setD (by omega)
        refine ih (l.erase i) _ av' w' μ' (hn.erase i) ?_ (by simpa using hsz) (fun j => ?_) (hev.trans hev') ⟨hi', hsz', hdf', ?_, ?_, ?_⟩
        · rw [List.length_erase_of_mem ((hmem i).2 ⟨hin, hil⟩)]; omega
        · rw [hn.mem_erase_iff, hmem j, setD (by omega)]
          by_cases e : i = j
          · subst e; simp
          · rw [beqF e]; simp only [cond_false]
            exact ⟨fun h => h.2, fun h => ⟨fun h' => e h'.symm, h⟩⟩
        · intro s u hno hu
          have hds : o.dst ≠ some s := hno i o (by rw [hcond]; simp) ho
          rw [hfr s hds]
          obtain ⟨v, hv, r⟩ := hd.base s u (fun j p hj hp => hno j p (by rw [hcond, hj]; cases Nat.beq i j <;> rfl) hp) hu
          exact ⟨v, hv, r.ev hev'⟩
        · intro j p s u hj hp hps hu
          by_cases e : i = j
          · subst e
            rw [ho] at hp; injection hp with hp; subst hp
            rw [ht] at hu; injection hu with hu; subst hu
            exact hdst s hps
          · rw [hcond, beqF e, cond_false] at hj
            have hds : o.dst ≠ some s := by
              intro h
              have := hpair j p hp
              simp [pairOK, hps, h, beqF e] at this
            rw [hfr s hds]
            obtain ⟨v, hv, r⟩ := hd.done j p s u hj hp hps hu
            exact ⟨v, hv, r.ev hev'⟩
        · intro j p hj hp e he hb
          rw [hcond]
          cases hij : Nat.beq i e.on with
          | true => rfl
          | false =>
            rw [hcond] at hj
            cases hij2 : Nat.beq i j with
            | true =>
              have := Nat.eq_of_beq_eq_true hij2; subst this
              rw [ho] at hp; injection hp with hp; subst hp
              exact hready e he hb
            | false => rw [hij2] at hj; exact hd.closed j p hj hp e he hb
      unfold wpOp
      simp only [ho']
      rcases hstep with ⟨hg, hA⟩ | ⟨hg, rfl, hfit⟩
      · rw [wanted_of hrel hg, if_pos rfl]
        refine .inl ?_
        have := hA (fun a' σ' => a' = put (Ay (A3 os rs a0 i) (Ax ⟨os⟩ o)) o.dst t ∧ σ' = σ) ⟨rfl, rfl⟩ av w μ hd.inv hrel (fun av' w' => ∃ μ', Ev w μ σ w' μ' σ ∧ Inv w' μ' σ ∧ RelA w' μ' σ N av' (put (Ay (A3 os rs a0 i) (Ax ⟨os⟩ o)) o.dst t)) Qc
          (by rintro av' w' μ' a' σ' h1 h2 h3 ⟨rfl, rfl⟩; exact ⟨μ', h1, h2, h3⟩)
        refine Oper.wp_mono ?_ (upon_frame this)
        rintro av' w' ⟨⟨μ', h1, h2, h3⟩, h4⟩
        exact hnew av' w' μ' h1 h2 h3.size h3.defers h4 (fun s hs => h3.tmp s t (by rw [hs]; simp [put, get]))
      · rw [wanted_of hrel hg, if_neg (by simp)]
        have hp := hrel.put hfit (v := undef) (t := .tup []) (.tup [] #[] rfl fun j c v h1 h2 => by simp at h1)
        refine hnew _ w μ (.refl _ _ _) hd.inv hp.size hp.defers (fun s hs => ?_) (fun s hs => ?_)
        · cases hd' : o.dst with
          | none => simp [Act.put]
          | some d =>
            have : d ≠ s := fun e => hs (by rw [hd', e])
            simp [Act.put, Array.getElem?_setIfInBounds, this]
        · exact hp.tmp s _ (by rw [hs]; simp [put, get])

theorem aw_draw {id : Nat} {os : List Oper} {a : Env} {Q : Exit → Env → St → Prop} (hm : P.follows .mixedOrders = true) (hc : drawOK ⟨os⟩ = true) (h : DL P N ⟨os⟩ Q σ os a) : AW P N (.region id ⟨os⟩ true) Q a σ := by
  intro av w μ hi hr
  obtain ⟨rs, h1, h2, h3⟩ := dl_can os a h
  have hev : Ev w μ σ { w with drawn := w.drawn + 1 } μ σ := ev_same rfl rfl rfl rfl
  have hi' : Inv { w with drawn := w.drawn + 1 } μ σ := hi.ev_heap rfl hev
  refine wp_region_any hm (wpAny_of (w0 := w) (μ0 := μ) hc h1 h2 (fun av' w' μ' k1 k2 k3 => ⟨_, σ, μ', k1, k2, k3, h3⟩) _ (List.range os.length) _ av _ μ List.nodup_range (by simp) (by simp) ?_ hev ?_)
  · intro i
    simp only [List.mem_range]
    constructor
    · intro h; exact ⟨h, by simp [Array.getD, h]⟩
    · intro h; exact h.1
  · have hf : ∀ j, (Array.replicate (⟨os⟩ : Array Oper).size false).getD j false = true → False := by
      intro j hj
      simp [Array.getD] at hj
    refine ⟨hi', hr.size, hr.defers, fun s t _ ht => (hr.ev hev).tmp s t ht, fun j o s t hj => (hf j hj).elim, fun j o hj => (hf j hj).elim⟩

variable {ops : Array Oper} {Q : Exit → Env → St → Prop} {a : Env}
theorem dl_nil (h : Q .normal a σ) : DL P N ops Q σ [] a := h
theorem Ap {o : Oper} {os : List Oper} {d : Tmp} {t : T} (hg : Bb ops (Ay a (Ax ops o)) o = some true) (hdd : o.dst = some d)
    (hs : ∀ K : Env → St → Prop, K (put (Ay a (Ax ops o)) (some d) t) σ → AOp P N o (Ay a (Ax ops o)) σ K) (h : DL P N ops Q σ os (put a (some d) t)) : DL P N ops Q σ (o :: os) a := by
  generalize some d = dd at *; subst hdd; exact ⟨t, .inl ⟨hg, hs⟩, h⟩
theorem dl_s {o : Oper} {os : List Oper} {d : Tmp} (hg : Bb ops (Ay a (Ax ops o)) o = some false) (hdd : o.dst = some d) (hd : Ai N (some d) = true) (h : DL P N ops Q σ os (put a (some d) (.tup []))) : DL P N ops Q σ (o :: os) a := by
  generalize some d = dd at *; subst hdd; exact ⟨.tup [], .inr ⟨hg, rfl, hd⟩, h⟩
theorem dl_d {o : Oper} {os : List Oper} {d : Tmp} {p : Prop} (hg : Bb ops (Ay a (Ax ops o)) o = some true) (hdd : o.dst = some d)
    (hs : ∀ K : Env → St → Prop, (p → K (put (Ay a (Ax ops o)) (some d) (.bool true)) σ) → (¬ p → K (put (Ay a (Ax ops o)) (some d) (.bool false)) σ) → AOp P N o (Ay a (Ax ops o)) σ K)
    (kt : p → DL P N ops Q σ os (put a (some d) (.bool true))) (kf : ¬ p → DL P N ops Q σ os (put a (some d) (.bool false))) : DL P N ops Q σ (o :: os) a := by
  by_cases h : p
  · exact Ap hg hdd (fun K kk => hs K (fun _ => kk) (fun h' => absurd h h')) (kt h)
  · exact Ap hg hdd (fun K kk => hs K (fun h' => absurd h' h) (fun _ => kk)) (kf h)
theorem dl_ne {o : Oper} {os : List Oper} {d : Tmp} {p : Prop} (hg : Bb ops (Ay a (Ax ops o)) o = some true) (hdd : o.dst = some d)
    (hs : ∀ K : Env → St → Prop, (¬ p → K (put (Ay a (Ax ops o)) (some d) (.bool true)) σ) → (p → K (put (Ay a (Ax ops o)) (some d) (.bool false)) σ) → AOp P N o (Ay a (Ax ops o)) σ K)
    (kt : ¬ p → DL P N ops Q σ os (put a (some d) (.bool true))) (kf : p → DL P N ops Q σ os (put a (some d) (.bool false))) : DL P N ops Q σ (o :: os) a := by
  by_cases h : p
  · exact Ap hg hdd (fun K kk => hs K (fun h' => absurd h h') (fun _ => kk)) (kf h)
  · exact Ap hg hdd (fun K kk => hs K (fun _ => kk) (fun h' => absurd h' h)) (kt h)
end
end Go.Ts
namespace Go.Ts
set_option linter.unusedSimpArgs false
set_option linter.unusedVariables false

def tailR : Nat → List Oper → Bool
  | _, [] => true
  | i, o :: os => (o.after.toList.all fun e => !Region.binds .any e || Nat.blt e.on i) && hasEdge o (i - 1) && tailR (i + 1) os
def tailOK : Nat → List Oper → Bool
  | _, [] => true
  | i, o :: os => (o.after.toList.all fun e => !Region.binds .any e || Nat.blt e.on i) && (List.range i).all (hasEdge o) && tailR (i + 1) os
theorem tailR_at : ∀ {i0 : Nat} {os : List Oper}, tailR i0 os = true → ∀ (i : Nat) (o : Oper), os[i]? = some o →
    (∀ e ∈ o.after.toList, Region.binds .any e = true → e.on < i0 + i) ∧ hasEdge o (i0 + i - 1) = true
  | i0, [], _, i, o, h => by simp at h
  | i0, q :: os, h, i, o, ho => by
    simp only [tailR, Bool.and_eq_true] at h
    cases i with
    | zero =>
      simp at ho; subst ho
      refine ⟨fun e he hb => ?_, by simpa using h.1.2⟩
      have := List.all_eq_true.1 h.1.1 e he
      simpa [hb, Nat.blt_eq] using this
    | succ i =>
      have := tailR_at h.2 i o (by simpa using ho)
      rwa [show i0 + 1 + i = i0 + (i + 1) by omega] at this
theorem tailOK_at {i0 : Nat} {os : List Oper} (h : tailOK i0 os = true) (i : Nat) (o : Oper) (ho : os[i]? = some o) :
    (∀ e ∈ o.after.toList, Region.binds .any e = true → e.on < i0 + i) ∧ (i = 0 → ∀ j, j < i0 → hasEdge o j = true) ∧ (0 < i → hasEdge o (i0 + i - 1) = true) := by
  cases os with
  | nil => simp at ho
  | cons q os =>
    simp only [tailOK, Bool.and_eq_true] at h
    cases i with
    | zero =>
      simp at ho; subst ho
      refine ⟨fun e he hb => ?_, fun _ j hj => List.all_eq_true.1 h.1.2 j (List.mem_range.2 hj), fun h => by omega⟩
      have := List.all_eq_true.1 h.1.1 e he
      simpa [hb, Nat.blt_eq] using this
    | succ i =>
      have := tailR_at h.2 i o (by simpa using ho)
      rw [show i0 + 1 + i = i0 + (i + 1) by omega] at this
      exact ⟨this.1, fun h => by omega, fun _ => this.2⟩
def blank (eff : List Nat) : Nat → List Oper → List Oper
  | _, [] => []
  | i, o :: os => (cond (memB i eff) { o with dst := none } o) :: blank eff (i + 1) os
theorem blank_at {eff : List Nat} : ∀ {i0 : Nat} {os : List Oper} (j : Nat), (blank eff i0 os)[j]? = (os[j]?).map fun o => cond (memB (i0 + j) eff) { o with dst := none } o
  | i0, [], j => by simp [blank]
  | i0, o :: os, 0 => by simp [blank]
  | i0, o :: os, j + 1 => by
    have := blank_at (eff := eff) (i0 := i0 + 1) (os := os) j
    rw [show i0 + (j + 1) = i0 + 1 + j by omega]
    simpa [blank] using this
theorem blank_length {eff : List Nat} : ∀ {i0 : Nat} {os : List Oper}, (blank eff i0 os).length = os.length
  | i0, [] => rfl
  | i0, o :: os => by simp [blank, blank_length (os := os)]

def far (ops : Array Oper) : Nat → Oper → Nat → Bool
  | 0, o, j => hasEdge o j
  | n + 1, o, j => hasEdge o j || o.after.toList.any fun e => Region.binds .any e && (match ops[e.on]? with | some p => far ops n p j | none => false)
def pairE (ops : Array Oper) (eff : List Nat) (i j : Nat) (o p : Oper) : Bool :=
  (cond (memB i eff && memB j eff && Nat.blt j i) (far ops 2 o j) true) &&
  match p.dst with
  | none => true
  | some s => (Nat.beq i j || !(match o.dst with | some s' => Nat.beq s s' | none => false)) &&
    (!memB s (Ax ops o) || cond (memB i eff)
      (cond (memB j eff) true (Nat.blt j i && far ops 2 o j))
      (cond (memB j eff) (Nat.blt i j && far ops 2 p i) (cond (Nat.blt j i) (far ops 2 o j) (cond (Nat.blt i j) (far ops 2 p i) true))))
def okE2 (ops : Array Oper) (eff : List Nat) (i : Nat) (o : Oper) : Nat → List Oper → Bool
  | _, [] => true
  | j, p :: ps => pairE ops eff i j o p && okE2 ops eff i o (j + 1) ps
def okE1 (ops : Array Oper) (eff : List Nat) (pre : List Oper) : Nat → List Oper → Bool
  | _, [] => true
  | i, o :: os => (o.after.toList.all fun e => !Region.binds .any e || Nat.blt e.on i) && okE2 ops eff i o 0 pre && okE1 ops eff pre (i + 1) os
def sortedB : List Nat → Bool
  | [] => true
  | i :: is => (is.all fun j => Nat.blt i j) && sortedB is
def drawOKE (ops : Array Oper) (m : Nat) (eff : List Nat) : Bool :=
  okE1 ops eff (ops.toList.take m) 0 (ops.toList.take m) && tailOK m (ops.toList.drop m) && sortedB eff && (eff.all fun i => Nat.blt i m)

theorem okE2_at {ops : Array Oper} {eff : List Nat} {i : Nat} {o : Oper} : ∀ {j0 : Nat} {ps : List Oper}, okE2 ops eff i o j0 ps = true → ∀ (j : Nat) (p : Oper), ps[j]? = some p → pairE ops eff i (j0 + j) o p = true
  | j0, [], _, j, p, h => by simp at h
  | j0, q :: ps, h, j, p, hp => by
    simp only [okE2, Bool.and_eq_true] at h
    cases j with
    | zero => simp at hp; subst hp; exact h.1
    | succ j =>
      have := okE2_at h.2 j p (by simpa using hp)
      rwa [show j0 + 1 + j = j0 + (j + 1) by omega] at this
theorem okE1_at {ops : Array Oper} {eff : List Nat} {pre : List Oper} : ∀ {i0 : Nat} {os : List Oper}, okE1 ops eff pre i0 os = true → ∀ (i : Nat) (o : Oper), os[i]? = some o →
    (∀ e ∈ o.after.toList, Region.binds .any e = true → e.on < i0 + i) ∧ okE2 ops eff (i0 + i) o 0 pre = true
  | i0, [], _, i, o, h => by simp at h
  | i0, q :: os, h, i, o, ho => by
    simp only [okE1, Bool.and_eq_true] at h
    cases i with
    | zero =>
      simp at ho; subst ho
      refine ⟨fun e he hb => ?_, h.1.2⟩
      have := List.all_eq_true.1 h.1.1 e he
      simpa [hb, Nat.blt_eq] using this
    | succ i =>
      have := okE1_at h.2 i o (by simpa using ho)
      rwa [show i0 + 1 + i = i0 + (i + 1) by omega] at this
theorem memB_iff {s : Nat} : ∀ {l : List Nat}, memB s l = true ↔ s ∈ l
  | [] => by simp [memB]
  | x :: l => by
    unfold memB
    by_cases e : x = s
    · subst e; simp
    · rw [beqF e, cond_false, memB_iff, List.mem_cons]
      exact ⟨.inr, fun h => h.resolve_left (fun h => e h.symm)⟩

theorem get_append {s : Nat} : ∀ {E A : Env}, get (E ++ A) s = (match get E s with | some t => some t | none => get A s)
  | [], A => by simp [get]
  | (i, t) :: E, A => by
    simp only [List.cons_append, get]
    cases Nat.beq i s with
    | true => rfl
    | false => simpa using get_append (E := E)

section
variable {P : Program} {G : Nat → Option TI} {N : Nat} {σ : St}

theorem wpAny_tail {os : List Oper} {m : Nat} {Qc : Exit → Act → World → Prop} (hct : ∀ (i : Nat) (o : Oper), m ≤ i → os[i]? = some o → (∀ e ∈ o.after.toList, Region.binds .any e = true → e.on < i) ∧ (i = m → ∀ j, j < m → hasEdge o j = true) ∧ (m < i → hasEdge o (i - 1) = true)) :
    ∀ (fuel k : Nat) (listed : Array Bool) (av : Act) (w : World), k + fuel = os.length → m ≤ k → listed.size = os.length → (∀ i, listed.getD i false = true ↔ i < k) →
      wpOps P ⟨os⟩ Qc (List.range' k fuel) av w → wpAny P .any ⟨os⟩ Qc fuel listed av w := by
  intro fuel
  induction fuel with
  | zero =>
    intro k listed av w hk hm hsz hl h
    refine ⟨?_, by simpa [wpOps] using h⟩
    simp only [Region.ready, List.filter_eq_nil_iff, List.mem_range]
    intro i hi
    have h1 := (hl i).2 (by simp at hi; omega)
    simp only [Array.getD_eq_getD_getElem?, Array.getElem?_eq_getElem (show i < listed.size by simp at hi; omega), Option.getD_some] at h1 ⊢
    simp [h1]
  | succ fuel ih =>
    intro k listed av w hk hm hsz hl h
    have hdef : ∀ i, i < os.length → listed.getD i true = listed.getD i false := by
      intro i hi
      simp only [Array.getD_eq_getD_getElem?, Array.getElem?_eq_getElem (show i < listed.size by omega), Option.getD_some]
    have hkl : listed.getD k false = false := by
      cases hb : listed.getD k false with
      | false => rfl
      | true => have := (hl k).1 hb; omega
    refine ⟨fun hr => ?_, fun i hi => ?_⟩
    · exfalso
      have : k ∈ Region.ready .any ⟨os⟩ listed := by
        simp only [Region.ready, List.mem_filter, List.mem_range]
        refine ⟨by simp; omega, ?_⟩
        have hko : k < os.length := by omega
        have ho : (⟨os⟩ : Array Oper)[k]? = some os[k] := by simp [hko]
        rw [hdef k hko, hkl]
        simp only [ho, Option.map_some, Option.getD_some, Bool.not_false, Bool.true_and]
        rw [← Array.all_toList, List.all_eq_true]
        intro e he
        cases hb : Region.binds .any e with
        | false => simp
        | true => simp [(hl e.on).2 ((hct k os[k] hm (List.getElem?_eq_getElem hko)).1 e he hb)]
      rw [hr] at this; cases this
    · simp only [Region.ready, List.mem_filter, List.mem_range, Bool.and_eq_true] at hi
      obtain ⟨hi1, hi2, hi3⟩ := hi
      have hin : i < os.length := by simpa using hi1
      have hil : listed.getD i true = false := by simpa using hi2
      rw [hdef i hin] at hil
      have hge : k ≤ i := by
        rcases Nat.lt_or_ge i k with h | h
        · rw [(hl i).2 h] at hil; cases hil
        · exact h
      obtain ⟨o, ho⟩ : ∃ o, os[i]? = some o := ⟨_, List.getElem?_eq_getElem hin⟩
      have ho' : (⟨os⟩ : Array Oper)[i]? = some o := by simpa using ho
      have hik : i = k := by
        rcases Nat.lt_or_ge k i with h | h
        · exfalso
          have hE := (hct i o (by omega) ho).2.2 (by omega)
          obtain ⟨e, he, h2⟩ := List.any_eq_true.1 hE
          simp only [Bool.and_eq_true] at h2
          simp only [ho', Option.map_some, Option.getD_some] at hi3
          rw [← Array.all_toList, List.all_eq_true] at hi3
          have := hi3 e he
          have hun : listed.getD (i - 1) false = false := by
            cases hb : listed.getD (i - 1) false with
            | false => rfl
            | true => have := (hl (i - 1)).1 hb; omega
          rw [Nat.eq_of_beq_eq_true h2.2, hun] at this
          simp [h2.1] at this
        · omega
      subst hik
      rw [List.range'_succ, wpOps_cons] at h
      refine wpOp_mono (fun a' w' h' => ih (i + 1) _ a' w' (by omega) (by omega) (by simpa using hsz) (fun j => ?_) h') h
      rw [setD (by omega)]
      by_cases e : i = j
      · subst e; simp
      · rw [beqF e, cond_false, hl j]; omega

def DQ (P : Program) (N : Nat) (ops : Array Oper) (eff : List Nat) (F : St → Prop) (Q : Env → Prop) : Nat → List Oper → Env → Prop
  | _, [], a => Q a
  | i, o :: os, a => cond (memB i eff) (DQ P N ops eff F Q (i + 1) os a) (∃ t, (∀ σ, F σ → StepOK P N ops σ o (Ay a (Ax ops o)) t) ∧ DQ P N ops eff F Q (i + 1) os (put a o.dst t))

def EL (P : Program) (N : Nat) (ops : Array Oper) (F : St → Prop) (fin : Env → St → Prop) (A : Env) : List Nat → Env → St → Prop
  | [], E, σ => F σ ∧ fin (E ++ A) σ
  | i :: is, E, σ => F σ ∧ ∃ o, ops[i]? = some o ∧
      ((Bb ops (Ay (E ++ A) (Ax ops o)) o = some true ∧ AOp P N o (Ay (E ++ A) (Ax ops o)) σ (fun b' σ' => ∃ u, b' = put (Ay (E ++ A) (Ax ops o)) o.dst u ∧ EL P N ops F fin A is (put E o.dst u) σ')) ∨
       (Bb ops (Ay (E ++ A) (Ax ops o)) o = some false ∧ Ai N o.dst = true ∧ EL P N ops F fin A is (put E o.dst (.tup [])) σ))

theorem EL.fam {ops : Array Oper} {F : St → Prop} {fin : Env → St → Prop} {A E : Env} : ∀ {is : List Nat}, EL P N ops F fin A is E σ → F σ
  | [], h => h.1
  | _ :: _, h => h.1

theorem dq_can {ops : Array Oper} {eff : List Nat} {F : St → Prop} {Q : Env → Prop} : ∀ (os : List Oper) (i0 : Nat) (a : Env), DQ P N ops eff F Q i0 os a →
    ∃ rs : List T, rs.length = os.length ∧ (∀ (j : Nat) (o : Oper), os[j]? = some o → memB (i0 + j) eff = false → ∃ t, rs[j]? = some t ∧ ∀ σ, F σ → StepOK P N ops σ o (Ay (A3 (blank eff i0 os) rs a j) (Ax ops o)) t) ∧ Q (A3 (blank eff i0 os) rs a os.length)
  | [], i0, a, h => ⟨[], rfl, fun j o ho => by simp at ho, by simpa [A3, DQ, blank] using h⟩
  | o :: os, i0, a, h => by
    unfold DQ at h
    cases hb : memB i0 eff with
    | true =>
      rw [hb, cond_true] at h
      obtain ⟨rs, k1, k2, k3⟩ := dq_can os _ _ h
      refine ⟨.tup [] :: rs, by simp [k1], fun j o' ho' hj => ?_, by simpa [A3, blank, hb, put] using k3⟩
      cases j with
      | zero => simp [hb] at hj
      | succ j =>
        obtain ⟨t', h3, h4⟩ := k2 j o' (by simpa using ho') (by rwa [show i0 + 1 + j = i0 + (j + 1) by omega])
        exact ⟨t', by simpa using h3, by simpa [A3, blank, hb, put] using h4⟩
    | false =>
      rw [hb, cond_false] at h
      obtain ⟨t, h1, h2⟩ := h
      obtain ⟨rs, k1, k2, k3⟩ := dq_can os _ _ h2
      refine ⟨t :: rs, by simp [k1], fun j o' ho' hj => ?_, by simpa [A3, blank, hb] using k3⟩
      cases j with
      | zero => simp at ho'; subst ho'; exact ⟨t, rfl, by simpa [A3, blank] using h1⟩
      | succ j =>
        obtain ⟨t', h3, h4⟩ := k2 j o' (by simpa using ho') (by rwa [show i0 + 1 + j = i0 + (j + 1) by omega])
        exact ⟨t', by simpa using h3, by simpa [A3, blank, hb] using h4⟩

structure EInv (os : List Oper) (eff : List Nat) (rs : List T) (a0 : Env) (N : Nat) (σ : St) (E : Env) (listed : Array Bool) (av : Act) (w : World) (μ : Gh) : Prop where
  inv : Inv w μ σ
  size : av.tmps.size = N
  defers : av.defers = []
  base : ∀ (s : Nat) (t : T), (∀ (j : Nat) (o : Oper), listed.getD j false = true → os[j]? = some o → o.dst ≠ some s) → get a0 s = some t → ∃ v, av.tmps[s]? = some v ∧ Rel w μ σ v t
  done : ∀ (j : Nat) (o : Oper) (s : Nat) (t : T), listed.getD j false = true → memB j eff = false → os[j]? = some o → o.dst = some s → rs[j]? = some t → ∃ v, av.tmps[s]? = some v ∧ Rel w μ σ v t
  effd : ∀ (s : Nat) (t : T), get E s = some t → ∃ v, av.tmps[s]? = some v ∧ Rel w μ σ v t
  ekey : ∀ (s : Nat) (t : T), get E s = some t → ∃ (j : Nat) (o : Oper), listed.getD j false = true ∧ memB j eff = true ∧ os[j]? = some o ∧ o.dst = some s
  ehas : ∀ (j : Nat) (o : Oper) (s : Nat), listed.getD j false = true → memB j eff = true → os[j]? = some o → o.dst = some s → get E s ≠ none
  closed : ∀ (j : Nat) (o : Oper), listed.getD j false = true → os[j]? = some o → ∀ e ∈ o.after.toList, Region.binds .any e = true → listed.getD e.on false = true

theorem sorted_head {i : Nat} {is : List Nat} (h : sortedB (i :: is) = true) : ∀ j ∈ is, i < j := by
  simp only [sortedB, Bool.and_eq_true] at h
  intro j hj
  have := List.all_eq_true.1 h.1 j hj
  rwa [Nat.blt_eq] at this
theorem sorted_tail {i : Nat} {is : List Nat} (h : sortedB (i :: is) = true) : sortedB is = true := by
  simp only [sortedB, Bool.and_eq_true] at h; exact h.2

theorem wpAny_eff {os : List Oper} {m : Nat} {eff : List Nat} {F : St → Prop} {fin : Env → St → Prop} {rs : List T} {a0 : Env} {Qc : Exit → Act → World → Prop} {w0 : World} {μ0 : Gh} {σ0 : St} (hm : m ≤ os.length) (hc : drawOKE ⟨os⟩ m eff = true) (hl : rs.length = (os.take m).length)
    (hs : ∀ (j : Nat) (o : Oper), (os.take m)[j]? = some o → memB j eff = false → ∃ t, rs[j]? = some t ∧ ∀ σ, F σ → StepOK P N ⟨os⟩ σ o (Ay (A3 (blank eff 0 (os.take m)) rs a0 j) (Ax ⟨os⟩ o)) t)
    (hQ : ∀ av' w' μ' σ' a' listed, listed.size = os.length → (∀ i, listed.getD i false = true ↔ i < m) → Ev w0 μ0 σ0 w' μ' σ' → Inv w' μ' σ' → RelA w' μ' σ' N av' a' → fin a' σ' → wpAny P .any ⟨os⟩ Qc (os.length - m) listed av' w') :
    ∀ (fuel : Nat) (l es : List Nat) (E : Env) (σ : St) (listed : Array Bool) (av : Act) (w : World) (μ : Gh), l.Nodup → l.length = fuel → listed.size = os.length → (∀ i, i ∈ l ↔ i < m ∧ listed.getD i true = false) → (∀ i, listed.getD i false = true → i < m) →
      sortedB es = true → (∀ i, i ∈ es ↔ i ∈ eff ∧ listed.getD i false = false) → EL P N ⟨os⟩ F fin (A3 (blank eff 0 (os.take m)) rs a0 m) es E σ →
      Ev w0 μ0 σ0 w μ σ → EInv (os.take m) eff rs a0 N σ E listed av w μ → wpAny P .any ⟨os⟩ Qc (fuel + (os.length - m)) listed av w := by
  have htl : (os.take m).length = m := by rw [List.length_take]; omega
  have hbl : (blank eff 0 (os.take m)).length = m := by rw [blank_length, htl]
  unfold drawOKE at hc
  simp only [Bool.and_eq_true] at hc
  obtain ⟨⟨⟨hcp, hct0⟩, hcs⟩, hcm⟩ := hc
  have hct : ∀ (i : Nat) (o : Oper), m ≤ i → os[i]? = some o → (∀ e ∈ o.after.toList, Region.binds .any e = true → e.on < i) ∧ (i = m → ∀ j, j < m → hasEdge o j = true) ∧ (m < i → hasEdge o (i - 1) = true) := by
    intro i o hi ho
    have := tailOK_at hct0 (i - m) o (by rw [List.getElem?_drop, show m + (i - m) = i by omega]; exact ho)
    rw [show m + (i - m) = i by omega] at this
    exact ⟨this.1, fun h => this.2.1 (by omega), fun h => this.2.2 (by omega)⟩
  have heffm : ∀ i, i ∈ eff → i < m := fun i hi => by have := List.all_eq_true.1 hcm i hi; rwa [Nat.blt_eq] at this
  have hedge : ∀ (q : Oper) (j : Nat), hasEdge q j = true → ∃ e ∈ q.after.toList, Region.binds .any e = true ∧ e.on = j := by
    intro q j h
    obtain ⟨e, he, h2⟩ := List.any_eq_true.1 h
    simp only [Bool.and_eq_true] at h2
    exact ⟨e, he, h2.1, Nat.eq_of_beq_eq_true h2.2⟩
  -- what the canonical environment says of a slot
  have hcan : ∀ (i s : Nat) (t : T), i ≤ m → get (A3 (blank eff 0 (os.take m)) rs a0 i) s = some t →
      (∃ (j : Nat) (p : Oper), j < i ∧ memB j eff = false ∧ (os.take m)[j]? = some p ∧ p.dst = some s ∧ rs[j]? = some t) ∨ ((∀ (j : Nat) (p : Oper), j < i → memB j eff = false → (os.take m)[j]? = some p → p.dst ≠ some s) ∧ get a0 s = some t) := by
    intro i s t hi hg
    rcases get_envAt _ rs a0 i s t (by rw [hl, htl, hbl]) (by omega) hg with ⟨j, o, h1, h2, h3, h4⟩ | ⟨h1, h2⟩
    · left
      rw [blank_at, Nat.zero_add] at h2
      cases hp : (os.take m)[j]? with
      | none => rw [hp] at h2; cases h2
      | some p =>
        rw [hp, Option.map_some] at h2
        injection h2 with h2
        cases hb : memB j eff with
        | true => rw [hb, cond_true] at h2; subst h2; cases h3
        | false => rw [hb, cond_false] at h2; subst h2; exact ⟨j, p, h1, hb, hp, h3, h4⟩
    · refine .inr ⟨fun j p hj hb hp => ?_, h2⟩
      have := h1 j p hj (by rw [blank_at, Nat.zero_add, hp, Option.map_some, hb, cond_false])
      exact this
  intro fuel
  induction fuel with
  | zero =>
    intro l es E σ listed av w μ hn hlen hsz hmem hlm hso hes hel hev hd
    obtain rfl : l = [] := List.eq_nil_of_length_eq_zero hlen
    have hall : ∀ i, i < m → listed.getD i false = true := by
      intro i hi
      have h1 : ¬ listed.getD i true = false := fun h => by simpa using (hmem i).2 ⟨hi, h⟩
      simp only [Array.getD_eq_getD_getElem?, Array.getElem?_eq_getElem (show i < listed.size by omega), Option.getD_some] at h1 ⊢
      simpa using h1
    obtain rfl : es = [] := by
      cases es with
      | nil => rfl
      | cons i is =>
        obtain ⟨h1, h2⟩ := (hes i).1 (by simp)
        rw [hall i (heffm i h1)] at h2; cases h2
    rw [Nat.zero_add]
    refine hQ av w μ σ _ listed hsz (fun i => ⟨hlm i, hall i⟩) hev hd.inv ⟨hd.size, hd.defers, fun s t ht => ?_⟩ hel.2
    rw [get_append] at ht
    cases hE : get E s with
    | some u => rw [hE] at ht; injection ht with ht; subst ht; exact hd.effd s u hE
    | none =>
      rw [hE] at ht
      rcases hcan m s t (Nat.le_refl _) ht with ⟨j, p, h1, h2, h3, h4, h5⟩ | ⟨h1, h2⟩
      · exact hd.done j p s t (hall j h1) h2 h3 h4 h5
      · refine hd.base s t (fun j p hj hp hps => ?_) h2
        cases hb : memB j eff with
        | true => exact hd.ehas j p s hj hb hp hps hE
        | false => exact h1 j p (by have := (List.getElem?_eq_some_iff.1 hp).1; omega) hb hp hps
  | succ fuel ih =>
    intro l es E σ listed av w μ hn hlen hsz hmem hlm hso hes hel hev hd
    have hdef : ∀ i, i < os.length → listed.getD i true = listed.getD i false := by
      intro i hi
      simp only [Array.getD_eq_getD_getElem?, Array.getElem?_eq_getElem (show i < listed.size by omega), Option.getD_some]
    rw [show fuel + 1 + (os.length - m) = (fuel + (os.length - m)) + 1 by omega]
    refine ⟨fun hr => ?_, fun i hi => ?_⟩
    · exfalso
      obtain ⟨i, hil, him⟩ := minimal (l := l) (by intro h; subst h; simp at hlen)
      obtain ⟨h1, h2⟩ := (hmem i).1 hil
      have : i ∈ Region.ready .any ⟨os⟩ listed := by
        simp only [Region.ready, List.mem_filter, List.mem_range]
        refine ⟨by simp; omega, ?_⟩
        have hil2 : i < os.length := by omega
        have ho : (⟨os⟩ : Array Oper)[i]? = some os[i] := by simp [hil2]
        simp only [h2, ho, Option.map_some, Option.getD_some, Bool.not_false, Bool.true_and]
        rw [← Array.all_toList, List.all_eq_true]
        intro e he
        obtain ⟨k1, _⟩ := okE1_at hcp i os[i] (by rw [List.getElem?_take_of_lt h1, List.getElem?_eq_getElem (by omega)])
        cases hb : Region.binds .any e with
        | false => simp
        | true =>
          have := k1 e he hb
          have h3 : e.on < m := by omega
          have h4 : ¬ e.on ∈ l := fun h => by have := him _ h; omega
          have h5 : ¬ listed.getD e.on true = false := fun h => h4 ((hmem _).2 ⟨h3, h⟩)
          rw [hdef _ (by omega)] at h5
          simpa using h5
      rw [hr] at this; cases this
    · simp only [Region.ready, List.mem_filter, List.mem_range, Bool.and_eq_true] at hi
      obtain ⟨hi1, hi2, hi3⟩ := hi
      have hin0 : i < os.length := by simpa using hi1
      have hil : listed.getD i true = false := by simpa using hi2
      have hilf : listed.getD i false = false := by rw [← hdef i hin0]; exact hil
      obtain ⟨o, ho0⟩ : ∃ o, os[i]? = some o := ⟨_, List.getElem?_eq_getElem hin0⟩
      have ho' : (⟨os⟩ : Array Oper)[i]? = some o := by simpa using ho0
      simp only [ho', Option.map_some, Option.getD_some] at hi3
      rw [← Array.all_toList, List.all_eq_true] at hi3
      have hready : ∀ e ∈ o.after.toList, Region.binds .any e = true → listed.getD e.on false = true := by
        intro e he hb
        have := hi3 e he
        simpa [hb] using this
      have hre : ∀ j, hasEdge o j = true → listed.getD j false = true := by
        intro j hj
        obtain ⟨e, he, hb, hon⟩ := hedge o j hj
        exact hon ▸ hready e he hb
      have hin : i < m := by
        rcases Nat.lt_or_ge i m with h | h
        · exact h
        · exfalso
          obtain ⟨j, hj⟩ : ∃ j, j ∈ l := by cases l with | nil => simp at hlen | cons x l => exact ⟨x, by simp⟩
          obtain ⟨h1, h2⟩ := (hmem j).1 hj
          rcases Nat.lt_or_ge m i with h5 | h5
          · have := hre (i - 1) ((hct i o h ho0).2.2 h5)
            have := hlm (i - 1) this; omega
          · have := hre j ((hct i o h ho0).2.1 (by omega) j (by omega))
            rw [← hdef j (by omega), h2] at this; cases this
      have ho : (os.take m)[i]? = some o := by rw [List.getElem?_take_of_lt hin]; exact ho0
      obtain ⟨hk1, hk2⟩ := okE1_at hcp i o ho
      simp only [Nat.zero_add] at hk1 hk2
      have hpair : ∀ (j : Nat) (p : Oper), (os.take m)[j]? = some p → pairE ⟨os⟩ eff i j o p = true := fun j p hp => by simpa using okE2_at hk2 j p hp
      have hfar : ∀ (n : Nat) (q : Oper) (j : Nat), (∀ e ∈ q.after.toList, Region.binds .any e = true → e.on < m ∧ listed.getD e.on false = true) → far ⟨os⟩ n q j = true → listed.getD j false = true := by
        intro n
        induction n with
        | zero =>
          intro q j hq h
          obtain ⟨e, he, hb, hon⟩ := hedge q j h
          exact hon ▸ (hq e he hb).2
        | succ n ih =>
          intro q j hq h
          rw [far, Bool.or_eq_true] at h
          rcases h with h | h
          · obtain ⟨e, he, hb, hon⟩ := hedge q j h
            exact hon ▸ (hq e he hb).2
          · obtain ⟨e, he, h2⟩ := List.any_eq_true.1 h
            rw [Bool.and_eq_true] at h2
            obtain ⟨h3, h4⟩ := hq e he h2.1
            have h5 := h2.2
            split at h5
            · rename_i p hp
              have hp' : (os.take m)[e.on]? = some p := by rw [List.getElem?_take_of_lt h3]; simpa using hp
              refine ih p j (fun e' he' hb' => ⟨?_, hd.closed e.on p h4 hp' e' he' hb'⟩) h5
              obtain ⟨k1, _⟩ := okE1_at hcp e.on p hp'
              have := k1 e' he' hb'
              omega
            · cases h5
      have hreF : ∀ j, far ⟨os⟩ 2 o j = true → listed.getD j false = true := fun j hj => hfar 2 o j (fun e he hb => ⟨by have := hk1 e he hb; omega, hready e he hb⟩) hj
      have hclosed : ∀ (j : Nat) (p : Oper), listed.getD j false = true → (os.take m)[j]? = some p → far ⟨os⟩ 2 p i = true → False := by
        intro j p hj hp h
        have := hfar 2 p i (fun e he hb => ⟨by obtain ⟨k1, _⟩ := okE1_at hcp j p hp; have := k1 e he hb; have := (List.getElem?_eq_some_iff.1 hp).1; rw [List.length_take] at this; omega, hd.closed j p hj hp e he hb⟩) h
        rw [hilf] at this; cases this
      have hssa : ∀ (j : Nat) (p : Oper) (s : Nat), (os.take m)[j]? = some p → p.dst = some s → i ≠ j → o.dst ≠ some s := by
        intro j p s hp hps hij h
        have := hpair j p hp
        simp [pairE, hps, h, beqF hij] at this
      have hsize : ∀ b, (listed.setIfInBounds i b).size = os.length := by intro b; simpa using hsz
      have hcond : ∀ j, (listed.setIfInBounds i true).getD j false = cond (Nat.beq i j) true (listed.getD j false) := fun j => setD (by omega)
      -- the step behind an operation
      have hnew : ∀ (es' : List Nat) (E' : Env) (σ' : St) (av' : Act) (w' : World) (μ' : Gh) (u : T), sortedB es' = true → (∀ j, j ∈ es' ↔ j ∈ eff ∧ (listed.setIfInBounds i true).getD j false = false) →
          EL P N ⟨os⟩ F fin (A3 (blank eff 0 (os.take m)) rs a0 m) es' E' σ' → Ev w μ σ w' μ' σ' → Inv w' μ' σ' → av'.tmps.size = N → av'.defers = [] → (∀ s, o.dst ≠ some s → av'.tmps[s]? = av.tmps[s]?) →
          (∀ s, o.dst = some s → ∃ v, av'.tmps[s]? = some v ∧ Rel w' μ' σ' v u) →
          (memB i eff = true ∧ E' = put E o.dst u ∨ memB i eff = false ∧ E' = E ∧ rs[i]? = some u) → wpAny P .any ⟨os⟩ Qc (fuel + (os.length - m)) (listed.setIfInBounds i true) av' w' := by
        intro es' E' σ' av' w' μ' u hso' hes' hel' hev' hi' hsz' hdf' hfr hdst hcase
        refine ih (l.erase i) es' E' σ' _ av' w' μ' (hn.erase i) ?_ (hsize _) (fun j => ?_) (fun j hj => ?_) hso' hes' hel' (hev.trans hev') ⟨hi', hsz', hdf', ?_, ?_, ?_, ?_, ?_, ?_⟩
        · rw [List.length_erase_of_mem ((hmem i).2 ⟨hin, hil⟩)]; omega
        · rw [hn.mem_erase_iff, hmem j, setD (by omega)]
          by_cases e : i = j
          · subst e; simp
          · rw [beqF e]; simp only [cond_false]
            exact ⟨fun h => h.2, fun h => ⟨fun h' => e h'.symm, h⟩⟩
        · by_cases e : i = j
          · omega
          · rw [hcond, beqF e] at hj; exact hlm j hj
        · intro s t hno ht
          have hds : o.dst ≠ some s := hno i o (by rw [hcond]; simp) ho
          rw [hfr s hds]
          obtain ⟨v, hv, r⟩ := hd.base s t (fun j p hj hp => hno j p (by rw [hcond, hj]; cases Nat.beq i j <;> rfl) hp) ht
          exact ⟨v, hv, r.ev hev'⟩
        · intro j p s t hj hje hp hps ht
          by_cases e : i = j
          · subst e
            rw [ho] at hp; injection hp with hp; subst hp
            rcases hcase with ⟨h1, _⟩ | ⟨_, _, h1⟩
            · rw [h1] at hje; cases hje
            · rw [ht] at h1; injection h1 with h1; subst h1
              exact hdst s hps
          · rw [hcond, beqF e, cond_false] at hj
            rw [hfr s (hssa j p s hp hps e)]
            obtain ⟨v, hv, r⟩ := hd.done j p s t hj hje hp hps ht
            exact ⟨v, hv, r.ev hev'⟩
        · intro s t ht
          have hold : get E s = some t → o.dst ≠ some s → ∃ v, av'.tmps[s]? = some v ∧ Rel w' μ' σ' v t := by
            intro ht hds
            rw [hfr s hds]
            obtain ⟨v, hv, r⟩ := hd.effd s t ht
            exact ⟨v, hv, r.ev hev'⟩
          have hne : get E s = some t → o.dst ≠ some s := by
            intro ht
            obtain ⟨j, p, h1, h2, h3, h4⟩ := hd.ekey s t ht
            exact hssa j p s h3 h4 (by intro e; subst e; rw [hilf] at h1; cases h1)
          rcases hcase with ⟨_, rfl⟩ | ⟨_, rfl, _⟩
          · cases hdd : o.dst with
            | none => rw [hdd] at ht; exact hold ht (by rw [hdd]; simp)
            | some d =>
              rw [hdd] at ht
              by_cases e : d = s
              · subst e
                have : u = t := by simpa [put, get] using ht
                subst this
                exact hdst d hdd
              · have ht' : get E s = some t := by simpa [put, get, beqF e] using ht
                exact hold ht' (hne ht')
          · exact hold ht (hne ht)
        · intro s t ht
          have hold : get E s = some t → ∃ (j : Nat) (p : Oper), (listed.setIfInBounds i true).getD j false = true ∧ memB j eff = true ∧ (os.take m)[j]? = some p ∧ p.dst = some s := by
            intro ht
            obtain ⟨j, p, h1, h2, h3, h4⟩ := hd.ekey s t ht
            exact ⟨j, p, by rw [hcond, h1]; cases Nat.beq i j <;> rfl, h2, h3, h4⟩
          rcases hcase with ⟨hie, rfl⟩ | ⟨_, rfl, _⟩
          · cases hdd : o.dst with
            | none => rw [hdd] at ht; exact hold ht
            | some d =>
              rw [hdd] at ht
              by_cases e : d = s
              · subst e
                exact ⟨i, o, by rw [hcond]; simp, hie, ho, hdd⟩
              · exact hold (by simpa [put, get, beqF e] using ht)
          · exact hold ht
        · intro j p s hj hje hp hps
          by_cases e : i = j
          · subst e
            rw [ho] at hp; injection hp with hp; subst hp
            rcases hcase with ⟨_, rfl⟩ | ⟨h1, _⟩
            · rw [hps]; simp [put, get]
            · rw [h1] at hje; cases hje
          · rw [hcond, beqF e, cond_false] at hj
            have h0 := hd.ehas j p s hj hje hp hps
            rcases hcase with ⟨_, rfl⟩ | ⟨_, rfl, _⟩
            · cases hdd : o.dst with
              | none => exact h0
              | some d =>
                have : d ≠ s := fun e' => hssa j p s hp hps e (by rw [hdd, e'])
                simpa [put, get, beqF this] using h0
            · exact h0
        · intro j p hj hp e he hb
          rw [hcond]
          cases hij : Nat.beq i e.on with
          | true => rfl
          | false =>
            rw [hcond] at hj
            cases hij2 : Nat.beq i j with
            | true =>
              have := Nat.eq_of_beq_eq_true hij2; subst this
              rw [ho] at hp; injection hp with hp; subst hp
              exact hready e he hb
            | false => rw [hij2] at hj; exact hd.closed j p hj hp e he hb
      unfold wpOp
      simp only [ho']
      cases hie : memB i eff with
      | false =>
        obtain ⟨t, ht, hstep0⟩ := hs i o ho hie
        have hstep := hstep0 σ hel.fam
        have hrel : RelA w μ σ N av (Ay (A3 (blank eff 0 (os.take m)) rs a0 i) (Ax ⟨os⟩ o)) := by
          refine ⟨hd.size, hd.defers, fun s u hu => ?_⟩
          obtain ⟨m1, m2⟩ := get_restr hu
          rcases hcan i s u (by omega) m2 with ⟨j, p, h1, h2, h3, h4, h5⟩ | ⟨h1, h2⟩
          · have := hpair j p h3
            simp only [pairE, h4, memB_of m1, hie, h2, Bool.not_true, Bool.false_or, Bool.and_eq_true, cond_false, show Nat.blt j i = true from (by rw [Nat.blt_eq]; exact h1), cond_true] at this
            exact hd.done j p s u (hreF j this.2.2) h2 h3 h4 h5
          · refine hd.base s u (fun j p hj hp hps => ?_) h2
            have := hpair j p hp
            cases hje : memB j eff with
            | true =>
              simp only [pairE, hps, memB_of m1, hie, hje, Bool.not_true, Bool.false_or, Bool.and_eq_true, cond_false, cond_true] at this
              exact hclosed j p hj hp this.2.2.2
            | false =>
              rcases Nat.lt_trichotomy j i with h | h | h
              · exact h1 j p h hje hp hps
              · subst h; rw [hilf] at hj; cases hj
              · have hb : Nat.blt j i = false := by cases hb : Nat.blt j i with | false => rfl | true => rw [Nat.blt_eq] at hb; omega
                simp only [pairE, hps, memB_of m1, hie, hje, Bool.not_true, Bool.false_or, Bool.and_eq_true, hb, cond_false, show Nat.blt i j = true from (by rw [Nat.blt_eq]; exact h), cond_true] at this
                exact hclosed j p hj hp this.2.2
        have hes' : ∀ j, j ∈ es ↔ j ∈ eff ∧ (listed.setIfInBounds i true).getD j false = false := by
          intro j
          rw [hes j, hcond]
          by_cases e : i = j
          · subst e
            have : ¬ i ∈ eff := fun h => by rw [memB_of h] at hie; cases hie
            simp [this]
          · rw [beqF e, cond_false]
        rcases hstep with ⟨hg, hA⟩ | ⟨hg, rfl, hfit⟩
        · rw [wanted_of hrel hg, if_pos rfl]
          refine .inl ?_
          have := hA (fun a' σ' => a' = put (Ay (A3 (blank eff 0 (os.take m)) rs a0 i) (Ax ⟨os⟩ o)) o.dst t ∧ σ' = σ) ⟨rfl, rfl⟩ av w μ hd.inv hrel (fun av' w' => ∃ μ', Ev w μ σ w' μ' σ ∧ Inv w' μ' σ ∧ RelA w' μ' σ N av' (put (Ay (A3 (blank eff 0 (os.take m)) rs a0 i) (Ax ⟨os⟩ o)) o.dst t)) Qc
            (by rintro av' w' μ' a' σ' h1 h2 h3 ⟨rfl, rfl⟩; exact ⟨μ', h1, h2, h3⟩)
          refine Oper.wp_mono ?_ (upon_frame this)
          rintro av' w' ⟨⟨μ', h1, h2, h3⟩, h4⟩
          exact hnew es E σ av' w' μ' t hso hes' hel h1 h2 h3.size h3.defers h4 (fun s hs => h3.tmp s t (by rw [hs]; simp [put, get])) (.inr ⟨hie, rfl, ht⟩)
        · rw [wanted_of hrel hg, if_neg (by simp)]
          have hp := hrel.put hfit (v := undef) (t := .tup []) (.tup [] #[] rfl fun j c v h1 h2 => by simp at h1)
          refine hnew es E σ _ w μ (.tup []) hso hes' hel (.refl _ _ _) hd.inv hp.size hp.defers (fun s hs => ?_) (fun s hs => ?_) (.inr ⟨hie, rfl, ht⟩)
          · cases hd' : o.dst with
            | none => simp [Act.put]
            | some d =>
              have : d ≠ s := fun e => hs (by rw [hd', e])
              simp [Act.put, Array.getElem?_setIfInBounds, this]
          · exact hp.tmp s _ (by rw [hs]; simp [put, get])
      | true =>
        have hieff : i ∈ eff := memB_iff.1 hie
        obtain ⟨i0, is, rfl⟩ : ∃ i0 is, es = i0 :: is := by
          cases es with
          | nil => have := (hes i).2 ⟨hieff, hilf⟩; cases this
          | cons i0 is => exact ⟨i0, is, rfl⟩
        have hi0 : i = i0 := by
          have h1 := (hes i).2 ⟨hieff, hilf⟩
          rcases List.mem_cons.1 h1 with h | h
          · exact h
          · exfalso
            have hlt := sorted_head hso i h
            obtain ⟨h2, h3⟩ := (hes i0).1 (by simp)
            obtain ⟨p, hp⟩ : ∃ p, (os.take m)[i0]? = some p := ⟨_, List.getElem?_eq_getElem (by have := heffm i0 h2; omega)⟩
            have := hpair i0 p hp
            simp only [pairE, hie, memB_of h2, Bool.and_true, show Nat.blt i0 i = true from (by rw [Nat.blt_eq]; exact hlt), cond_true, Bool.and_eq_true] at this
            rw [hreF i0 this.1] at h3; cases h3
        subst hi0
        obtain ⟨hF, o2, ho2, hcase⟩ := hel
        rw [ho'] at ho2; injection ho2 with ho2; subst ho2
        have hrel : RelA w μ σ N av (Ay (E ++ A3 (blank eff 0 (os.take m)) rs a0 m) (Ax ⟨os⟩ o)) := by
          refine ⟨hd.size, hd.defers, fun s u hu => ?_⟩
          obtain ⟨m1, m2⟩ := get_restr hu
          rw [get_append] at m2
          cases hE : get E s with
          | some u' => rw [hE] at m2; injection m2 with m2; subst m2; exact hd.effd s u' hE
          | none =>
            rw [hE] at m2
            rcases hcan m s u (Nat.le_refl _) m2 with ⟨j, p, h1, h2, h3, h4, h5⟩ | ⟨h1, h2⟩
            · have := hpair j p h3
              simp only [pairE, h4, memB_of m1, hie, h2, Bool.not_true, Bool.false_or, Bool.and_eq_true, cond_false, cond_true] at this
              exact hd.done j p s u (hreF j this.2.2.2) h2 h3 h4 h5
            · refine hd.base s u (fun j p hj hp hps => ?_) h2
              cases hje : memB j eff with
              | true => exact hd.ehas j p s hj hje hp hps hE
              | false => exact h1 j p (by have := (List.getElem?_eq_some_iff.1 hp).1; omega) hje hp hps
        have hes' : ∀ j, j ∈ is ↔ j ∈ eff ∧ (listed.setIfInBounds i true).getD j false = false := by
          intro j
          rw [hcond]
          have h1 := hes j
          by_cases e : i = j
          · subst e
            have : ¬ i ∈ is := fun h => by have := sorted_head hso i h; omega
            simp [this]
          · rw [beqF e, cond_false, ← h1, List.mem_cons]
            exact ⟨.inr, fun h => h.resolve_left (fun h => e h.symm)⟩
        rcases hcase with ⟨hg, hA⟩ | ⟨hg, hfit, hel'⟩
        · rw [wanted_of hrel hg, if_pos rfl]
          refine .inl ?_
          have := hA av w μ hd.inv hrel (fun av' w' => ∃ u σ' μ', EL P N ⟨os⟩ F fin (A3 (blank eff 0 (os.take m)) rs a0 m) is (put E o.dst u) σ' ∧ Ev w μ σ w' μ' σ' ∧ Inv w' μ' σ' ∧ RelA w' μ' σ' N av' (put (Ay (E ++ A3 (blank eff 0 (os.take m)) rs a0 m) (Ax ⟨os⟩ o)) o.dst u)) Qc
            (by rintro av' w' μ' a' σ' h1 h2 h3 ⟨u, rfl, h4⟩; exact ⟨u, σ', μ', h4, h1, h2, h3⟩)
          refine Oper.wp_mono ?_ (upon_frame this)
          rintro av' w' ⟨⟨u, σ', μ', h0, h1, h2, h3⟩, h4⟩
          exact hnew is (put E o.dst u) σ' av' w' μ' u (sorted_tail hso) hes' h0 h1 h2 h3.size h3.defers h4 (fun s hs => h3.tmp s u (by rw [hs]; simp [put, get])) (.inl ⟨hie, rfl⟩)
        · rw [wanted_of hrel hg, if_neg (by simp)]
          have hp := hrel.put hfit (v := undef) (t := .tup []) (.tup [] #[] rfl fun j c v h1 h2 => by simp at h1)
          refine hnew is (put E o.dst (.tup [])) σ _ w μ (.tup []) (sorted_tail hso) hes' hel' (.refl _ _ _) hd.inv hp.size hp.defers (fun s hs => ?_) (fun s hs => ?_) (.inl ⟨hie, rfl⟩)
          · cases hd' : o.dst with
            | none => simp [Act.put]
            | some d =>
              have : d ≠ s := fun e => hs (by rw [hd', e])
              simp [Act.put, Array.getElem?_setIfInBounds, this]
          · exact hp.tmp s _ (by rw [hs]; simp [put, get])

theorem aw_drawE {id m : Nat} {os pre post : List Oper} {a : Env} {Q : Exit → Env → St → Prop} (eff : List Nat) (F : St → Prop) (hm : P.follows .mixedOrders = true) (hc : drawOKE ⟨os⟩ m eff = true) (hml : Nat.ble m os.length = true) (hp : os.take m = pre) (hq : os.drop m = post)
    (h : DQ P N ⟨os⟩ eff F (fun A => EL P N ⟨os⟩ F (fun a' σ' => AL P N ⟨os⟩ Q m post a' σ') A eff [] σ) 0 pre a) : AW P N (.region id ⟨os⟩ true) Q a σ := by
  subst hp; subst hq
  have hml' := Nat.le_of_ble_eq_true hml
  have htl : (os.take m).length = m := by rw [List.length_take]; omega
  intro av w μ hi hr
  obtain ⟨rs, h1, h2, h3⟩ := dq_can (os.take m) 0 a h
  rw [htl] at h3
  have hev : Ev w μ σ { w with drawn := w.drawn + 1 } μ σ := ev_same rfl rfl rfl rfl
  have hi' : Inv { w with drawn := w.drawn + 1 } μ σ := hi.ev_heap rfl hev
  have X1 : ∀ i, i ∈ List.range m ↔ i < m ∧ (Array.replicate os.length false).getD i true = false := by
    intro i
    simp only [List.mem_range]
    constructor
    · intro h; exact ⟨h, by simp [Array.getD]; omega⟩
    · intro h; exact h.1
  have hf : ∀ j, (Array.replicate os.length false).getD j false = true → False := by
    intro j hj
    simp [Array.getD] at hj
  have X3 : EInv (os.take m) eff rs a N σ [] (Array.replicate os.length false) av { w with drawn := w.drawn + 1 } μ :=
    ⟨hi', hr.size, hr.defers, fun s t _ ht => (hr.ev hev).tmp s t ht, fun j o s t hj => (hf j hj).elim, fun s t h => by simp [get] at h, fun s t h => by simp [get] at h, fun j o s hj => (hf j hj).elim, fun j o hj => (hf j hj).elim⟩
  have hso : sortedB eff = true := by
    unfold drawOKE at hc; simp only [Bool.and_eq_true] at hc; exact hc.1.2
  have hct : ∀ (i : Nat) (o : Oper), m ≤ i → os[i]? = some o → (∀ e ∈ o.after.toList, Region.binds .any e = true → e.on < i) ∧ (i = m → ∀ j, j < m → hasEdge o j = true) ∧ (m < i → hasEdge o (i - 1) = true) := by
    intro i o hi ho
    unfold drawOKE at hc; simp only [Bool.and_eq_true] at hc
    have := tailOK_at hc.1.1.2 (i - m) o (by rw [List.getElem?_drop, show m + (i - m) = i by omega]; exact ho)
    rw [show m + (i - m) = i by omega] at this
    exact ⟨this.1, fun h => this.2.1 (by omega), fun h => this.2.2 (by omega)⟩
  have key := wpAny_eff (w0 := w) (μ0 := μ) (σ0 := σ) (Qc := fun e av' w' => ∃ a' σ' μ', Ev w μ σ w' μ' σ' ∧ Inv w' μ' σ' ∧ RelA w' μ' σ' N av' a' ∧ Q e a' σ') hml' hc h1 (fun j o ho hj => h2 j o ho (by rwa [Nat.zero_add]))
    (fun av' w' μ' σ' a' listed k1 k2 k3 k4 k5 k6 => wpAny_tail hct _ m listed av' w' (by omega) (Nat.le_refl _) k1 k2 (by
      have := k6 rfl av' w' μ' k4 k5 _ (fun e av2 w2 μ2 a2 σ2 l1 l2 l3 l4 => (⟨a2, σ2, μ2, k3.trans l1, l2, l3, l4⟩ : ∃ a' σ' μ2, Ev w μ σ w2 μ2 σ' ∧ Inv w2 μ2 σ' ∧ RelA w2 μ2 σ' N av2 a' ∧ Q e a' σ'))
      rwa [List.length_drop] at this))
    m (List.range m) eff [] σ (Array.replicate os.length false) av { w with drawn := w.drawn + 1 } μ List.nodup_range (by simp) (by simp) X1 (fun j hj => (hf j hj).elim) hso (fun i => ⟨fun h => ⟨h, by simp [Array.getD]⟩, fun h => h.1⟩) h3 hev X3
  refine wp_region_any hm ?_
  rw [show m + (os.length - m) = os.length by omega] at key
  exact key

inductive Sp {α : Type} : Nat → List α → List α → List α → Prop
  | zero (l : List α) : Sp 0 l [] l
  | succ {n : Nat} {x : α} {l p q : List α} (h : Sp n l p q) : Sp (n + 1) (x :: l) (x :: p) q
theorem Sp.eq {α : Type} {n : Nat} {l p q : List α} (h : Sp n l p q) : l.take n = p ∧ l.drop n = q ∧ n ≤ l.length := by
  induction h with
  | zero l => exact ⟨rfl, rfl, Nat.zero_le _⟩
  | succ h ih => exact ⟨by simp [ih.1], by simpa using ih.2.1, by simpa using ih.2.2⟩
theorem Bh {id m : Nat} {os pre post : List Oper} {a : Env} {Q : Exit → Env → St → Prop} (eff : List Nat) (F : St → Prop) (hm : P.follows .mixedOrders = true) (hc : drawOKE ⟨os⟩ m eff = true) (hs : Sp m os pre post)
    (h : let O1 : Array Oper := ⟨os⟩; let F1 := F; let Z1 := fun a' σ' => AL P N O1 Q m post a' σ'; let Q2 := fun A => EL P N O1 F1 Z1 A eff [] σ; DQ P N O1 eff F1 Q2 0 pre a) : AW P N (.region id ⟨os⟩ true) Q a σ :=
  aw_drawE eff F hm hc (Nat.ble_eq_true_of_le hs.eq.2.2) hs.eq.1 hs.eq.2.1 h

variable {ops : Array Oper} {eff : List Nat} {F : St → Prop} {QE : Env → Prop} {a : Env}
theorem dq_nil {i : Nat} (h : QE a) : DQ P N ops eff F QE i [] a := h
theorem dq_e {i : Nat} {o : Oper} {os : List Oper} (hb : memB i eff = true) (h : DQ P N ops eff F QE (i + 1) os a) : DQ P N ops eff F QE i (o :: os) a := by
  unfold DQ; rw [hb]; exact h
theorem dq_cons {i : Nat} {o : Oper} {os : List Oper} {d : Tmp} {t : T} (hb : memB i eff = false) (hg : Bb ops (Ay a (Ax ops o)) o = some true) (hdd : o.dst = some d)
    (hs : ∀ σ, F σ → ∀ K : Env → St → Prop, K (put (Ay a (Ax ops o)) (some d) t) σ → AOp P N o (Ay a (Ax ops o)) σ K) (h : DQ P N ops eff F QE (i + 1) os (put a (some d) t)) : DQ P N ops eff F QE i (o :: os) a := by
  generalize some d = dd at *; subst hdd; unfold DQ; rw [hb]; exact ⟨t, fun σ hσ => .inl ⟨hg, hs σ hσ⟩, h⟩
theorem dq_s {i : Nat} {o : Oper} {os : List Oper} {d : Tmp} (hb : memB i eff = false) (hg : Bb ops (Ay a (Ax ops o)) o = some false) (hdd : o.dst = some d) (hd : Ai N (some d) = true) (h : DQ P N ops eff F QE (i + 1) os (put a (some d) (.tup []))) : DQ P N ops eff F QE i (o :: os) a := by
  generalize some d = dd at *; subst hdd; unfold DQ; rw [hb]; exact ⟨.tup [], fun σ hσ => .inr ⟨hg, rfl, hd⟩, h⟩
theorem dq_d {i : Nat} {o : Oper} {os : List Oper} {d : Tmp} {p : Prop} (hb : memB i eff = false) (hg : Bb ops (Ay a (Ax ops o)) o = some true) (hdd : o.dst = some d)
    (hs : ∀ σ, F σ → ∀ K : Env → St → Prop, (p → K (put (Ay a (Ax ops o)) (some d) (.bool true)) σ) → (¬ p → K (put (Ay a (Ax ops o)) (some d) (.bool false)) σ) → AOp P N o (Ay a (Ax ops o)) σ K)
    (kt : p → DQ P N ops eff F QE (i + 1) os (put a (some d) (.bool true))) (kf : ¬ p → DQ P N ops eff F QE (i + 1) os (put a (some d) (.bool false))) : DQ P N ops eff F QE i (o :: os) a := by
  by_cases h : p
  · exact dq_cons hb hg hdd (fun σ hσ K kk => hs σ hσ K (fun _ => kk) (fun h' => absurd h h')) (kt h)
  · exact dq_cons hb hg hdd (fun σ hσ K kk => hs σ hσ K (fun h' => absurd h' h) (fun _ => kk)) (kf h)
variable {fin : Env → St → Prop} {A E : Env}
theorem el_nil (hF : F σ) (h : fin (E ++ A) σ) : EL P N ops F fin A [] E σ := ⟨hF, h⟩
theorem A1 {i : Nat} {is : List Nat} {o : Oper} {d : Tmp} (hF : F σ) (ho : ops[i]? = some o) (hg : Bb ops (Ay (E ++ A) (Ax ops o)) o = some true) (hdd : o.dst = some d)
    (h : ∀ K : Env → St → Prop, (∀ u σ', EL P N ops F fin A is (put E (some d) u) σ' → K (put (Ay (E ++ A) (Ax ops o)) (some d) u) σ') → AOp P N o (Ay (E ++ A) (Ax ops o)) σ K) : EL P N ops F fin A (i :: is) E σ := by
  generalize some d = dd at *
  subst hdd
  exact ⟨hF, o, ho, .inl ⟨hg, h _ (fun u σ' k => ⟨u, rfl, k⟩)⟩⟩
theorem Ba {i : Nat} {is : List Nat} {o : Oper} (hF : F σ) (ho : ops[i]? = some o) (hg : Bb ops (Ay (E ++ A) (Ax ops o)) o = some true) (hdd : o.dst = none)
    (h : ∀ K : Env → St → Prop, (∀ u σ', EL P N ops F fin A is (put E none u) σ' → K (put (Ay (E ++ A) (Ax ops o)) none u) σ') → AOp P N o (Ay (E ++ A) (Ax ops o)) σ K) : EL P N ops F fin A (i :: is) E σ := by
  generalize (none : Option Tmp) = dd at *
  subst hdd
  exact ⟨hF, o, ho, .inl ⟨hg, h _ (fun u σ' k => ⟨u, rfl, k⟩)⟩⟩
theorem el_s {i : Nat} {is : List Nat} {o : Oper} {d : Tmp} (hF : F σ) (ho : ops[i]? = some o) (hg : Bb ops (Ay (E ++ A) (Ax ops o)) o = some false) (hdd : o.dst = some d) (hd : Ai N (some d) = true) (h : EL P N ops F fin A is (put E (some d) (.tup [])) σ) : EL P N ops F fin A (i :: is) E σ := by
  generalize some d = dd at *
  subst hdd
  exact ⟨hF, o, ho, .inr ⟨hg, hd, h⟩⟩
end
end Go.Ts
namespace Go.Ts
set_option linter.unusedSimpArgs false
set_option linter.unusedVariables false

class Enc {α : Type} (f : α → T) (sz : outParam Nat) : Prop where
  scal : ∀ x c, c ∈ (f x).cells → c.scalar = true
  size : ∀ x, (f x).cells.length = sz
theorem enc_scal {α : Type} (f : α → T) {sz : Nat} [Enc f sz] (l : List α) : Scal (l.map f) := by
  intro c hc
  simp only [flat, List.mem_flatMap, List.mem_map] at hc
  obtain ⟨t, ⟨x, _, rfl⟩, hc⟩ := hc
  exact Enc.scal x c hc
def hT (c : UInt16) : T := .int .u16 c.toNat
def qT (c : UInt64) : T := .int .u64 c.toNat
def iT (n : Int) : T := .int .i64 n
def sT (b : List UInt8) : T := .sl 1 .no (b.map bT)
instance : Enc bT 1 := ⟨fun x c h => by simp [bT, T.cells] at h; subst h; rfl, fun x => rfl⟩
instance : Enc hT 1 := ⟨fun x c h => by simp [hT, T.cells] at h; subst h; rfl, fun x => rfl⟩
instance : Enc qT 1 := ⟨fun x c h => by simp [qT, T.cells] at h; subst h; rfl, fun x => rfl⟩
instance : Enc iT 1 := ⟨fun x c h => by simp [iT, T.cells] at h; subst h; rfl, fun x => rfl⟩
instance : Enc sT 1 := ⟨fun x c h => by simp [sT, T.cells] at h; subst h; rfl, fun x => rfl⟩

theorem bytesOf_inv : ∀ {xs : List T} {b : List UInt8}, bytesOf xs = some b → xs = b.map bT
  | [], b, h => by simp [bytesOf] at h; subst h; rfl
  | x :: xs, b, h => by
    simp only [bytesOf] at h
    split at h
    · rename_i c s hc hs
      injection h with h; subst h
      rw [List.map_cons, bytesOf_inv hs]
      congr 1
      unfold byteOfT at hc
      split at hc
      · rename_i n
        cases hb : (decide (0 ≤ n) && decide (n < 256)) with
        | false => rw [hb] at hc; cases hc
        | true =>
          rw [hb] at hc
          simp only [cond_true] at hc
          injection hc with hc; subst hc
          simp only [Bool.and_eq_true, decide_eq_true_eq] at hb
          unfold bT
          congr 1
          have : (UInt8.ofNat n.toNat).toNat = n.toNat := by simp [UInt8.toNat_ofNat]; omega
          rw [this]; omega
      · cases hc
    · cases h
def bytesT : T → Option (List UInt8)
  | .nilsl => some []
  | .sl 1 _ xs => bytesOf xs
  | _ => none
theorem Bd (own : Own) (l : List UInt8) : bytesT (.sl 1 own (l.map bT)) = some l := bytesOf_map l
theorem bytesT_s (l : List UInt8) : bytesT (sT l) = some l := bytesOf_map l
theorem bytesT_wk {x : T} {b : List UInt8} (h : bytesT x = some b) : Wk x (sT b) := by
  unfold bytesT at h
  split at h
  · injection h with h; subst h; exact Wk.nil 1
  · rename_i own xs
    rw [bytesOf_inv h]; exact Wk.own 1 own _
  · cases h
def catOfT : T → Option UInt16
  | .int .u16 n => cond (decide (0 ≤ n) && decide (n < 65536)) (some (UInt16.ofNat n.toNat)) none
  | _ => none
def catsOf : List T → Option (List UInt16)
  | [] => some []
  | t :: r => match catOfT t, catsOf r with
    | some b, some s => some (b :: s)
    | _, _ => none
theorem catsOf_map : ∀ (l : List UInt16), catsOf (l.map hT) = some l
  | [] => rfl
  | x :: l => by
    have hx := x.toNat_lt
    have : catOfT (hT x) = some x := by
      unfold hT catOfT
      have h1 : (decide ((0 : Int) ≤ (x.toNat : Int)) && decide ((x.toNat : Int) < 65536)) = true := by simp; omega
      simp only [h1, cond_true]
      simp
    simp only [List.map_cons, catsOf, this, catsOf_map l]
def cT (l : List UInt16) : T := .sl 1 .no (l.map hT)
instance : Enc cT 1 := ⟨fun x c h => by simp [cT, T.cells] at h; subst h; rfl, fun x => rfl⟩
def catsT : T → Option (List UInt16)
  | .nilsl => some []
  | .sl 1 _ xs => catsOf xs
  | _ => none
theorem catsT_map (own : Own) (l : List UInt16) : catsT (.sl 1 own (l.map hT)) = some l := catsOf_map l
theorem catsT_c (l : List UInt16) : catsT (cT l) = some l := catsOf_map l
section
variable {P : Program} {G : Nat → Option TI} {N : Nat} {σ : St} {a : Env} {Q : Exit → Env → St → Prop} {α : Type}

theorem op_len (hG : Fits P G) {K : Env → St → Prop} {o : Oper} {x : Operand} {t e sz : Nat} {own : Own} {xs : List T} {ti : TI} {n : Nat}
    (hop : o.op = .call { callee := .builtin .len, args := #[x], argTypes := #[t] }) (hx : Ad a x = some (.sl sz own xs)) (ht : G t = some ti) (htd : ti.d = .slice e) {d : Tmp} (hdd : o.dst = some d) (hd : Ai N (some d) = true)
    (hn : xs.length = n) (k : K (put a (some d) (.int .i64 n)) σ) : AOp P N o a σ K := by
  refine op_q' hG _ ?_ rfl hdd hd (by rw [← hn] at k; exact k)
  obtain ⟨d1, s1, s2, s3⟩ := ti
  simp only at htd; subst htd
  simp only [hop, Av, hx, ht, Option.map_some]

theorem op_lenm (hG : Fits P G) {K : Env → St → Prop} {o : Oper} {x : Operand} {t e sz : Nat} {own : Own} {f : α → T} {l : List α} {ti : TI}
    (hop : o.op = .call { callee := .builtin .len, args := #[x], argTypes := #[t] }) (hx : Ad a x = some (.sl sz own (l.map f))) (ht : G t = some ti) (htd : ti.d = .slice e) {d : Tmp} (hdd : o.dst = some d) (hd : Ai N (some d) = true)
    (k : K (put a (some d) (.int .i64 l.length)) σ) : AOp P N o a σ K := op_len hG hop hx ht htd hdd hd (by simp) k

theorem op_idxm [Inhabited α] (hG : Fits P G) {K : Env → St → Prop} {o : Oper} {t : TypeId} {x ix : Operand} {k : IntKind} {n : Int} {sz e : Nat} {own : Own} {f : α → T} {l : List α} {ti te : TI}
    (hop : o.op = .indexAddr t x ix) (hn : Ad a ix = some (.int k n)) (hx : Ad a x = some (.sl sz own (l.map f))) (ht : G t = some ti) (htd : ti.d = .slice e) (hte : G e = some te) (hsz : Nat.beq sz te.size = true) {d : Tmp} (hdd : o.dst = some d) (hd : Ai N (some d) = true)
    (h0 : 0 ≤ n ∧ n < l.length) (kk : K (put a (some d) (.ro (f (l.getD n.toNat default)) 0)) σ) : AOp P N o a σ K := by
  refine op_idx hG hop hn hx ht htd hte hsz hdd hd h0.1 ?_ kk
  have h : n.toNat < l.length := by omega
  simp [List.getD_eq_getElem?_getD, List.getElem?_eq_getElem h]

theorem op_slm (hG : Fits P G) {K : Env → St → Prop} {o : Oper} {t : TypeId} {x : Operand} {lo hi : Option Operand} {k k' : IntKind} {l h : Int} {sz e : Nat} {own : Own} {f : α → T} {xs : List α} {ti te : TI}
    (hop : o.op = .slice t x lo hi none) (hx : Ad a x = some (.sl sz own (xs.map f))) (hl : (lo.map (Ad a)).getD (some (.int .i64 0)) = some (.int k l)) (hh : (hi.map (Ad a)).getD (some (.int .i64 (xs.map f).length)) = some (.int k' h))
    (ht : G t = some ti) (htd : ti.d = .slice e) (hte : G e = some te) (hsz : Nat.beq sz te.size = true) {d : Tmp} (hdd : o.dst = some d) (hd : Ai N (some d) = true)
    (hb : 0 ≤ l ∧ l ≤ h ∧ h ≤ xs.length) (kk : K (put a (some d) (.sl sz .no (((xs.take h.toNat).drop l.toNat).map f))) σ) : AOp P N o a σ K := by
  intro av w μ hi' hr next Qc hn
  refine op_slice hG hop hx hl hh ht htd hte hsz hdd hd (by simpa using hb) (K := fun a' σ' => ∃ o, a' = put a (some d) (.sl sz o (((xs.take h.toNat).drop l.toNat).map f)) ∧ σ' = σ) ⟨_, by rw [← List.map_take, ← List.map_drop], rfl⟩ av w μ hi' hr next Qc ?_
  rintro av' w' μ' a' σ' h1 h2 h3 ⟨o', rfl, rfl⟩
  refine hn av' w' μ' _ _ h1 h2 ⟨h3.size, h3.defers, fun i t hi => ?_⟩ kk
  by_cases e : d = i
  · subst e
    have : t = .sl sz .no (((xs.take h.toNat).drop l.toNat).map f) := by simpa [put, get] using hi.symm
    subst this
    obtain ⟨v, hv, r⟩ := h3.tmp d (T.sl sz o' (((xs.take h.toNat).drop l.toNat).map f)) (by simp [put, get])
    exact ⟨v, hv, Wk.own _ _ _ _ _ _ _ r⟩
  · exact h3.tmp i t (by simpa [put, get, beqF e] using hi)

theorem op_slm_lo (hG : Fits P G) {K : Env → St → Prop} {o : Oper} {t : TypeId} {x lo : Operand} {k : IntKind} {l : Int} {sz e : Nat} {own : Own} {f : α → T} {xs : List α} {ti te : TI}
    (hop : o.op = .slice t x (some lo) none none) (hx : Ad a x = some (.sl sz own (xs.map f))) (hl : Ad a lo = some (.int k l))
    (ht : G t = some ti) (htd : ti.d = .slice e) (hte : G e = some te) (hsz : Nat.beq sz te.size = true) {d : Tmp} (hdd : o.dst = some d) (hd : Ai N (some d) = true)
    (hb : 0 ≤ l ∧ l ≤ xs.length) (kk : K (put a (some d) (.sl sz .no ((xs.drop l.toNat).map f))) σ) : AOp P N o a σ K := by
  refine op_slm hG hop hx (k := k) (l := l) hl (k' := .i64) (h := xs.length) (by simp) ht htd hte hsz hdd hd ⟨hb.1, hb.2, Int.le_refl _⟩ ?_
  simpa using kk
theorem op_slm_hi (hG : Fits P G) {K : Env → St → Prop} {o : Oper} {t : TypeId} {x hi : Operand} {k : IntKind} {h : Int} {sz e : Nat} {own : Own} {f : α → T} {xs : List α} {ti te : TI}
    (hop : o.op = .slice t x none (some hi) none) (hx : Ad a x = some (.sl sz own (xs.map f))) (hh : Ad a hi = some (.int k h))
    (ht : G t = some ti) (htd : ti.d = .slice e) (hte : G e = some te) (hsz : Nat.beq sz te.size = true) {d : Tmp} (hdd : o.dst = some d) (hd : Ai N (some d) = true)
    (hb : 0 ≤ h ∧ h ≤ xs.length) (kk : K (put a (some d) (.sl sz .no ((xs.take h.toNat).map f))) σ) : AOp P N o a σ K := by
  refine op_slm hG hop hx (k := .i64) (l := 0) rfl (k' := k) (h := h) hh ht htd hte hsz hdd hd ⟨Int.le_refl _, hb.1, hb.2⟩ ?_
  simpa using kk
def big8 : IntKind → Bool
  | .u16 | .u32 | .u64 | .i16 | .i32 | .i64 | .u8 => true
  | _ => false
def big16 : IntKind → Bool
  | .u16 | .u32 | .u64 | .i32 | .i64 => true
  | _ => false
theorem wrap8 {k : IntKind} (h : big8 k = true) (x : UInt8) : k.wrap (x.toNat : Int) = x.toNat := by
  have := x.toNat_lt
  cases k <;> first | (cases h; done) | (simp [IntKind.wrap, IntKind.bits, IntKind.signed]; omega)
theorem wrap16 {k : IntKind} (h : big16 k = true) (x : UInt16) : k.wrap (x.toNat : Int) = x.toNat := by
  have := x.toNat_lt
  cases k <;> first | (cases h; done) | (simp [IntKind.wrap, IntKind.bits, IntKind.signed]; omega)
theorem op_str (hG : Fits P G) {K : Env → St → Prop} {o : Oper} {src dst : TypeId} {x : Operand} {t : T} {s : List UInt8} {e : Nat} {ts td te : TI}
    (hop : o.op = .convert src dst x) (hx : Ad a x = some t) (hs : G src = some ts) (hsd : ts.d = .slice e) (hd1 : G dst = some td) (hdd1 : td.d = .str) (he : G e = some te) (hed : te.d = .int .u8) {d : Tmp} (hdd : o.dst = some d) (hd : Ai N (some d) = true)
    (hb : bytesT t = some s) (kk : K (put a (some d) (.str s)) σ) : AOp P N o a σ K := by
  refine op_q hG ?_ hdd hd kk
  obtain ⟨d1, s1, s2, s3⟩ := ts
  obtain ⟨d2, t1, t2, t3⟩ := td
  obtain ⟨d3, u1, u2, u3⟩ := te
  simp only at hsd hdd1 hed; subst hsd; subst hdd1; subst hed
  unfold bytesT at hb
  split at hb
  · injection hb with hb; subst hb
    simp only [hop, Av, hx, hs, hd1, he]
  · simp only [hop, Av, hx, hs, hd1, he, hb, Option.map_some]
  · cases hb

theorem op_appm (n : Nat) {f : α → T} {sz : Nat} [Enc f sz] (hG : Fits P G) {K : Env → St → Prop} {o : Oper} {x y : Operand} {t1 t2 : TypeId} {e : Nat} {i1 i2 ie : TI} {k0 : Nat} {xs ys : List α} {zs : List T} {ty : T}
    (hop : o.op = .call { callee := .builtin .append, args := #[x, y], argTypes := #[t1, t2] }) (hx : Ad a x = some (.sl sz (.tok k0) (xs.map f))) (hRn : σ.R[n]? = some k0) (hnx : σ.nx = none) (h1 : G t1 = some i1) (h1d : i1.d = .slice e) (he : G e = some ie) (h2 : G t2 = some i2) (h2d : ∃ e2, i2.d = .slice e2)
    (hy : Ad a y = some ty) (hsrc : srcOf (fun _ => none) sz ty = some zs) (hsz : (Nat.beq sz ie.size && Nat.blt 0 sz && Nat.ble ie.bytes 4096) = true) {d : Tmp} (hdd : o.dst = some d) (hd : Ai N (some d) = true)
    (hz : zs = ys.map f) (hlen : xs.length + ys.length ≤ 4294967296)
    (k : ∀ k', K (put a (some d) (.sl sz (.tok k') ((xs ++ ys).map f))) (σ.tk n k')) : AOp P N o a σ K := by
  subst hz
  refine op_append n hG hop hx hRn hnx h1 h1d he h2 h2d hy hsrc hsz hdd hd (enc_scal f ys) (by simpa using hlen) fun k' => ?_
  rw [← List.map_append]; exact k k'
theorem op_app0m {f : α → T} {sz : Nat} [Enc f sz] (hG : Fits P G) {K : Env → St → Prop} {o : Oper} {x y : Operand} {t1 t2 : TypeId} {e : Nat} {i1 i2 ie : TI} {xs ys : List α} {us zs : List T} {tx ty : T}
    (hop : o.op = .call { callee := .builtin .append, args := #[x, y], argTypes := #[t1, t2] }) (hx : Ad a x = some tx) (hnr : noRoom tx = some us) (hnx : σ.nx = none) (h1 : G t1 = some i1) (h1d : i1.d = .slice e) (he : G e = some ie) (h2 : G t2 = some i2) (h2d : ∃ e2, i2.d = .slice e2)
    (hnz : noRoomSz sz tx = true) (hy : Ad a y = some ty) (hsrc : srcOf (fun _ => none) sz ty = some zs) (hsz : (Nat.beq sz ie.size && Nat.blt 0 sz && Nat.ble ie.bytes 4096) = true) {d : Tmp} (hdd : o.dst = some d) (hd : Ai N (some d) = true)
    (hu : us = xs.map f) (hz : zs = ys.map f) (hlen : xs.length + ys.length ≤ 4294967296)
    (k : ∀ k', K (put a (some d) (.sl sz (.tok k') ((xs ++ ys).map f))) { σ with R := k' :: σ.R }) : AOp P N o a σ K := by
  subst hz; subst hu
  simp only [Bool.and_eq_true] at hsz
  obtain rfl : sz = ie.size := Nat.eq_of_beq_eq_true hsz.1.1
  refine op_append0 (sz := 0) hG hop hx hnr hnx h1 h1d he h2 h2d hnz hy hsrc (by simp [hsz.1.2, hsz.2]) hdd hd (enc_scal f ys) (by simpa using hlen) fun k' => ?_
  rw [← List.map_append]; exact k k'
end
end Go.Ts
set_option linter.unusedVariables false
set_option linter.unusedSimpArgs false
namespace Go.Ts
section
variable {P : Program} {G : Nat → Option TI} {w w1 : World} {μ : Gh} {σ σ1 : St} {N : Nat} {a : Env} {Q : Exit → Env → St → Prop}

def zerosT (ti : TI) (n : Nat) : List T := (List.replicate n ti.tree).flatMap T.cells

theorem replicate_flat {α : Type} (l : List α) (s n k : Nat) (hs : l.length = s) : ((List.replicate n l).flatMap id)[k]? = if k < n * s then l[k % s]? else none := by
  induction n generalizing k with
  | zero => simp
  | succ n ih =>
    rw [List.replicate_succ, List.flatMap_cons]
    simp only [id]
    have hm : (n + 1) * s = n * s + s := by rw [Nat.add_mul]; omega
    rcases Nat.lt_or_ge k s with h | h
    · rw [List.getElem?_append_left (by omega), if_pos (by omega), Nat.mod_eq_of_lt h]
    · rw [List.getElem?_append_right (by omega), ih, hs, hm]
      have : k % s = (k - s) % s := Nat.mod_eq_sub_mod h
      rw [this]
      by_cases h2 : k < n * s + s
      · rw [if_pos h2, if_pos (by omega)]
      · rw [if_neg h2, if_neg (by omega)]

theorem zeros_rel (hG : Fits P G) {e : Nat} {ti : TI} (he : G e = some ti) (hs0 : 0 < ti.size) (n : Nat) : ∃ z, (∀ w, (zeroValue e).run P w = .ok z w) ∧ z.cells.size = ti.size ∧ (zerosT ti n).length = n * ti.size ∧
    ∀ (w : World) (μ : Gh) (σ : St) (j : Nat) (t : T) (v : Value), (zerosT ti n)[j]? = some t → ((Array.range (n * ti.size)).map fun q => z.cells[q % z.cells.size]!)[j]? = some v → Rel w μ σ v t := by
  obtain ⟨i0, d0, k1, k2, k3, k4, k5, k6, k7, k8⟩ := hG e ti he
  have hz : ∀ w, (zeroValue e).run P w = .ok (if ti.d.agg then .agg (ti.zero.map Z.value).toArray else (ti.zero.headD .b).value) w := by
    intro w; simp only [zeroValue, typeInfo, Sem.run_bind, run_program, Result.andThen_ok, k1, k6, Sem.run_pure]
  obtain ⟨z, uz, _, hz1, hz2⟩ := g_zero (P := P) (w := default) (μ := μ0) (σ := σ0) hG he
  have hzz : ∀ w, (zeroValue e).run P w = .ok z w := by
    rw [hz] at uz; injection uz with uz; intro w; rw [hz, uz]
  have hflat : zerosT ti n = (List.replicate n ti.tree.cells).flatMap id := by
    unfold zerosT
    rw [List.flatMap_id, List.flatMap_def, List.map_replicate]
  refine ⟨z, hzz, hz1, ?_, fun w μ σ j t v ht hv => ?_⟩
  · rw [hflat, List.flatMap_id, List.length_flatten]; simp [hz2]
  · rw [hflat, replicate_flat _ ti.size n j hz2] at ht
    split at ht
    · rename_i hj
      obtain ⟨z', uz', rz, _, _⟩ := g_zero (P := P) (w := w) (μ := μ) (σ := σ) hG he
      have : z' = z := by rw [hzz] at uz'; injection uz' with uz'; exact uz'.symm
      subst this
      have hraw : notRaw ti.tree = true := by
        unfold TI.tree; split
        · rfl
        · cases ti.zero.headD .b <;> rfl
      obtain ⟨_, hc2⟩ := rz.cells (notRaw_ne hraw)
      simp [hj] at hv
      have hmod : j % ti.size < ti.size := Nat.mod_lt _ hs0
      refine hc2 (j % ti.size) t v ht ?_
      rw [hz1] at hv
      rw [Array.getElem?_eq_getElem (by omega)]
      rw [← hv]
      simp [hz1, hmod]
    · cases ht

theorem op_makeX (hG : Fits P G) {K : Env → St → Prop} {o : Oper} {t : TypeId} {x y : Operand} {k k' : IntKind} {n : Int} {e : Nat} {ti te : TI}
    (hop : o.op = .makeSlice t x y) (ht : G t = some ti) (htd : ti.d = .slice e) (he : G e = some te) (hx : Ad a x = some (.int k n)) (hy : Ad a y = some (.int k' n))
    (hsz : (Nat.blt 0 te.size && Nat.ble te.bytes 4096) = true) {d : Tmp} (hdd : o.dst = some d) (hd : Ai N (some d) = true) (hn : 0 ≤ n ∧ n ≤ 4294967296)
    (kk : ∀ i, (∀ m, σ.nx = some m → i = m) → K (put a (some d) (.aref te.size i 0 n.toNat (some n.toNat))) (σ.new i (.cells (zerosT te n.toNat)))) : AOp P N o a σ K := by
  generalize some d = dd at *
  subst hdd
  intro av w μ hi hr next Qc hnx
  simp only [Bool.and_eq_true, Nat.blt_eq] at hsz
  have hby := Nat.le_of_ble_eq_true hsz.2
  obtain ⟨n, rfl⟩ := Int.eq_ofNat_of_zero_le hn.1
  simp only [Int.toNat_natCast] at kk
  obtain ⟨d1, u1, f1⟩ := Aq (P := P) (w := w) hG ht
  rw [htd] at f1; obtain rfl := A0 f1
  have us := g_size (P := P) (w := w) hG he
  obtain ⟨info, ui, hib, his⟩ := g_info (P := P) (w := w) hG he
  obtain ⟨z, hz, hz1, hz2, hz3⟩ := zeros_rel hG he hsz.1 n
  have rx := Al hr hx
  have ry := Al hr hy
  generalize hvx : av.eval x = vx at rx
  generalize hvy : av.eval y = vy at ry
  cases rx; cases ry
  generalize hcells : (Array.range (n * te.size)).map (fun q => z.cells[q % z.cells.size]!) = cells at hz3
  have hcs : cells.size = n * te.size := by rw [← hcells]; simp
  have hw64 : IntKind.i64.wrap (n : Int) = n := i64_in (by omega) (by omega)
  have hrun : (execOp av.eval o).run P w = .ok (.value (.slice (some ⟨w.heap.size, 0, none⟩) n n)) (w.alloc (.cells cells e)) := by
    have h1 : ¬ ((n : Int) < 0) := by omega
    have h2 : (info.bytes : Int) * (n : Int) ≤ 4096 * 4294967296 := by
      rw [hib]
      have : (te.bytes : Int) * (n : Int) ≤ 4096 * (n : Int) := Int.mul_le_mul_of_nonneg_right (by omega) (by omega)
      omega
    have h3 : ¬ (281474976710656 < (info.bytes : Int) * (n : Int)) := by omega
    simp [execOp, hop, Instr.makeSlice, u1, hvx, hvy, asInt, asIntOf, ui, hw64, h1, h3, us]
    by_cases hz0 : n = 0
    · subst hz0
      have : cells = #[] := by
        have : cells.size = 0 := by rw [hcs]; simp
        exact Array.eq_empty_of_size_eq_zero this
      have h00 : Array.map (fun x => (default : Value)) (Array.range 0) = #[] := Array.eq_empty_of_size_eq_zero (by simp)
      simp [newRow, this, h00]
    · have hpos : 0 < n * te.size := Nat.mul_pos (by omega) hsz.1
      have hne : ¬ (n = 0 ∨ te.size = 0) := by omega
      simp [hne, hz, hcells, newRow]
      intro h00; omega
  obtain ⟨i, f1, f2, f3, f4⟩ := hi.pick
  obtain ⟨ev, hi'⟩ := new_step hi cells e f1 f2 f3 f4 (ts := zerosT te n) (by rw [hz2, hcs]; exact Nat.le_refl _) (fun j c u hc hu => hz3 _ _ _ j c u hc (by simpa using hu))
  unfold Oper.wp
  rw [hrun]
  refine hnx _ _ _ _ _ ev hi' ((hr.ev ev).put hd (Rel.aref i w.heap.size 0 0 n n te.size _ (A6 _ _) (Nat.le_refl _) (fun x hx => by injection hx) ⟨cells, e, _, Bl w _, by rw [hcs]; simp⟩)) (kk i f3)

theorem op_make (hG : Fits P G) {K : Env → St → Prop} {o : Oper} {t : TypeId} {x y : Operand} {k k' : IntKind} {n : Int} {e : Nat} {ti te : TI}
    (hop : o.op = .makeSlice t x y) (ht : G t = some ti) (htd : ti.d = .slice e) (he : G e = some te) (hx : Ad a x = some (.int k n)) (hy : Ad a y = some (.int k' n))
    (hsz : (Nat.blt 0 te.size && Nat.ble te.bytes 4096) = true) {d : Tmp} (hdd : o.dst = some d) (hd : Ai N (some d) = true) (hn : 0 ≤ n ∧ n ≤ 4294967296)
    (kk : ∀ i, K (put a (some d) (.aref te.size i 0 n.toNat (some n.toNat))) (σ.new i (.cells (zerosT te n.toNat)))) : AOp P N o a σ K :=
  op_makeX hG hop ht htd he hx hy hsz hdd hd hn (fun i _ => kk i)

theorem zeroCells_append (z : Array Value) (n m : Nat) : Builtin.zeroCells z n ++ Builtin.zeroCells z m = Builtin.zeroCells z (n + m) := by
  apply Array.ext
  · simp [Builtin.zeroCells, Nat.add_mul]
  · intro j h1 h2
    simp only [Builtin.zeroCells, Array.size_append, Array.size_map, Array.size_range] at h1 h2
    rcases Nat.lt_or_ge j (n * z.size) with h | h
    · rw [Array.getElem_append_left (by simpa [Builtin.zeroCells] using h)]
      simp [Builtin.zeroCells]
    · rw [Array.getElem_append_right (by simpa [Builtin.zeroCells] using h)]
      simp only [Builtin.zeroCells, Array.getElem_map, Array.getElem_range, Array.size_map, Array.size_range]
      congr 1
      have : j = (j - n * z.size) + z.size * n := by rw [Nat.mul_comm z.size n]; omega
      conv => rhs; rw [this, Nat.add_mul_mod_self_left]

theorem op_zeros (hG : Fits P G) {K : Env → St → Prop} {o : Oper} {x y : Operand} {t1 t2 : TypeId} {e : Nat} {i1 i2 te : TI} {k k' : IntKind} {n : Int}
    (hop : o.op = .call { callee := .builtin .append, args := #[x, y], argTypes := #[t1, t2] }) (h1 : G t1 = some i1) (h1d : i1.d = .slice e) (he : G e = some te) (h2 : G t2 = some i2) (h2d : i2.d = .int k')
    (hx : Ad a x = some .nilsl) (hy : Ad a y = some (.int k n)) (hsz : (Nat.blt 0 te.size && Nat.ble te.bytes 4096) = true) {d : Tmp} (hdd : o.dst = some d) (hd : Ai N (some d) = true) (hn : 0 < n ∧ n ≤ 4294967296)
    (kk : ∀ i cap, n.toNat ≤ cap → K (put a (some d) (.aref te.size i 0 n.toNat (some cap))) (σ.new i (.cells (zerosT te cap)))) : AOp P N o a σ K := by
  generalize some d = dd at *
  subst hdd
  intro av w μ hi hr next Qc hnx
  simp only [Bool.and_eq_true, Nat.blt_eq] at hsz
  have hby := Nat.le_of_ble_eq_true hsz.2
  obtain ⟨n, rfl⟩ := Int.eq_ofNat_of_zero_le (Int.le_of_lt hn.1)
  simp only [Int.toNat_natCast] at kk
  have hn1 : 0 < n := by omega
  obtain ⟨d1, u1, f1⟩ := Aq (P := P) (w := w) hG h1
  rw [h1d] at f1; obtain rfl := A0 f1
  obtain ⟨d2, u2, f2⟩ := Aq (P := P) (w := w) hG h2
  rw [h2d] at f2; obtain rfl := td_int f2
  have us : ∀ w, (sizeOf e).run P w = .ok te.size w := fun w => g_size hG he
  obtain ⟨info, hib, his, ui⟩ : ∃ info : TypeInfo, info.bytes = te.bytes ∧ info.size = te.size ∧ ∀ w, (typeInfo e).run P w = .ok info w := by
    obtain ⟨i0, d0, k1, k2, k3, k4, k5, _⟩ := hG e te he
    exact ⟨i0, k5, k4, fun w => by simp [typeInfo, k1]⟩
  have rx := Al hr hx
  have ry := Al hr hy
  generalize hvx : av.eval x = vx at rx
  generalize hvy : av.eval y = vy at ry
  cases rx; cases ry
  obtain ⟨z, hz, hz1, _, _⟩ := zeros_rel hG he hsz.1 n
  have hw64 : IntKind.i64.wrap (n : Int) = n := i64_in (by omega) (by omega)
  have hq1 : ¬ ((n : Int) < 0) := by omega
  have hq2 : ¬ (281474976710656 < (n : Int) * (info.bytes : Int)) := by
    rw [hib]
    have : (n : Int) * (te.bytes : Int) ≤ 4294967296 * 4096 := by
      have h3 : n * te.bytes ≤ 4294967296 * 4096 := Nat.mul_le_mul (by omega) hby
      rw [← Int.natCast_mul]; omega
    omega
  have hq3 : ¬ (281474976710656 < Builtin.nextslicecap n 0 * info.bytes) := by
    have h1 := nextslicecap_le n 0 hn1
    have h2 : Builtin.nextslicecap n 0 * info.bytes ≤ 8589935360 * 4096 := Nat.mul_le_mul (by omega) (by omega)
    omega
  have hq4 : ¬ (9223372036854775807 < (n : Int)) := by omega
  have hfo : (Question.appendCap n 0 e).forced = false := rfl
  have hn0 : ¬ (n = 0) := by omega
  have hne : ¬ (n = 0 ∨ te.size = 0) := by omega
  generalize hcap : (Question.appendCap n 0 e).cut (w.tape w.drawn (.appendCap n 0 e)) = cap
  have hnc : n ≤ cap := by rw [← hcap]; simp only [Question.cut]; omega
  have hrun : (execOp av.eval o).run P w = .ok (.value (.slice (some ⟨w.heap.size, 0, none⟩) n cap)) (w.drew.alloc (.cells (Builtin.zeroCells z.cells cap) e)) := by
    have hzc : Builtin.zeroCells z.cells n ++ Builtin.zeroCells z.cells (cap - n) = Builtin.zeroCells z.cells cap := by
      rw [zeroCells_append]; congr 1; omega
    simp [execOp, hop, resolve, invoke, builtin, Builtin.append_, u1, u2, hvx, hvy, asInt, asIntOf, ui, hw64, hq1, hq2, hq3, hq4, us, hn0, hne, hz, hfo, hcap, Builtin.firstCells, newRow, hzc]
    have hpos : 0 < n * te.size := Nat.mul_pos hn1 hsz.1
    intro h00; omega
  obtain ⟨z', hz', hz1', hz2', hz3'⟩ := zeros_rel hG he hsz.1 cap
  have hzz : z' = z := by have := (hz' w).symm.trans (hz w); injection this
  subst hzz
  have hcs : (Builtin.zeroCells z'.cells cap).size = cap * te.size := by rw [zeroCells_size, hz1]
  have ev1 : Ev w μ σ w.drew μ σ := ev_same rfl rfl rfl rfl
  have hi1 : Inv w.drew μ σ := hi.ev_heap rfl ev1
  obtain ⟨i, f1, f2, f3, f4⟩ := hi1.pick
  obtain ⟨ev2, hi'⟩ := new_step hi1 (Builtin.zeroCells z'.cells cap) e f1 f2 f3 f4 (ts := zerosT te cap) (by rw [hz2', hcs]; exact Nat.le_refl _) (fun j c u hc hu => hz3' _ _ _ j c u hc (by rw [Nat.zero_add] at hu; rw [← hu]; unfold Builtin.zeroCells; rw [hz1]))
  have ev := ev1.trans ev2
  unfold Oper.wp
  rw [hrun]
  refine hnx _ _ _ _ _ ev hi' ((hr.ev ev).put hd (Rel.aref i w.heap.size 0 0 n cap te.size _ (A6 _ _) hnc (fun x hx => by injection hx) ⟨_, e, _, Bl w.drew _, by rw [hcs]; simp⟩)) (kk i cap hnc)

theorem erase_imm (hi : Inv w μ σ) {n i b p : Nat} {o : Ob} (hn : σ.L[n]? = some (i, o)) (hl : μ.loc i = some (b, p)) (q : Nat) : Imm w μ { σ with L := σ.L.eraseIdx n } b q := by
  have hin := List.mem_of_getElem? hn
  refine ⟨hi.lts hin hl, hi.offobj i o b p hin hl q, fun j ob p' h1 h2 => ?_, fun k f t h1 h2 h3 => ?_⟩
  · obtain ⟨m, hm⟩ := List.getElem?_of_mem h1
    rw [List.getElem?_eraseIdx] at hm
    split at hm
    · rename_i hlt
      have := hi.inj m n j i ob o b p' p hm hn h2 hl; omega
    · rename_i hge
      have := hi.inj (m + 1) n j i ob o b p' p hm hn h2 hl; omega
  · obtain ⟨b', f', t', r1, r2, r3⟩ := hi.room k h1
    rw [h2] at r1; injection r1 with r1; injection r1 with r1 r4; injection r4 with r4 r5
    subst r4; subst r5; subst r1
    obtain ⟨_, h6, _⟩ := r3 (by omega)
    exact h6 i o p hin hl
theorem erase_step (n : Nat) : GStep σ { σ with L := σ.L.eraseIdx n } := by
  have := Bc (σ := σ) (List.eraseIdx_sublist σ.L n) (List.Sublist.refl σ.R)
  exact this
theorem freeze_value (hi : Inv w μ σ) {n i o m sz : Nat} {cap : Option Nat} {ts : List T} {v : Value} (hn : σ.L[n]? = some (i, .cells ts)) (r : Rel w μ σ v (.aref sz i o m cap))
    (hle : o + m * sz ≤ ts.length) (hsc : ((ts.drop o).take (m * sz)).all T.scalar = true) : Rel w μ { σ with L := σ.L.eraseIdx n } v (.sl sz .no (chunks sz m ((ts.drop o).take (m * sz)))) := by
  cases r with
  | aref i b p o m c sz cap hl hc hcap hb =>
    obtain ⟨hf1, hf2⟩ := chunks_flat sz m _ hsc (by simp; omega)
    rw [List.take_take, Nat.min_self] at hf1
    obtain ⟨b', p', hl', hcells⟩ := hi.cells (List.mem_of_getElem? hn)
    rw [hl] at hl'; injection hl' with hl'; injection hl' with e1 e2; subst e1; subst e2
    refine sl_mk (chunks_length _ _ _) hc trivial hf2 fun k t hk => ?_
    rw [hf1, List.getElem?_take] at hk
    split at hk
    · rw [List.getElem?_drop] at hk
      obtain ⟨u, hu, ru⟩ := hcells (o + k) t hk
      rw [← Nat.add_assoc] at hu
      exact ⟨erase_imm hi hn hl _, u, hu, ru.ev (erase_step n w μ hi).2⟩
    · cases hk
theorem aw_freeze (n j : Nat) {c : Code} {i o m sz : Nat} {cap : Option Nat} {ts : List T} (hg : get a j = some (.aref sz i o m cap)) (hn : σ.L[n]? = some (i, .cells ts)) (hle : o + m * sz ≤ ts.length) (hsc : ((ts.drop o).take (m * sz)).all T.scalar = true)
    (h : AW P N c Q ((j, .sl sz .no (chunks sz m ((ts.drop o).take (m * sz)))) :: a) { σ with L := σ.L.eraseIdx n }) : AW P N c Q a σ := by
  refine aw_conv (fun w μ av hi hr => ?_) h
  obtain ⟨i1, e1⟩ := erase_step n w μ hi
  obtain ⟨v, hv, r⟩ := hr.tmp j _ hg
  have hr1 := hr.ev e1
  refine ⟨μ, i1, e1, hr1.size, hr1.defers, fun x u hx => ?_⟩
  by_cases e : j = x
  · subst e
    have : T.sl sz .no (chunks sz m ((ts.drop o).take (m * sz))) = u := by simpa [get] using hx
    subst this
    exact ⟨v, hv, freeze_value hi hn r hle hsc⟩
  · exact hr1.tmp x u (by simpa [get, beqF e] using hx)
theorem aw_room (n j : Nat) {c : Code} {i m sz c0 : Nat} {ts : List T} (hg : get a j = some (.aref sz i 0 m (some c0))) (hn : σ.L[n]? = some (i, .cells ts)) (hm : m = 0) (hnx : σ.nx = none)
    (h : ∀ k, AW P N c Q ((j, .sl sz (.tok k) []) :: a) { σ with L := σ.L.eraseIdx n, R := k :: σ.R }) : AW P N c Q a σ := by
  subst hm
  intro av w μ hi hr
  obtain ⟨k, f1, f2, f3, f4⟩ := hi.pick
  obtain ⟨i1, e1⟩ := erase_step n w μ hi
  obtain ⟨v, hv, r⟩ := hr.tmp j _ hg
  cases r with
  | aref i b p o m c1 sz cap hl hc hcap hb =>
  have hin := List.mem_of_getElem? hn
  obtain ⟨b', p', cs, e, hl', hh, hlen, hcells⟩ := hi.obj i ts hin
  rw [hl] at hl'; injection hl' with hl'; injection hl' with q1 q2; subst q1; subst q2
  have hbd : p + c1 * sz ≤ cs.size := by
    obtain ⟨c2, e2, f2', h1, h2⟩ := hb
    rw [hh] at h1; injection h1 with h1; injection h1 with h1; subst h1; simpa using h2
  have old : ∀ l, l ∈ σ.R → l ≠ k := by
    rintro l hl rfl
    obtain ⟨b', f', t', h1, _⟩ := hi.room l hl
    rw [f2] at h1; cases h1
  have new : ∀ b2 f t, (μ.addT k (b, p, p + c1 * sz)).tok k = some (b2, f, t) → b2 = b ∧ f = p ∧ t = p + c1 * sz := by
    intro b2 f t h; rw [addT_same] at h; injection h with h; injection h with h1 h; injection h with h2 h3; exact ⟨h1.symm, h2.symm, h3.symm⟩
  have himm := fun q => erase_imm hi hn hl q
  have hother : ∀ l b2 f t, l ∈ σ.R → μ.tok l = some (b2, f, t) → f < t → b2 ≠ b := by
    rintro l b2 f t h1 h2 h3 rfl
    obtain ⟨b', f', t', r1, r2, r3⟩ := hi.room l h1
    rw [h2] at r1; injection r1 with r1; injection r1 with r1 r4; injection r4 with r4 r5
    subst r4; subst r5; subst r1
    exact (r3 h3).2.1 i _ p hin hl
  have ev : Ev w μ σ w (μ.addT k (b, p, p + c1 * sz)) { σ with L := σ.L.eraseIdx n, R := k :: σ.R } := by
    refine ⟨.refl _ _, fun _ _ h => h, addT_mono f2, rfl, fun _ _ h => h, fun x hb hlv => ⟨?_, rfl⟩, fun x q h => ⟨⟨h.lt, h.off, fun i' ob p' h1 => h.obj i' ob p' ((List.eraseIdx_sublist _ _).subset h1), fun l g u h1 h2 => ?_⟩, rfl⟩⟩
    · rintro (⟨i', ob, p', h1, h2⟩ | ⟨l, f, t, h1, h2, h3⟩)
      · exact hlv (.inl ⟨i', ob, p', (List.eraseIdx_sublist _ _).subset h1, h2⟩)
      · rcases List.mem_cons.1 h1 with rfl | h1
        · obtain ⟨rfl, rfl, rfl⟩ := new _ _ _ h2; exact hlv (.inl ⟨i, _, _, hin, hl⟩)
        · rw [addT_ne _ (old l h1)] at h2; exact hlv (.inr ⟨l, f, t, h1, h2, h3⟩)
    · rcases List.mem_cons.1 h1 with rfl | h1
      · obtain ⟨rfl, rfl, rfl⟩ := new _ _ _ h2; exact absurd hl (h.obj i _ _ hin)
      · rw [addT_ne _ (old l h1)] at h2; exact h.room l g u h1 h2
  have inv : Inv w (μ.addT k (b, p, p + c1 * sz)) { σ with L := σ.L.eraseIdx n, R := k :: σ.R } := by
    refine ⟨fun i' us hx => ?_, fun i' es hx => ?_, i1.inj, fun l hl2 => ?_, fun n1 m1 l l' b2 f t g u h1 h2 h3 h4 h5 h6 => ?_, ⟨k + 1, fun j hj => ⟨(f4 j (by omega)).1, by rw [addT_ne _ (by omega)]; exact (f4 j (by omega)).2⟩, fun m hm => by rw [show ({ σ with L := σ.L.eraseIdx n, R := k :: σ.R } : St).nx = σ.nx from rfl, hnx] at hm; cases hm⟩, hi.offlt, i1.offobj⟩
    · obtain ⟨b, p, c, e, h1, h2, h3, h4⟩ := hi.obj i' us ((List.eraseIdx_sublist _ _).subset hx)
      exact ⟨b, p, c, e, h1, h2, h3, fun j t v h5 h6 => (h4 j t v h5 h6).ev ev⟩
    · obtain ⟨b, c, e, h1, h2, h3, h4⟩ := hi.map i' es ((List.eraseIdx_sublist _ _).subset hx)
      exact ⟨b, c, e, h1, h2, h3, fun j k u e h5 h6 => let ⟨h7, h8⟩ := h4 j k u e h5 h6; ⟨h7.ev ev, h8.ev ev⟩⟩
    · rcases List.mem_cons.1 hl2 with rfl | hl2
      · refine ⟨b, p, p + c1 * sz, addT_same _ _, by omega, fun hlt => ⟨⟨cs, e, hh, hbd⟩, fun i' ob p' h1 h2 => (himm 0).obj i' ob p' h1 h2, fun o _ _ => (himm o).off⟩⟩
      · obtain ⟨b2, f, t, h1, h2, h3⟩ := hi.room l hl2
        refine ⟨b2, f, t, by rw [addT_ne _ (old l hl2)]; exact h1, h2, fun hlt => ?_⟩
        obtain ⟨h4, h5, h6⟩ := h3 hlt
        exact ⟨h4, fun i' ob p' h7 => h5 i' ob p' ((List.eraseIdx_sublist _ _).subset h7), h6⟩
    · have h1' : (k :: σ.R)[n1]? = some l := h1
      have h2' : (k :: σ.R)[m1]? = some l' := h2
      cases n1 with
      | zero =>
        simp at h1'; subst h1'
        cases m1 with
        | zero => rfl
        | succ m1 =>
          have e2 : σ.R[m1]? = some l' := by simpa using h2'
          obtain ⟨rfl, rfl, rfl⟩ := new _ _ _ h3
          have hm2 := List.mem_of_getElem? e2
          rw [addT_ne _ (old l' hm2)] at h4
          exact absurd rfl (hother l' _ g u hm2 h4 h6)
      | succ n1 =>
        have e1 : σ.R[n1]? = some l := by simpa using h1'
        have hm1 := List.mem_of_getElem? e1
        rw [addT_ne _ (old l hm1)] at h3
        cases m1 with
        | zero =>
          simp at h2'; subst h2'
          obtain ⟨rfl, rfl, rfl⟩ := new _ _ _ h4
          exact absurd rfl (hother l _ f t hm1 h3 h5)
        | succ m1 =>
          have e2 : σ.R[m1]? = some l' := by simpa using h2'
          rw [addT_ne _ (old l' (List.mem_of_getElem? e2))] at h4
          rw [hi.rinj n1 m1 l l' b2 f t g u e1 e2 h3 h4 h5 h6]
  have hr1 := hr.ev ev
  refine wp_mono (h k av w _ inv ⟨hr1.size, hr1.defers, fun x u hx => ?_⟩) fun e av' w' ⟨a', σ', μ', k1, k2, k3, k4⟩ => ⟨a', σ', μ', ev.trans k1, k2, k3, k4⟩
  by_cases e : j = x
  · subst e
    have : T.sl sz (.tok k) [] = u := by simpa [get] using hx
    subst this
    refine ⟨_, hv, .sl b (p + 0) c1 sz _ [] 0 rfl (Nat.zero_le _) ⟨_, addT_same _ _, .inl (by simp)⟩ (fun i x hx => by simp at hx) (fun i x j c hx => by simp at hx) (fun i x j c v hx => by simp at hx)⟩
  · exact hr1.tmp x u (by simpa [get, beqF e] using hx)

theorem op_cut0 (hG : Fits P G) {K : Env → St → Prop} {o : Oper} {t : TypeId} {x : Operand} {lo hi : Option Operand} {k k' : IntKind} {sz e i p n c0 : Nat} {ti te : TI}
    (hop : o.op = .slice t x lo hi none) (hx : Ad a x = some (.aref sz i p n (some c0))) (hl : (lo.map (Ad a)).getD (some (.int .i64 0)) = some (.int k 0)) (hh : (hi.map (Ad a)).getD (some (.int .i64 n)) = some (.int k' 0))
    (ht : G t = some ti) (htd : ti.d = .slice e) (hte : G e = some te) (hsz : Nat.beq sz te.size = true) {d : Tmp} (hdd : o.dst = some d) (hd : Ai N (some d) = true)
    (kk : K (put a (some d) (.aref sz i p 0 (some c0))) σ) : AOp P N o a σ K := by
  generalize some d = dd at *
  subst hdd
  intro av w μ hiv hr next Qc hn
  obtain rfl : sz = te.size := Nat.eq_of_beq_eq_true hsz
  obtain ⟨d1, e1, f1⟩ := Aq (P := P) (w := w) hG ht
  rw [htd] at f1; obtain rfl := A0 f1
  have hs := g_size (w := w) (P := P) hG hte
  have rx := Al hr hx
  have opt : ∀ (x : Option Operand) (d k : IntKind) (m l : Int), (x.map (Ad a)).getD (some (.int d m)) = some (.int k l) → (x.map av.eval = none ∧ l = m) ∨ ∃ k', x.map av.eval = some (.int k' l) := by
    intro x d k m l hl
    cases x with
    | none => simp at hl; exact .inl ⟨rfl, hl.2.symm⟩
    | some x =>
      simp at hl
      have := Al hr hl
      generalize hv : av.eval x = v at this
      cases this
      exact .inr ⟨k, by simp [hv]⟩
  generalize hv : av.eval x = vx at rx
  cases rx with
  | aref i b q p n c sz cap hloc hc hcap hb =>
    have hsb := sliceBounds_run (P := P) (w := w) (n := n) (cap := c) (opt lo _ _ _ _ hl) (opt hi _ _ _ _ hh) (Int.le_refl _) (Int.le_refl _) (by omega) hc
    have hrun : (execOp av.eval o).run P w = .ok (.value (.slice (some ⟨b, q + p, none⟩) 0 c)) w := by
      have h9 : (Instr.sliceAt t (.slice (some ⟨b, q + p, none⟩) n c) (lo.map av.eval) (hi.map av.eval) none).run P w = .ok (.slice (some ⟨b, q + p, none⟩) 0 c) w := by
        simp only [Int.toNat_zero] at hsb
        have h0 : (⟨b, q + p, none⟩ : Addr).add 0 = ⟨b, q + p, none⟩ := by rw [add_at]; rfl
        simp [Instr.sliceAt, Instr.slice, e1, hsb, hs, h0]
      simp only [execOp, hop, hv, Option.map_none, Sem.run_bind, h9, Result.andThen_ok, Sem.run_pure]
    unfold Oper.wp
    rw [hrun]
    exact hn _ _ _ _ _ (.refl _ _ _) hiv (hr.put hd (.aref i b q p 0 c _ _ hloc (Nat.zero_le _) hcap hb)) kk
end
end Go.Ts
namespace Go.Ts
set_option linter.unusedSimpArgs false
set_option linter.unusedVariables false
section
variable {P : Program} {G : Nat → Option TI} {w w1 : World} {μ : Gh} {σ : St} {N : Nat} {a : Env} {Q : Exit → Env → St → Prop}

def St.era (σ : St) (n : Nat) : St := { σ with L := σ.L.eraseIdx n }
theorem era_get {n m : Nat} {x : Nat × Ob} (h : (σ.era n).L[m]? = some x) : ∃ m', m' ≠ n ∧ σ.L[m']? = some x ∧ (m < n → m' = m) ∧ (n ≤ m → m' = m + 1) := by
  simp only [St.era, List.getElem?_eraseIdx] at h
  split at h
  · rename_i hlt; exact ⟨m, by omega, h, fun _ => rfl, fun h => by omega⟩
  · rename_i hge; exact ⟨m + 1, by omega, h, fun h => by omega, fun _ => rfl⟩
theorem era_mem {n : Nat} {x : Nat × Ob} (h : x ∈ (σ.era n).L) : x ∈ σ.L := (List.eraseIdx_sublist _ _).subset h

theorem rename_step (hi : Inv w μ σ) {n i i' b p o : Nat} {ts : List T} (hn : σ.L[n]? = some (i, .cells ts)) (hl : μ.loc i = some (b, p)) (ho : o ≤ ts.length)
    (hf : μ.loc i' = none) (hft : μ.tok i' = none) (hfn : ∀ n, σ.nx = some n → i' = n) (hfj : ∀ j, i' ≤ j → μ.loc j = none ∧ μ.tok j = none) :
    Ev w μ σ w (μ.addL i' (b, p + o)) ((σ.era n).new i' (.cells (ts.drop o))) ∧ Inv w (μ.addL i' (b, p + o)) ((σ.era n).new i' (.cells (ts.drop o))) := by
  have hin := List.mem_of_getElem? hn
  obtain ⟨b', p', c, e, hl', hh, hlen, hcells⟩ := hi.obj i ts hin
  rw [hl] at hl'; injection hl' with hl'; injection hl' with q1 q2; subst q1; subst q2
  have hmem : ∀ j x, (j, x) ∈ ((σ.era n).new i' (.cells (ts.drop o))).L → (j = i' ∧ x = .cells (ts.drop o)) ∨ ((j, x) ∈ (σ.era n).L ∧ j ≠ i') := by
    intro j x h
    rcases List.mem_cons.1 h with h | h
    · injection h with h1 h2; exact .inl ⟨h1, h2⟩
    · exact .inr ⟨h, fun e => hi.idlt (era_mem h) (e ▸ hf)⟩
  have hne : ∀ j x b2 p2, (j, x) ∈ (σ.era n).L → μ.loc j = some (b2, p2) → b2 ≠ b := by
    rintro j x b2 p2 h1 h2 rfl
    obtain ⟨m, hm⟩ := List.getElem?_of_mem h1
    obtain ⟨m', h3, h4, _⟩ := era_get hm
    exact h3 (hi.inj m' n j i x _ _ p2 p h4 hn h2 hl)
  have ev : Ev w μ σ w (μ.addL i' (b, p + o)) ((σ.era n).new i' (.cells (ts.drop o))) := by
    refine ⟨.refl _ _, addL_mono hf, fun _ _ h => h, rfl, fun _ _ h => h, fun x hb hlv => ⟨?_, rfl⟩, fun x q h => ⟨⟨h.lt, h.off, fun j y p' h1 h2 => ?_, h.room⟩, rfl⟩⟩
    · rintro (⟨j, y, p', h1, h2⟩ | h)
      · rcases hmem j y h1 with ⟨rfl, _⟩ | ⟨h1, hne'⟩
        · rw [A6] at h2; injection h2 with h2; injection h2 with h2; subst h2; exact hlv (.inl ⟨i, _, p, hin, hl⟩)
        · rw [addL_ne _ hne'] at h2; exact hlv (.inl ⟨j, y, p', era_mem h1, h2⟩)
      · exact hlv (.inr h)
    · rcases hmem j y h1 with ⟨rfl, _⟩ | ⟨h1, hne'⟩
      · rw [A6] at h2; injection h2 with h2; injection h2 with h2; subst h2; exact h.obj i _ p hin hl
      · rw [addL_ne _ hne'] at h2; exact h.obj j y p' (era_mem h1) h2
  refine ⟨ev, fun j us h => ?_, fun j es h => ?_, fun n1 m j k x y b2 p2 q2 h1 h2 h3 h4 => ?_, fun k hk => ?_, hi.rinj, ⟨i' + 1, fun j hj => ⟨by rw [addL_ne _ (by omega)]; exact (hfj j (by omega)).1, (hfj j (by omega)).2⟩, fun m hm => ?_⟩, hi.offlt, fun j x b2 p2 h1 h2 => ?_⟩
  · rcases hmem j _ h with ⟨rfl, h1⟩ | ⟨h1, hne'⟩
    · injection h1 with h1; subst h1
      refine ⟨b, p + o, c, e, A6 _ _, hh, by rw [List.length_drop]; omega, fun m t v h2 h3 => ?_⟩
      rw [List.getElem?_drop] at h2
      rw [Nat.add_assoc] at h3
      exact (hcells (o + m) t v h2 h3).ev ev
    · obtain ⟨b2, p2, c2, e2, h2, h3, h4, h5⟩ := hi.obj j us (era_mem h1)
      exact ⟨b2, p2, c2, e2, by rw [addL_ne _ hne']; exact h2, h3, h4, fun m t v h6 h7 => (h5 m t v h6 h7).ev ev⟩
  · rcases hmem j _ h with ⟨rfl, h1⟩ | ⟨h1, hne'⟩
    · cases h1
    · obtain ⟨b2, en, cl, h2, h3, h4, h5⟩ := hi.map j es (era_mem h1)
      exact ⟨b2, en, cl, by rw [addL_ne _ hne']; exact h2, h3, h4, fun m k u e' h6 h7 => let ⟨h8, h9⟩ := h5 m k u e' h6 h7; ⟨h8.ev ev, h9.ev ev⟩⟩
  · have hnew : ∀ (b2 p2 : Nat), (μ.addL i' (b, p + o)).loc i' = some (b2, p2) → b2 = b := by
      intro b2 p2 h; rw [A6] at h; injection h with h; injection h with h; exact h.symm
    have hold : ∀ (n1 j : Nat) (x : Ob) (b2 p2 : Nat), (σ.era n).L[n1]? = some (j, x) → (μ.addL i' (b, p + o)).loc j = some (b2, p2) → μ.loc j = some (b2, p2) ∧ b2 ≠ b := by
      intro n1 j x b2 p2 h1 h2
      have hm := List.mem_of_getElem? h1
      have hne' : j ≠ i' := by rintro rfl; exact hi.idlt (era_mem hm) hf
      rw [addL_ne _ hne'] at h2
      exact ⟨h2, hne j x b2 p2 hm h2⟩
    cases n1 with
    | zero =>
      have e1 : (i', Ob.cells (ts.drop o)) = (j, x) := by simpa [St.new] using h1
      injection e1 with e1 e2; subst e1
      cases m with
      | zero => rfl
      | succ m => exact absurd (hnew b2 p2 h3) (hold m k y b2 q2 (by simpa [St.new] using h2) h4).2
    | succ n1 =>
      cases m with
      | zero =>
        have e1 : (i', Ob.cells (ts.drop o)) = (k, y) := by simpa [St.new] using h2
        injection e1 with e1 e2; subst e1
        exact absurd (hnew b2 q2 h4) (hold n1 j x b2 p2 (by simpa [St.new] using h1) h3).2
      | succ m =>
        have h1' : (σ.era n).L[n1]? = some (j, x) := by simpa [St.new] using h1
        have h2' : (σ.era n).L[m]? = some (k, y) := by simpa [St.new] using h2
        obtain ⟨n2, g1, g2, g3, g4⟩ := era_get h1'
        obtain ⟨m2, k1, k2, k3, k4⟩ := era_get h2'
        have := hi.inj n2 m2 j k x y b2 p2 q2 g2 k2 (hold n1 j x b2 p2 h1' h3).1 (hold m k y b2 q2 h2' h4).1
        omega
  · obtain ⟨b2, f, t, h1, h2, h3⟩ := hi.room k hk
    refine ⟨b2, f, t, h1, h2, fun hlt => ?_⟩
    obtain ⟨h4, h6, h7⟩ := h3 hlt
    refine ⟨h4, fun j x p' h8 h9 => ?_, h7⟩
    rcases hmem j x h8 with ⟨rfl, _⟩ | ⟨h, hne'⟩
    · rw [A6] at h9; injection h9 with h9; injection h9 with h9; subst h9; exact h6 i _ p hin hl
    · rw [addL_ne _ hne'] at h9; exact h6 j x p' (era_mem h) h9
  · simp only [St.new, St.era] at hm
    cases hx : σ.nx with
    | none => rw [hx] at hm; cases hm
    | some n => rw [hx] at hm; simp at hm; omega
  · rcases hmem j x h1 with ⟨rfl, _⟩ | ⟨h, hne'⟩
    · rw [A6] at h2; injection h2 with h2; injection h2 with h2 h3; subst h2
      exact hi.offobj i _ b p hin hl
    · rw [addL_ne _ hne'] at h2; exact hi.offobj j x b2 p2 (era_mem h) h2

theorem aop_appL (hG : Fits P G) {o : Oper} {x y : Operand} {t1 t2 : TypeId} {e sz : Nat} {i1 i2 ie : TI} {n i p len : Nat} {cap : Option Nat} {ts ys : List T} {ty : T} {K : Env → St → Prop}
    (ho : o.op = .call { callee := .builtin .append, args := #[x, y], argTypes := #[t1, t2] }) (h1 : G t1 = some i1) (h1d : i1.d = .slice e) (he : G e = some ie) (h2 : G t2 = some i2) (h2d : ∃ e2, i2.d = .slice e2)
    (hx : Ad a x = some (.aref sz i p len cap)) (hLn : σ.L[n]? = some (i, .cells ts)) (hend : p + len * sz = ts.length) (hy : Ad a y = some ty) {objs : Nat → Option Ob} (hob : ∀ i o, objs i = some o → (i, o) ∈ σ.L) (hsrc : srcOf objs sz ty = some ys)
    (hsz : (Nat.beq sz ie.size && Nat.blt 0 sz && Nat.ble ie.bytes 4096) = true) (hsc : Scal ys) (hlen : len + ys.length ≤ 4294967296) (hd : Ai N o.dst = true)
    (k : ∀ i', (∀ n, σ.nx = some n → i' = n) → K (put a o.dst (.aref sz i' 0 (len + ys.length) none)) ((σ.era n).new i' (.cells (ts.drop p ++ flat ys)))) : AOp P N o a σ K := by
  intro av w μ hi hr next Qc hn
  simp only [Bool.and_eq_true] at hsz
  obtain rfl : sz = ie.size := Nat.eq_of_beq_eq_true hsz.1.1
  have hsz0 : 0 < ie.size := by have := hsz.1.2; simpa [Nat.blt_eq] using this
  have hby := Nat.le_of_ble_eq_true hsz.2
  obtain ⟨e2, h2d⟩ := h2d
  obtain ⟨d1, u1, f1⟩ := Aq (P := P) (w := w) hG h1
  rw [h1d] at f1; obtain rfl := A0 f1
  obtain ⟨d2, u2, f2⟩ := Aq (P := P) (w := w) hG h2
  rw [h2d] at f2; obtain rfl := A0 f2
  have us := g_size (P := P) (w := w) hG he
  have rx := Al hr hx
  have ry := Al hr hy
  obtain ⟨s1, s2, vs, s3, s4, s5⟩ := srcOf_run (P := P) hi hob ry hsrc
  have hexec : (execOp av.eval o).run P w = ((Builtin.append_ #[t1, t2] o.type #[av.eval x, av.eval y]).run P w).andThen fun v w' => .ok (.value v) w' := by
    simp [execOp, ho, resolve, invoke, builtin]
  have hfl := flat_length s2
  obtain ⟨i', f1', f2', f3', f4'⟩ := hi.pick
  generalize hvx : av.eval x = vx at rx
  have hin := List.mem_of_getElem? hLn
  cases rx with
  | aref i b q p len c sz cap hl hc hcap hbd =>
  obtain ⟨b', q', cs, el, hl', hh, hlen', hcells⟩ := hi.obj i ts hin
  rw [hl] at hl'; injection hl' with hl'; injection hl' with q1 q2; subst q1; subst q2
  have hbd' : q + p + c * ie.size ≤ cs.size := by
    obtain ⟨c2, e2, f2', h1, h2⟩ := hbd
    rw [hh] at h1; injection h1 with h1; injection h1 with h1; subst h1; exact h2
  have hpt : p ≤ ts.length := by omega
  rcases Nat.lt_or_ge c (len + ys.length) with hlt | hge
  · -- a new block
    obtain ⟨info, ui, hib, his⟩ := g_info (P := P) (w := w) hG he
    have ui' : ∀ w, (typeInfo e).run P w = .ok info w := by
      intro w2
      obtain ⟨i0, d0, k1, k2, _⟩ := hG e ie he
      have e1 : (typeInfo e).run P w = .ok i0 w := by simp [typeInfo, k1]
      rw [ui] at e1; injection e1 with e1; subst e1
      simp [typeInfo, k1]
    obtain ⟨z, uz, rz, hz1, hz2⟩ := g_zero (P := P) (w := w) (μ := μ) (σ := σ) hG he
    have uz' : ∀ w, (zeroValue e).run P w = .ok z w := by
      intro w2
      obtain ⟨i0, d0, k1, k2, k3, k4, k5, k6, _⟩ := hG e ie he
      have e1 : ∀ w, (zeroValue e).run P w = .ok (if ie.d.agg then .agg (ie.zero.map Z.value).toArray else (ie.zero.headD .b).value) w := by
        intro w; simp only [zeroValue, typeInfo, Sem.run_bind, run_program, Result.andThen_ok, k1, k6, Sem.run_pure]
      rw [e1] at uz; injection uz with uz; rw [e1, uz]
    have u1' : ∀ w, (underlying t1).run P w = .ok (.slice e) w := by
      intro w2; obtain ⟨d, u, f⟩ := Aq (P := P) (w := w2) hG h1; rw [h1d] at f; obtain rfl := A0 f; exact u
    have u2' : ∀ w, (underlying t2).run P w = .ok (.slice e2) w := by
      intro w2; obtain ⟨d, u, f⟩ := Aq (P := P) (w := w2) hG h2; rw [h2d] at f; obtain rfl := A0 f; exact u
    have hcat : CellsAt w μ σ b q ts := by
      obtain ⟨b2, p2, hl2, hc2⟩ := hi.cells hin
      rw [hl] at hl2; injection hl2 with hl2; injection hl2 with q1 q2; subst q1; subst q2
      exact hc2
    obtain ⟨old, g1, g2, g3⟩ := loadCells_rel (P := P) hcat (o := p) (n := len * ie.size) (by omega)
    have g1' : ∀ w1 : World, w1.heap = w.heap → (Builtin.firstCells ie.size len (.slice (some ⟨b, q + p, none⟩) len c)).run P w1 = .ok old w1 := by
      intro w1 hw1
      have hex : ∀ j, j < len * ie.size → ∃ v, w.cell? ⟨b, q + p + j, none⟩ = some v := by
        intro j hj
        obtain ⟨v, hv, _⟩ := hcat (p + j) _ (List.getElem?_eq_getElem (by omega))
        exact ⟨v, by rw [Nat.add_assoc]; exact hv⟩
      have e1 := run_loadCells (P := P) w ⟨b, q + p, none⟩ (len * ie.size) (fun j => (w.cell? ⟨b, q + p + j, none⟩).getD undef) (fun j hj => by
        rw [add_at]; obtain ⟨v, hv⟩ := hex j hj; simp [hv])
      have e2 := run_loadCells (P := P) w1 ⟨b, q + p, none⟩ (len * ie.size) (fun j => (w.cell? ⟨b, q + p + j, none⟩).getD undef) (fun j hj => by
        rw [add_at, cell_of_heap (show w1.heap[b]? = w.heap[b]? by rw [hw1])]; obtain ⟨v, hv⟩ := hex j hj; simp [hv])
      show (loadCells ⟨b, q + p, none⟩ (len * ie.size)).run P w1 = _
      rw [e2]
      rw [g1] at e1
      injection e1 with e1
      rw [e1]
    obtain ⟨newCap, hnc, hrun⟩ := append_grow_run (P := P) (ty := o.type) (ie := info) (base := some ⟨b, q + p, none⟩) (sLen := len) (sCap := c) (vy := av.eval y) (old := old) (vs := vs) (n := ys.length) u1' u2' (fun w => by rw [his]; exact g_size hG he) ui' uz' s1 hlt (by omega) (by omega) (.inr trivial)
      (by rw [his]; exact g1' w.drew rfl) (by rw [his]; exact s3 w.drew rfl)
    have ev1 : Ev w μ σ w.drew μ σ := ev_same rfl rfl rfl rfl
    have hi1 : Inv w.drew μ σ := hi.ev_heap rfl ev1
    obtain ⟨i2, ev2⟩ := erase_step n w.drew μ hi1
    generalize hrest : Builtin.zeroCells z.cells (newCap - (len + ys.length)) = rest at hrun
    have hrs : rest.size = (newCap - (len + ys.length)) * ie.size := by rw [← hrest, zeroCells_size, hz1]
    have hcs : (old ++ vs ++ rest).size = newCap * ie.size := by
      rw [Array.size_append, Array.size_append, g2, s4, hfl, hrs, ← Nat.add_mul, ← Nat.add_mul]
      congr 1; omega
    have hdl : (ts.drop p).length = len * ie.size := by rw [List.length_drop]; omega
    have evA := ev1.trans ev2
    obtain ⟨ev3, i3⟩ := new_step i2 (old ++ vs ++ rest) e f1' f2' f3' f4' (ts := ts.drop p ++ flat ys) (by rw [hcs, List.length_append, hdl, hfl, ← Nat.add_mul]; exact Nat.mul_le_mul_right _ hnc) (fun j t u hj hu => by
      rw [Nat.zero_add] at hu
      refine Rel.ev (w := w) ?_ evA
      rcases Nat.lt_or_ge j (len * ie.size) with h | h
      · rw [List.getElem?_append_left (by omega)] at hj
        rw [Array.append_assoc, Array.getElem?_append_left (by omega)] at hu
        refine g3 j t u ?_ hu
        rw [List.getElem?_take, if_pos h]; exact hj
      · rw [List.getElem?_append_right (by omega), hdl] at hj
        have h4 : j - len * ie.size < (flat ys).length := Bk hj
        rw [Array.append_assoc, Array.getElem?_append_right (by omega), g2, Array.getElem?_append_left (by omega)] at hu
        exact s5 _ t u hj hu)
    have ev := evA.trans ev3
    unfold Oper.wp
    rw [hexec, hvx, hrun]
    refine hn _ _ _ _ _ ev i3 ((hr.ev ev).put hd (Rel.aref i' w.heap.size 0 0 (len + ys.length) newCap ie.size none (A6 _ _) hnc (fun x hx => by cases hx) ⟨_, e, _, Bl w.drew _, by rw [hcs]; simp⟩)) (k i' f3')
  · -- in place
    have hvl : vs.toList.length = ys.length * ie.size := by rw [Array.length_toList, s4, hfl]
    have hsum : len * ie.size + ys.length * ie.size ≤ c * ie.size := by rw [← Nat.add_mul]; exact Nat.mul_le_mul_right _ hge
    have hone : ∀ v ∈ vs.toList, v.oneCell' = true := by
      intro v hv
      obtain ⟨j, hj, hjv⟩ := List.getElem_of_mem hv
      have hj' : j < (flat ys).length := by rw [Array.length_toList] at hj; omega
      refine (s5 j (flat ys)[j] v (List.getElem?_eq_getElem hj') ?_).scalar (hsc _ (List.getElem_mem hj'))
      rw [← hjv]; simp
    have hst := run_storeCells_at (P := P) b (q + p + len * ie.size) el vs.toList 0 cs w hh (by omega) hone
    generalize hc' : (cs.toList.take (q + p + len * ie.size + 0) ++ vs.toList ++ cs.toList.drop (q + p + len * ie.size + 0 + vs.toList.length)).toArray = c' at hst
    have hc'size : c'.size = cs.size := by rw [← hc']; simp; omega
    have hrun := append_room_run (P := P) (ty := o.type) u1 u2 us s1 (s3 w rfl) (sLen := len) (sCap := c) (base := some ⟨b, q + p, none⟩) hge (w1 := w.setRow b c') (by
      simp only [add_at]; exact hst)
    have ev1 : Ev w μ σ (w.setRow b c') μ (σ.set n i (.cells (ts ++ flat ys))) := set_ev hi hLn hl hh hc'size
    have hi1 : Inv (w.setRow b c') μ (σ.set n i (.cells (ts ++ flat ys))) := by
      refine set_inv hi hLn hl hh hc'size (by rw [List.length_append, hfl]; omega) fun j t v hj hv' => ?_
      rw [← hc', List.getElem?_toArray] at hv'
      have hl1 : (cs.toList.take (q + p + len * ie.size + 0)).length = q + p + len * ie.size := by simp; omega
      rcases Nat.lt_or_ge j ts.length with h | h
      · rw [List.getElem?_append_left h] at hj
        rw [List.append_assoc, List.getElem?_append_left (by omega), List.getElem?_take, if_pos (by omega)] at hv'
        exact hcells j t v hj (by simpa using hv')
      · rw [List.getElem?_append_right h] at hj
        have h4 : j - ts.length < (flat ys).length := Bk hj
        rw [List.append_assoc, List.getElem?_append_right (by omega), hl1, List.getElem?_append_left (by omega), show q + j - (q + p + len * ie.size) = j - ts.length by omega] at hv'
        exact s5 _ t v hj (by simpa using hv')
    have hLn1 : (σ.set n i (.cells (ts ++ flat ys))).L[n]? = some (i, .cells (ts ++ flat ys)) := by
      simp [St.set, List.getElem?_set, Bk hLn]
    obtain ⟨ev2, hi2⟩ := rename_step hi1 hLn1 hl (o := p) (by rw [List.length_append]; omega) f1' f2' f3' f4'
    have hst2 : ((σ.set n i (.cells (ts ++ flat ys))).era n).new i' (.cells ((ts ++ flat ys).drop p)) = (σ.era n).new i' (.cells (ts.drop p ++ flat ys)) := by
      rw [List.drop_append_of_le_length hpt]
      simp only [St.new, St.era, St.set]
      congr 2
      apply List.ext_getElem?
      intro m
      simp only [List.getElem?_eraseIdx, List.getElem?_set]
      split
      · rename_i h; rw [if_neg (by omega)]
      · rename_i h; rw [if_neg (by omega)]
    rw [hst2] at ev2 hi2
    have ev := ev1.trans ev2
    unfold Oper.wp
    rw [hexec, hvx, hrun]
    refine hn _ _ _ _ _ ev hi2 ((hr.ev ev).put hd ?_) (k i' f3')
    have := Rel.aref (w := w.setRow b c') (μ := μ.addL i' (b, q + p)) (σ := (σ.era n).new i' (.cells (ts.drop p ++ flat ys))) i' b (q + p) 0 (len + ys.length) c ie.size none (A6 _ _) hge (fun x hx => by cases hx) ⟨c', el, _, setRow_heap w b cs c' el (0, 0) hh, by rw [hc'size, Nat.add_zero]; exact hbd'⟩
    exact this
end
end Go.Ts
namespace Go.Ts
set_option linter.unusedSimpArgs false
set_option linter.unusedVariables false
section
variable {P : Program} {G : Nat → Option TI} {N : Nat} {σ : St} {a : Env} {K : Env → St → Prop} {α : Type} {d : Tmp} {ty : TypeId} {pos : String} {af : Array Edge} {gd : Option (Nat × Bool)}

def cmpP : BinOp → Int → Int → Option Prop
  | .eql, n, m => some (n = m)
  | .neq, n, m => some (¬ n = m)
  | .lss, n, m => some (n < m)
  | .leq, n, m => some (n ≤ m)
  | .gtr, n, m => some (m < n)
  | .geq, n, m => some (m ≤ n)
  | _, _, _ => none
theorem cmp_eval {op : BinOp} {k : IntKind} {n m : Int} {p : Prop} (h : cmpP op n m = some p) : ∃ b : Bool, evalBin TD.other op (.int k n) (.int k m) = some (.bool b) ∧ (b = true ↔ p) := by
  cases op <;> simp only [cmpP, reduceCtorEq, Option.some.injEq] at h <;> subst h <;> simp [evalBin, isShift, evalInt]
theorem evalBin_int (d e : TD) (op : BinOp) (k k' : IntKind) (n m : Int) : evalBin d op (.int k n) (.int k' m) = evalBin e op (.int k n) (.int k' m) := rfl
theorem r_cmp {op : BinOp} {t yt : TypeId} {x y : Operand} {k : IntKind} {n m : Int} {p : Prop} {ti : TI} (hG : Fits P G) (ht : G t = some ti) (hx : Ad a x = some (.int k n)) (hy : Ad a y = some (.int k m)) (hc : cmpP op n m = some p) (hd : Ai N (some d) = true)
    (kt : p → K (put a (some d) (.bool true)) σ) (kf : ¬ p → K (put a (some d) (.bool false)) σ) : AOp P N ⟨some d, .binOp op t x y yt, ty, pos, af, gd⟩ a σ K := by
  obtain ⟨b, h1, h2⟩ := cmp_eval (k := k) hc
  refine op_q hG (t := .bool b) (by simp only [Av, hx, hy, ht]; rw [evalBin_int _ TD.other]; exact h1) rfl hd ?_
  cases b with
  | true => exact kt (h2.1 rfl)
  | false => exact kf fun h => by have := h2.2 h; cases this
theorem r_cmpT {op : BinOp} {t yt : TypeId} {x y : Operand} {k : IntKind} {n m : Int} {p : Prop} {ti : TI} (hG : Fits P G) (ht : G t = some ti) (hx : Ad a x = some (.int k n)) (hy : Ad a y = some (.int k m)) (hc : cmpP op n m = some p) (hd : Ai N (some d) = true)
    (hp : p) (kk : K (put a (some d) (.bool true)) σ) : AOp P N ⟨some d, .binOp op t x y yt, ty, pos, af, gd⟩ a σ K := r_cmp hG ht hx hy hc hd (fun _ => kk) (fun h => absurd hp h)
theorem r_cmpF {op : BinOp} {t yt : TypeId} {x y : Operand} {k : IntKind} {n m : Int} {p : Prop} {ti : TI} (hG : Fits P G) (ht : G t = some ti) (hx : Ad a x = some (.int k n)) (hy : Ad a y = some (.int k m)) (hc : cmpP op n m = some p) (hd : Ai N (some d) = true)
    (hp : ¬ p) (kk : K (put a (some d) (.bool false)) σ) : AOp P N ⟨some d, .binOp op t x y yt, ty, pos, af, gd⟩ a σ K := r_cmp hG ht hx hy hc hd (fun h => absurd h hp) (fun _ => kk)

theorem r_str {t yt : TypeId} {x y : Operand} {n m : List UInt8} {ti : TI} (hG : Fits P G) (ht : G t = some ti) (hx : Ad a x = some (.str n)) (hy : Ad a y = some (.str m)) (hd : Ai N (some d) = true)
    (kt : n = m → K (put a (some d) (.bool true)) σ) (kf : ¬ n = m → K (put a (some d) (.bool false)) σ) : AOp P N ⟨some d, .binOp .eql t x y yt, ty, pos, af, gd⟩ a σ K := by
  refine op_q hG (t := .bool (n == m)) (by simp only [Av, hx, hy, ht, evalBin, evalStr]) rfl hd ?_
  by_cases h : n = m
  · rw [beq_iff_eq.2 h]; exact kt h
  · rw [beq_eq_false_iff_ne.2 h]; exact kf h
theorem r_strn {t yt : TypeId} {x y : Operand} {n m : List UInt8} {ti : TI} (hG : Fits P G) (ht : G t = some ti) (hx : Ad a x = some (.str n)) (hy : Ad a y = some (.str m)) (hd : Ai N (some d) = true)
    (kt : ¬ n = m → K (put a (some d) (.bool true)) σ) (kf : n = m → K (put a (some d) (.bool false)) σ) : AOp P N ⟨some d, .binOp .neq t x y yt, ty, pos, af, gd⟩ a σ K := by
  refine op_q hG (t := .bool (!(n == m))) (by simp only [Av, hx, hy, ht, evalBin, evalStr]) rfl hd ?_
  by_cases h : n = m
  · rw [beq_iff_eq.2 h]; exact kf h
  · rw [beq_eq_false_iff_ne.2 h]; exact kt h
theorem r_strT {t yt : TypeId} {x y : Operand} {n m : List UInt8} {ti : TI} (hG : Fits P G) (ht : G t = some ti) (hx : Ad a x = some (.str n)) (hy : Ad a y = some (.str m)) (hd : Ai N (some d) = true)
    (h : n = m) (kt : K (put a (some d) (.bool true)) σ) : AOp P N ⟨some d, .binOp .eql t x y yt, ty, pos, af, gd⟩ a σ K := r_str hG ht hx hy hd (fun _ => kt) (fun h' => absurd h h')
theorem r_strnF {t yt : TypeId} {x y : Operand} {n m : List UInt8} {ti : TI} (hG : Fits P G) (ht : G t = some ti) (hx : Ad a x = some (.str n)) (hy : Ad a y = some (.str m)) (hd : Ai N (some d) = true)
    (h : n = m) (kf : K (put a (some d) (.bool false)) σ) : AOp P N ⟨some d, .binOp .neq t x y yt, ty, pos, af, gd⟩ a σ K := r_strn hG ht hx hy hd (fun h' => absurd h h') (fun _ => kf)

theorem r_strF {t yt : TypeId} {x y : Operand} {n m : List UInt8} {ti : TI} (hG : Fits P G) (ht : G t = some ti) (hx : Ad a x = some (.str n)) (hy : Ad a y = some (.str m)) (hd : Ai N (some d) = true)
    (h : ¬ n = m) (kf : K (put a (some d) (.bool false)) σ) : AOp P N ⟨some d, .binOp .eql t x y yt, ty, pos, af, gd⟩ a σ K := r_str hG ht hx hy hd (fun h' => absurd h' h) (fun _ => kf)
theorem r_strnT {t yt : TypeId} {x y : Operand} {n m : List UInt8} {ti : TI} (hG : Fits P G) (ht : G t = some ti) (hx : Ad a x = some (.str n)) (hy : Ad a y = some (.str m)) (hd : Ai N (some d) = true)
    (h : ¬ n = m) (kt : K (put a (some d) (.bool true)) σ) : AOp P N ⟨some d, .binOp .neq t x y yt, ty, pos, af, gd⟩ a σ K := r_strn hG ht hx hy hd (fun _ => kt) (fun h' => absurd h' h)

def arI : BinOp → Int → Int → Option Int
  | .add, n, m => some (n + m)
  | .sub, n, m => some (n - m)
  | .mul, n, m => some (n * m)
  | _, _, _ => none
def rngL : IntKind → Int
  | .i64 => -9223372036854775808
  | .i32 => -2147483648
  | .i16 => -32768
  | .i8 => -128
  | _ => 0
def rngH : IntKind → Int
  | .i64 => 9223372036854775807
  | .i32 => 2147483647
  | .i16 => 32767
  | .i8 => 127
  | .u64 => 18446744073709551615
  | .u32 => 4294967295
  | .u16 => 65535
  | .u8 => 255
theorem rng_wrap {k : IntKind} {r : Int} (h1 : rngL k ≤ r) (h2 : r ≤ rngH k) : k.wrap r = r := by
  cases k <;> simp only [rngL, rngH] at h1 h2 <;> simp [IntKind.wrap, IntKind.bits, IntKind.signed] <;> omega
theorem r_ar {op : BinOp} {t yt : TypeId} {x y : Operand} {k : IntKind} {n m r lo hi : Int} {ti : TI} (hG : Fits P G) (ht : G t = some ti) (hx : Ad a x = some (.int k n)) (hy : Ad a y = some (.int k m)) (hr : arI op n m = some r) (hd : Ai N (some d) = true) (hlo : rngL k = lo) (hhi : rngH k = hi)
    (hb : lo ≤ r ∧ r ≤ hi) (kk : K (put a (some d) (.int k r)) σ) : AOp P N ⟨some d, .binOp op t x y yt, ty, pos, af, gd⟩ a σ K := by
  subst hlo; subst hhi
  refine op_q hG (t := .int k r) ?_ rfl hd kk
  simp only [Av, hx, hy, ht]
  cases op <;> simp only [arI, reduceCtorEq, Option.some.injEq] at hr <;> subst hr <;> simp [evalBin, isShift, evalInt, rng_wrap hb.1 hb.2]
theorem r_cv {src dst : TypeId} {x : Operand} {k k' : IntKind} {n lo hi : Int} {ts td : TI} (hG : Fits P G) (hx : Ad a x = some (.int k n)) (hs : G src = some ts) (hdt : G dst = some td) (hdd : td.d = .int k') (hd : Ai N (some d) = true) (hlo : rngL k' = lo) (hhi : rngH k' = hi)
    (hb : lo ≤ n ∧ n ≤ hi) (kk : K (put a (some d) (.int k' n)) σ) : AOp P N ⟨some d, .convert src dst x, ty, pos, af, gd⟩ a σ K := by
  subst hlo; subst hhi
  obtain ⟨d1, s1, s2, s3⟩ := td
  simp only at hdd; subst hdd
  exact op_q hG (t := .int k' n) (by simp only [Av, hx, hs, hdt, rng_wrap hb.1 hb.2]) rfl hd kk
theorem r_cv8 {src dst : TypeId} {x : Operand} {k k' : IntKind} {c : UInt8} {ts td : TI} (hG : Fits P G) (hx : Ad a x = some (.int k c.toNat)) (hs : G src = some ts) (hdt : G dst = some td) (hdd : td.d = .int k') (hd : Ai N (some d) = true) (hb : big8 k' = true)
    (kk : K (put a (some d) (.int k' c.toNat)) σ) : AOp P N ⟨some d, .convert src dst x, ty, pos, af, gd⟩ a σ K := by
  obtain ⟨d1, s1, s2, s3⟩ := td
  simp only at hdd; subst hdd
  exact op_q hG (t := .int k' c.toNat) (by simp only [Av, hx, hs, hdt, wrap8 hb]) rfl hd kk
theorem r_cv16 {src dst : TypeId} {x : Operand} {k k' : IntKind} {c : UInt16} {ts td : TI} (hG : Fits P G) (hx : Ad a x = some (.int k c.toNat)) (hs : G src = some ts) (hdt : G dst = some td) (hdd : td.d = .int k') (hd : Ai N (some d) = true) (hb : big16 k' = true)
    (kk : K (put a (some d) (.int k' c.toNat)) σ) : AOp P N ⟨some d, .convert src dst x, ty, pos, af, gd⟩ a σ K := by
  obtain ⟨d1, s1, s2, s3⟩ := td
  simp only at hdd; subst hdd
  exact op_q hG (t := .int k' c.toNat) (by simp only [Av, hx, hs, hdt, wrap16 hb]) rfl hd kk
theorem r_cvw {src dst : TypeId} {x : Operand} {k k' : IntKind} {n : Int} {ts td : TI} (hG : Fits P G) (hx : Ad a x = some (.int k n)) (hs : G src = some ts) (hdt : G dst = some td) (hdd : td.d = .int k') (hd : Ai N (some d) = true)
    (kk : K (put a (some d) (.int k' (k'.wrap n))) σ) : AOp P N ⟨some d, .convert src dst x, ty, pos, af, gd⟩ a σ K := by
  obtain ⟨d1, s1, s2, s3⟩ := td
  simp only at hdd; subst hdd
  exact op_q hG (t := .int k' (k'.wrap n)) (by simp only [Av, hx, hs, hdt]) rfl hd kk

theorem Ao {op : BinOp} {t yt : TypeId} {x y : Operand} {n m r : Int} {ti : TI} (hG : Fits P G) (ht : G t = some ti) (hx : Ad a x = some (.int .i64 n)) (hy : Ad a y = some (.int .i64 m)) (hr : arI op n m = some r) (hd : Ai N (some d) = true)
    (hb : -9223372036854775808 ≤ r ∧ r ≤ 9223372036854775807) (kk : K (put a (some d) (.int .i64 r)) σ) : AOp P N ⟨some d, .binOp op t x y yt, ty, pos, af, gd⟩ a σ K := r_ar hG ht hx hy hr hd rfl rfl hb kk
theorem r_cv_i64 {src dst : TypeId} {x : Operand} {k : IntKind} {n : Int} {ts td : TI} (hG : Fits P G) (hdt : G dst = some td) (hdd : td.d = .int .i64) (hx : Ad a x = some (.int k n)) (hs : G src = some ts) (hd : Ai N (some d) = true)
    (hb : -9223372036854775808 ≤ n ∧ n ≤ 9223372036854775807) (kk : K (put a (some d) (.int .i64 n)) σ) : AOp P N ⟨some d, .convert src dst x, ty, pos, af, gd⟩ a σ K := r_cv hG hx hs hdt hdd hd rfl rfl hb kk
theorem Bf {op : BinOp} {t yt : TypeId} {x y : Operand} {n m r : Int} {ti : TI} (hG : Fits P G) (ht : G t = some ti) (hx : Ad a x = some (.int .u64 n)) (hy : Ad a y = some (.int .u64 m)) (hr : arI op n m = some r) (hd : Ai N (some d) = true)
    (hb : 0 ≤ r ∧ r ≤ 18446744073709551615) (kk : K (put a (some d) (.int .u64 r)) σ) : AOp P N ⟨some d, .binOp op t x y yt, ty, pos, af, gd⟩ a σ K := r_ar hG ht hx hy hr hd rfl rfl hb kk
theorem r_cv_u64 {src dst : TypeId} {x : Operand} {k : IntKind} {n : Int} {ts td : TI} (hG : Fits P G) (hdt : G dst = some td) (hdd : td.d = .int .u64) (hx : Ad a x = some (.int k n)) (hs : G src = some ts) (hd : Ai N (some d) = true)
    (hb : 0 ≤ n ∧ n ≤ 18446744073709551615) (kk : K (put a (some d) (.int .u64 n)) σ) : AOp P N ⟨some d, .convert src dst x, ty, pos, af, gd⟩ a σ K := r_cv hG hx hs hdt hdd hd rfl rfl hb kk
theorem r_aru8 {op : BinOp} {t yt : TypeId} {x y : Operand} {n m r : Int} {ti : TI} (hG : Fits P G) (ht : G t = some ti) (hx : Ad a x = some (.int .u8 n)) (hy : Ad a y = some (.int .u8 m)) (hr : arI op n m = some r) (hd : Ai N (some d) = true)
    (hb : 0 ≤ r ∧ r ≤ 255) (kk : K (put a (some d) (.int .u8 r)) σ) : AOp P N ⟨some d, .binOp op t x y yt, ty, pos, af, gd⟩ a σ K := r_ar hG ht hx hy hr hd rfl rfl hb kk
theorem r_cv_u8 {src dst : TypeId} {x : Operand} {k : IntKind} {n : Int} {ts td : TI} (hG : Fits P G) (hdt : G dst = some td) (hdd : td.d = .int .u8) (hx : Ad a x = some (.int k n)) (hs : G src = some ts) (hd : Ai N (some d) = true)
    (hb : 0 ≤ n ∧ n ≤ 255) (kk : K (put a (some d) (.int .u8 n)) σ) : AOp P N ⟨some d, .convert src dst x, ty, pos, af, gd⟩ a σ K := r_cv hG hx hs hdt hdd hd rfl rfl hb kk
theorem r_aru16 {op : BinOp} {t yt : TypeId} {x y : Operand} {n m r : Int} {ti : TI} (hG : Fits P G) (ht : G t = some ti) (hx : Ad a x = some (.int .u16 n)) (hy : Ad a y = some (.int .u16 m)) (hr : arI op n m = some r) (hd : Ai N (some d) = true)
    (hb : 0 ≤ r ∧ r ≤ 65535) (kk : K (put a (some d) (.int .u16 r)) σ) : AOp P N ⟨some d, .binOp op t x y yt, ty, pos, af, gd⟩ a σ K := r_ar hG ht hx hy hr hd rfl rfl hb kk
theorem r_cv_u16 {src dst : TypeId} {x : Operand} {k : IntKind} {n : Int} {ts td : TI} (hG : Fits P G) (hdt : G dst = some td) (hdd : td.d = .int .u16) (hx : Ad a x = some (.int k n)) (hs : G src = some ts) (hd : Ai N (some d) = true)
    (hb : 0 ≤ n ∧ n ≤ 65535) (kk : K (put a (some d) (.int .u16 n)) σ) : AOp P N ⟨some d, .convert src dst x, ty, pos, af, gd⟩ a σ K := r_cv hG hx hs hdt hdd hd rfl rfl hb kk
theorem r_move {x : Operand} {t : T} (hG : Fits P G) (hx : Ad a x = some t) (hd : Ai N (some d) = true) (kk : K (put a (some d) t) σ) : AOp P N ⟨some d, .move x, ty, pos, af, gd⟩ a σ K := op_q hG (by simp only [Av, hx]) rfl hd kk
theorem r_asg {x : Operand} {t : T} (hG : Fits P G) (hx : Ad a x = some t) (hd : Ai N (some d) = true) (kk : K (put a (some d) t) σ) : AOp P N ⟨some d, .assign x, ty, pos, af, gd⟩ a σ K := op_q hG (by simp only [Av, hx]) rfl hd kk
theorem r_pick {c x y : Operand} {b : Bool} {t : T} (hG : Fits P G) (hc : Ad a c = some (.bool b)) (hx : Ad a (cond b x y) = some t) (hd : Ai N (some d) = true) (kk : K (put a (some d) t) σ) : AOp P N ⟨some d, .pick c x y, ty, pos, af, gd⟩ a σ K := by
  refine op_q hG (t := t) ?_ rfl hd kk
  cases b <;> (simp only [Av, hc]; exact hx)
theorem r_not {t : TypeId} {x : Operand} {b c : Bool} (hG : Fits P G) (hx : Ad a x = some (.bool b)) (hb : (!b) = c) (hd : Ai N (some d) = true) (kk : K (put a (some d) (.bool c)) σ) : AOp P N ⟨some d, .unOp .not t x, ty, pos, af, gd⟩ a σ K := by
  subst hb; exact op_q hG (by simp only [Av, hx, evalUn]) rfl hd kk
theorem r_lenm {x : Operand} {t e sz : Nat} {own : Own} {f : α → T} {l : List α} {ti : TI} (hG : Fits P G) (hx : Ad a x = some (.sl sz own (l.map f))) (ht : G t = some ti) (htd : ti.d = .slice e) (hd : Ai N (some d) = true)
    (kk : K (put a (some d) (.int .i64 l.length)) σ) : AOp P N ⟨some d, .call ⟨.builtin .len, #[x], #[t]⟩, ty, pos, af, gd⟩ a σ K := op_lenm hG rfl hx ht htd rfl hd kk
def lenT : T → Option Int
  | .sl _ _ xs => some xs.length
  | .nilsl => some 0
  | .aref _ _ _ n _ => some n
  | _ => none
theorem r_len {x : Operand} {t e : Nat} {u : T} {n : Int} {ti : TI} (hG : Fits P G) (hx : Ad a x = some u) (hn : lenT u = some n) (ht : G t = some ti) (htd : ti.d = .slice e) (hd : Ai N (some d) = true)
    (kk : K (put a (some d) (.int .i64 n)) σ) : AOp P N ⟨some d, .call ⟨.builtin .len, #[x], #[t]⟩, ty, pos, af, gd⟩ a σ K := by
  refine op_q hG (t := .int .i64 n) ?_ rfl hd kk
  obtain ⟨d1, s1, s2, s3⟩ := ti
  simp only at htd; subst htd
  unfold lenT at hn
  split at hn <;> (try cases hn) <;> simp only [Av, hx, ht, Option.map_some] <;> rfl
theorem r_ldro {t : TypeId} {x : Operand} {y u : T} {o : Nat} (hG : Fits P G) (hx : Ad a x = some (.ro y o)) (hu : readT G t y.cells o = some u) (hd : Ai N (some d) = true) (kk : K (put a (some d) u) σ) : AOp P N ⟨some d, .load t x, ty, pos, af, gd⟩ a σ K :=
  op_q hG (by simp only [Av, hx]; exact hu) rfl hd kk
theorem r_ld (n : Nat) {t : TypeId} {x : Operand} {i p : Nat} {u : T} {ts : List T} (hG : Fits P G) (hx : Ad a x = some (.ptr i p)) (hob : σ.L[n]? = some (i, .cells ts)) (hu : readT G t ts p = some u) (hd : Ai N (some d) = true) (kk : K (put a (some d) u) σ) :
    AOp P N ⟨some d, .load t x, ty, pos, af, gd⟩ a σ K := op_load n hG rfl hx hob hu rfl hd kk
theorem r_st (n : Nat) {t : TypeId} {x y : Operand} {i p : Nat} {u : T} {ts : List T} {ti : TI} (hG : Fits P G) (hx : Ad a x = some (.ptr i p)) (hob : σ.L[n]? = some (i, .cells ts)) (hy : Ad a y = some u)
    (hsc : (notRaw u && u.cells.all T.scalar) = true) (hty : G t = some ti) (hsz : Nat.beq u.cells.length ti.size = true) (hle : Nat.ble (p + u.cells.length) ts.length = true)
    (kk : K a (σ.set n i (.cells (stored ts u.cells p)))) : AOp P N ⟨none, .store t x y, ty, pos, af, gd⟩ a σ K := op_store n hG rfl hx hob hy hsc hty hsz hle rfl kk
theorem r_idxm [Inhabited α] {t : TypeId} {x ix : Operand} {k : IntKind} {n : Int} {sz e : Nat} {own : Own} {f : α → T} {l : List α} {ti te : TI} (hG : Fits P G)
    (hx : Ad a x = some (.sl sz own (l.map f))) (hn : Ad a ix = some (.int k n)) (ht : G t = some ti) (htd : ti.d = .slice e) (hte : G e = some te) (hsz : Nat.beq sz te.size = true) (hd : Ai N (some d) = true)
    (h0 : 0 ≤ n ∧ n < l.length) (kk : K (put a (some d) (.ro (f (l.getD n.toNat default)) 0)) σ) : AOp P N ⟨some d, .indexAddr t x ix, ty, pos, af, gd⟩ a σ K := op_idxm hG rfl hn hx ht htd hte hsz rfl hd h0 kk
theorem r_idx0 [Inhabited α] {t : TypeId} {x ix : Operand} {k : IntKind} {sz e : Nat} {own : Own} {f : α → T} {c : α} {l : List α} {ti te : TI} (hG : Fits P G)
    (hx : Ad a x = some (.sl sz own ((c :: l).map f))) (hn : Ad a ix = some (.int k 0)) (ht : G t = some ti) (htd : ti.d = .slice e) (hte : G e = some te) (hsz : Nat.beq sz te.size = true) (hd : Ai N (some d) = true)
    (kk : K (put a (some d) (.ro (f c) 0)) σ) : AOp P N ⟨some d, .indexAddr t x ix, ty, pos, af, gd⟩ a σ K := op_idxm hG rfl hn hx ht htd hte hsz rfl hd (by simp) kk
theorem r_idxn [Inhabited α] {t : TypeId} {x ix : Operand} {k : IntKind} {n : Nat} {sz e : Nat} {own : Own} {f : α → T} {l : List α} {ti te : TI} (hG : Fits P G)
    (hx : Ad a x = some (.sl sz own (l.map f))) (hn : Ad a ix = some (.int k (n : Int))) (ht : G t = some ti) (htd : ti.d = .slice e) (hte : G e = some te) (hsz : Nat.beq sz te.size = true) (hd : Ai N (some d) = true)
    (h0 : n < l.length) (kk : K (put a (some d) (.ro (f (l.getD n default)) 0)) σ) : AOp P N ⟨some d, .indexAddr t x ix, ty, pos, af, gd⟩ a σ K := op_idxm hG rfl hn hx ht htd hte hsz rfl hd (by omega) (by rw [Int.toNat_natCast]; exact kk)
theorem r_idx {t : TypeId} {x ix : Operand} {u : T} (hG : Fits P G) (he : Av G (fun _ => none) (Ad a) (.indexAddr t x ix) = some u) (hd : Ai N (some d) = true)
    (kk : K (put a (some d) u) σ) : AOp P N ⟨some d, .indexAddr t x ix, ty, pos, af, gd⟩ a σ K := op_q hG he rfl hd kk
theorem r_sl_lo {t : TypeId} {x lo : Operand} {k : IntKind} {l : Int} {sz e : Nat} {own : Own} {f : α → T} {xs : List α} {ti te : TI} (hG : Fits P G) (hx : Ad a x = some (.sl sz own (xs.map f))) (hl : Ad a lo = some (.int k l))
    (ht : G t = some ti) (htd : ti.d = .slice e) (hte : G e = some te) (hsz : Nat.beq sz te.size = true) (hd : Ai N (some d) = true)
    (hb : 0 ≤ l ∧ l ≤ xs.length) (kk : K (put a (some d) (.sl sz .no ((xs.drop l.toNat).map f))) σ) : AOp P N ⟨some d, .slice t x (some lo) none none, ty, pos, af, gd⟩ a σ K := op_slm_lo hG rfl hx hl ht htd hte hsz rfl hd hb kk
theorem r_sl_hi {t : TypeId} {x hi : Operand} {k : IntKind} {h : Int} {sz e : Nat} {own : Own} {f : α → T} {xs : List α} {ti te : TI} (hG : Fits P G) (hx : Ad a x = some (.sl sz own (xs.map f))) (hh : Ad a hi = some (.int k h))
    (ht : G t = some ti) (htd : ti.d = .slice e) (hte : G e = some te) (hsz : Nat.beq sz te.size = true) (hd : Ai N (some d) = true)
    (hb : 0 ≤ h ∧ h ≤ xs.length) (kk : K (put a (some d) (.sl sz .no ((xs.take h.toNat).map f))) σ) : AOp P N ⟨some d, .slice t x none (some hi) none, ty, pos, af, gd⟩ a σ K := op_slm_hi hG rfl hx hh ht htd hte hsz rfl hd hb kk
theorem r_sl_lh {t : TypeId} {x lo hi : Operand} {k k' : IntKind} {l h : Int} {sz e : Nat} {own : Own} {f : α → T} {xs : List α} {ti te : TI} (hG : Fits P G) (hx : Ad a x = some (.sl sz own (xs.map f))) (hl : Ad a lo = some (.int k l)) (hh : Ad a hi = some (.int k' h))
    (ht : G t = some ti) (htd : ti.d = .slice e) (hte : G e = some te) (hsz : Nat.beq sz te.size = true) (hd : Ai N (some d) = true)
    (hb : 0 ≤ l ∧ l ≤ h ∧ h ≤ xs.length) (kk : K (put a (some d) (.sl sz .no (((xs.take h.toNat).drop l.toNat).map f))) σ) : AOp P N ⟨some d, .slice t x (some lo) (some hi) none, ty, pos, af, gd⟩ a σ K := op_slm hG rfl hx hl hh ht htd hte hsz rfl hd hb kk
theorem r_sl_lon {t : TypeId} {x lo : Operand} {k : IntKind} {l : Nat} {sz e : Nat} {own : Own} {f : α → T} {xs : List α} {ti te : TI} (hG : Fits P G) (hx : Ad a x = some (.sl sz own (xs.map f))) (hl : Ad a lo = some (.int k (l : Int)))
    (ht : G t = some ti) (htd : ti.d = .slice e) (hte : G e = some te) (hsz : Nat.beq sz te.size = true) (hd : Ai N (some d) = true)
    (hb : l ≤ xs.length) (kk : K (put a (some d) (.sl sz .no ((xs.drop l).map f))) σ) : AOp P N ⟨some d, .slice t x (some lo) none none, ty, pos, af, gd⟩ a σ K := op_slm_lo hG rfl hx hl ht htd hte hsz rfl hd (by omega) (by rw [Int.toNat_natCast]; exact kk)
theorem r_sl_hin {t : TypeId} {x hi : Operand} {k : IntKind} {h : Nat} {sz e : Nat} {own : Own} {f : α → T} {xs : List α} {ti te : TI} (hG : Fits P G) (hx : Ad a x = some (.sl sz own (xs.map f))) (hh : Ad a hi = some (.int k (h : Int)))
    (ht : G t = some ti) (htd : ti.d = .slice e) (hte : G e = some te) (hsz : Nat.beq sz te.size = true) (hd : Ai N (some d) = true)
    (hb : h ≤ xs.length) (kk : K (put a (some d) (.sl sz .no ((xs.take h).map f))) σ) : AOp P N ⟨some d, .slice t x none (some hi) none, ty, pos, af, gd⟩ a σ K := op_slm_hi hG rfl hx hh ht htd hte hsz rfl hd (by omega) (by rw [Int.toNat_natCast]; exact kk)
theorem r_sl_lhn {t : TypeId} {x lo hi : Operand} {k k' : IntKind} {l h : Nat} {sz e : Nat} {own : Own} {f : α → T} {xs : List α} {ti te : TI} (hG : Fits P G) (hx : Ad a x = some (.sl sz own (xs.map f))) (hl : Ad a lo = some (.int k (l : Int))) (hh : Ad a hi = some (.int k' (h : Int)))
    (ht : G t = some ti) (htd : ti.d = .slice e) (hte : G e = some te) (hsz : Nat.beq sz te.size = true) (hd : Ai N (some d) = true)
    (hb : l ≤ h ∧ h ≤ xs.length) (kk : K (put a (some d) (.sl sz .no (((xs.take h).drop l).map f))) σ) : AOp P N ⟨some d, .slice t x (some lo) (some hi) none, ty, pos, af, gd⟩ a σ K := op_slm hG rfl hx hl hh ht htd hte hsz rfl hd (by omega) (by rw [Int.toNat_natCast, Int.toNat_natCast]; exact kk)
theorem r_sl {t : TypeId} {x : Operand} {lo hi mx : Option Operand} {u : T} (hG : Fits P G) (he : Av G (fun _ => none) (Ad a) (.slice t x lo hi mx) = some u) (hd : Ai N (some d) = true)
    (kk : K (put a (some d) u) σ) : AOp P N ⟨some d, .slice t x lo hi mx, ty, pos, af, gd⟩ a σ K := op_q hG he rfl hd kk
theorem r_tostr {src dst : TypeId} {x : Operand} {t : T} {s : List UInt8} {e : Nat} {ts td te : TI} (hG : Fits P G)
    (hd1 : G dst = some td) (hdd1 : td.d = .str) (hs : G src = some ts) (hsd : ts.d = .slice e) (he : G e = some te) (hed : te.d = .int .u8) (hx : Ad a x = some t) (hd : Ai N (some d) = true)
    (hb : bytesT t = some s) (kk : K (put a (some d) (.str s)) σ) : AOp P N ⟨some d, .convert src dst x, ty, pos, af, gd⟩ a σ K := op_str hG rfl hx hs hsd hd1 hdd1 he hed rfl hd hb kk
theorem r_shr {t yt : TypeId} {x y : Operand} {k k' : IntKind} {n m : Int} {ti : TI} (hG : Fits P G) (ht : G t = some ti) (hx : Ad a x = some (.int k n)) (hy : Ad a y = some (.int k' m)) (hd : Ai N (some d) = true)
    (h0 : 0 ≤ m) (kk : K (put a (some d) (.int k (n / 2 ^ (min m.toNat k.bits)))) σ) : AOp P N ⟨some d, .binOp .shr t x y yt, ty, pos, af, gd⟩ a σ K := op_shr hG rfl ht hx hy rfl hd h0 kk
theorem r_shl {t yt : TypeId} {x y : Operand} {k k' : IntKind} {n m : Int} {ti : TI} (hG : Fits P G) (ht : G t = some ti) (hx : Ad a x = some (.int k n)) (hy : Ad a y = some (.int k' m)) (hd : Ai N (some d) = true)
    (h0 : 0 ≤ m) (kk : K (put a (some d) (.int k (k.wrap (n * 2 ^ (min m.toNat k.bits))))) σ) : AOp P N ⟨some d, .binOp .shl t x y yt, ty, pos, af, gd⟩ a σ K := op_shl hG rfl ht hx hy rfl hd h0 kk
theorem r_rem {t yt : TypeId} {x y : Operand} {k : IntKind} {n m : Int} {ti : TI} (hG : Fits P G) (ht : G t = some ti) (hx : Ad a x = some (.int k n)) (hy : Ad a y = some (.int k m)) (hd : Ai N (some d) = true)
    (h0 : 0 ≤ n ∧ 0 < m) (kk : K (put a (some d) (.int k (n % m))) σ) : AOp P N ⟨some d, .binOp .rem t x y yt, ty, pos, af, gd⟩ a σ K := op_rem hG rfl ht hx hy rfl hd h0 kk
theorem r_trem {t yt : TypeId} {x y : Operand} {k : IntKind} {n m : Int} {ti : TI} (hG : Fits P G) (ht : G t = some ti) (hx : Ad a x = some (.int k n)) (hy : Ad a y = some (.int k m)) (hd : Ai N (some d) = true)
    (h0 : 0 < m) (kk : K (put a (some d) (.int k (n.tmod m))) σ) : AOp P N ⟨some d, .binOp .rem t x y yt, ty, pos, af, gd⟩ a σ K := by
  refine op_q hG (t := .int k (n.tmod m)) ?_ rfl hd kk
  have h1 : (m == 0) = false := by simp; omega
  simp only [Av, hx, hy, ht, evalBin, isShift, cond_false, decide_true, cond_true, evalInt, h1]
def notCmp : BinOp → Bool
  | .eql => false
  | .neq => false
  | .lss => false
  | .leq => false
  | .gtr => false
  | .geq => false
  | _ => true
theorem r_bin' {op : BinOp} {t yt : TypeId} {x y : Operand} {u : T} (hG : Fits P G) (hq : notCmp op = true) (he : Av G (fun _ => none) (Ad a) (.binOp op t x y yt) = some u) (hd : Ai N (some d) = true)
    (kk : K (put a (some d) u) σ) : AOp P N ⟨some d, .binOp op t x y yt, ty, pos, af, gd⟩ a σ K := op_q hG he rfl hd kk
theorem r_beq {t yt : TypeId} {x y : Operand} {b c : Bool} {ti : TI} (hG : Fits P G) (ht : G t = some ti) (htd : ti.d = .bool) (hx : Ad a x = some (.bool b)) (hy : Ad a y = some (.bool c)) (hd : Ai N (some d) = true)
    (kk : K (put a (some d) (.bool (b == c))) σ) : AOp P N ⟨some d, .binOp .eql t x y yt, ty, pos, af, gd⟩ a σ K := by
  refine op_q hG (t := .bool (b == c)) ?_ rfl hd kk
  obtain ⟨d1, s1, s2, s3⟩ := ti
  simp only at htd; subst htd
  simp only [Av, hx, hy, ht]; rfl
theorem r_box {e : TypeId} {x : Operand} {t : T} (hG : Fits P G) (hx : Ad a x = some t) (hraw : notRaw t = true) (hd : Ai N (some d) = true)
    (k : ∀ i, K (put a (some d) (.ptr i 0)) (σ.new i (.cells t.cells))) : AOp P N ⟨some d, .box e x, ty, pos, af, gd⟩ a σ K := op_box hG rfl hx hraw rfl hd k
theorem r_alloc {e : TypeId} {ti : TI} (hG : Fits P G) (he : G e = some ti) (hd : Ai N (some d) = true)
    (k : ∀ i, K (put a (some d) (.ptr i 0)) (σ.new i (.cells ti.tree.cells))) : AOp P N ⟨some d, .alloc e, ty, pos, af, gd⟩ a σ K := op_alloc hG rfl he rfl hd k
def partsV (a : Env) : List (Nat × Operand) → Option (List T)
  | [] => some []
  | (_, x) :: r => match Ad a x, partsV a r with
    | some t, some ts => some (t :: ts)
    | _, _ => none
theorem partsV_spec : ∀ {ps : List (Nat × Operand)} {us : List T}, partsV a ps = some us → ∃ pt, partsT a ps = some pt ∧ pt.map Prod.snd = us ∧ pt.map Prod.fst = ps.map Prod.fst
  | [], us, h => by simp [partsV] at h; subst h; exact ⟨[], rfl, rfl, rfl⟩
  | (i, x) :: ps, us, h => by
    simp only [partsV] at h
    split at h
    · rename_i t ts ht hts
      injection h with h; subst h
      obtain ⟨pt, h1, h2, h3⟩ := partsV_spec hts
      exact ⟨(i, t) :: pt, by simp [partsT, ht, h1], by simp [h2], by simp [h3]⟩
    · cases h
theorem r_mk {sz : Nat} {us : List T} {t : TypeId} {len e : Nat} {parts : Array (Nat × Operand)} {ti ie : TI} (hG : Fits P G) (ht : G t = some ti) (htd : ti.d = .slice e) (he : G e = some ie) (hp : partsV a parts.toList = some us)
    (hok : (decide (parts.toList.map Prod.fst = List.range' 0 len) && Nat.beq us.length len && (us.all fun p => notRaw p && Nat.beq p.cells.length ie.size) && Nat.ble (len * ie.size) 16777216 && Nat.blt 0 ie.size) = true) (hd : Ai N (some d) = true)
    (hsz : Nat.beq ie.size sz = true) (k : K (put a (some d) (.sl sz .full us)) σ) : AOp P N ⟨some d, .buildSlice t len parts, ty, pos, af, gd⟩ a σ K := by
  obtain rfl : ie.size = sz := Nat.eq_of_beq_eq_true hsz
  obtain ⟨pt, h1, h2, h3⟩ := partsV_spec hp
  subst h2
  refine op_mkslice hG rfl ht htd he h1 ?_ rfl hd k
  rw [h3]
  simpa [List.all_map, Function.comp_def] using hok
theorem r_build {t : TypeId} {parts : Array (Nat × Operand)} {ti : TI} {pt : List (Nat × T)} {cs : List T} (hG : Fits P G) (ht : G t = some ti) (hpl : (placesOk G ti) = true) (hp : partsT a parts.toList = some pt) (hf : treeFill (placeOf G ti) (ti.zero.map Z.tree) pt = some cs) (hd : Ai N (some d) = true)
    (k : K (put a (some d) (.agg cs)) σ) : AOp P N ⟨some d, .build t parts, ty, pos, af, gd⟩ a σ K := op_build hG rfl ht hpl hp hf rfl hd k
theorem r_q {op : Op} {u : T} (hG : Fits P G) (hp : plainOp op = true) (he : Av G (fun _ => none) (Ad a) op = some u) (hd : Ai N (some d) = true)
    (kk : K (put a (some d) u) σ) : AOp P N ⟨some d, op, ty, pos, af, gd⟩ a σ K := op_q hG he rfl hd kk
theorem r_pure {f : Operand} {args : Array Operand} {tys : Array TypeId} {g : FuncId} {caps ts us : List T} {r : T} (hf : Ad a f = some (.fn (.func g) caps)) (ha : argsT a args.toList = some ts) (hu : ts ++ caps = us) (hd : Ai N (some d) = true) (hnx : σ.nx = none)
    (h : Pure P g us r) (k : K (put a (some d) r) σ) : AOp P N ⟨some d, .call ⟨.value f, args, tys⟩, ty, pos, af, gd⟩ a σ K := by subst hu; exact op_pure rfl hf ha rfl hd hnx h k
theorem r_owns {f : Operand} {args : Array Operand} {tys : Array TypeId} {g : FuncId} {caps ts us : List T} {sz : Nat} {xs : List T} (hf : Ad a f = some (.fn (.func g) caps)) (ha : argsT a args.toList = some ts) (hu : ts ++ caps = us) (hd : Ai N (some d) = true) (hnx : σ.nx = none)
    (h : Owns P g us sz xs) (k : ∀ k, K (put a (some d) (.sl sz (.tok k) xs)) { σ with R := k :: σ.R }) : AOp P N ⟨some d, .call ⟨.value f, args, tys⟩, ty, pos, af, gd⟩ a σ K := by subst hu; exact op_owns rfl hf ha rfl hd hnx h k
theorem r_appm (n : Nat) {f : α → T} {sz : Nat} [Enc f sz] {x y : Operand} {t1 t2 : TypeId} {e : Nat} {i1 i2 ie : TI} {k0 : Nat} {xs ys : List α} {zs : List T} {u : T} (hG : Fits P G)
    (hx : Ad a x = some (.sl sz (.tok k0) (xs.map f))) (hRn : σ.R[n]? = some k0) (hnx : σ.nx = none) (h1 : G t1 = some i1) (h1d : i1.d = .slice e) (he : G e = some ie) (h2 : G t2 = some i2) (h2d : ∃ e2, i2.d = .slice e2)
    (hy : Ad a y = some u) (hsrc : srcOf (fun _ => none) sz u = some zs) (hsz : (Nat.beq sz ie.size && Nat.blt 0 sz && Nat.ble ie.bytes 4096) = true) (hd : Ai N (some d) = true)
    (hz : zs = ys.map f) (hlen : xs.length + ys.length ≤ 4294967296)
    (k : ∀ k', K (put a (some d) (.sl sz (.tok k') ((xs ++ ys).map f))) (σ.tk n k')) : AOp P N ⟨some d, .call ⟨.builtin .append, #[x, y], #[t1, t2]⟩, ty, pos, af, gd⟩ a σ K := op_appm n hG rfl hx hRn hnx h1 h1d he h2 h2d hy hsrc hsz rfl hd hz hlen k
theorem r_app0m {f : α → T} {sz : Nat} [Enc f sz] {x y : Operand} {t1 t2 : TypeId} {e : Nat} {i1 i2 ie : TI} {xs ys : List α} {us zs : List T} {tx u : T} (hG : Fits P G)
    (hx : Ad a x = some tx) (hnr : noRoom tx = some us) (hnx : σ.nx = none) (h1 : G t1 = some i1) (h1d : i1.d = .slice e) (he : G e = some ie) (h2 : G t2 = some i2) (h2d : ∃ e2, i2.d = .slice e2)
    (hnz : noRoomSz sz tx = true) (hy : Ad a y = some u) (hsrc : srcOf (fun _ => none) sz u = some zs) (hsz : (Nat.beq sz ie.size && Nat.blt 0 sz && Nat.ble ie.bytes 4096) = true) (hd : Ai N (some d) = true)
    (hu : us = xs.map f) (hz : zs = ys.map f) (hlen : xs.length + ys.length ≤ 4294967296)
    (k : ∀ k', K (put a (some d) (.sl sz (.tok k') ((xs ++ ys).map f))) { σ with R := k' :: σ.R }) : AOp P N ⟨some d, .call ⟨.builtin .append, #[x, y], #[t1, t2]⟩, ty, pos, af, gd⟩ a σ K := op_app0m hG rfl hx hnr hnx h1 h1d he h2 h2d hnz hy hsrc hsz rfl hd hu hz hlen k
/-! What stands behind, under a name: so that goals stay small. -/
variable {Q : Exit → Env → St → Prop}
theorem aw_seq' {x y : Code} (h : let Q1 := A7 (AW P N y Q) Q; AW P N x Q1 a σ) : AW P N (.seq x y) Q a σ := aw_seq h
theorem aw_block' {id : Nat} {c : Code} (h : let Q1 := Am id Q; AW P N c Q1 a σ) : AW P N (.block id c) Q a σ := aw_block h
theorem aw_regL' {id : Nat} {os : List Oper} (h : let O1 : Array Oper := ⟨os⟩; AL P N O1 Q 0 os a σ) : AW P N (.region id ⟨os⟩ false) Q a σ := aw_regL h
theorem aw_draw' {id : Nat} {os : List Oper} (hm : P.follows .mixedOrders = true) (hc : drawOK ⟨os⟩ = true) (h : let O1 : Array Oper := ⟨os⟩; DL P N O1 Q σ os a) : AW P N (.region id ⟨os⟩ true) Q a σ := aw_draw hm hc h
end
theorem Y {α : Sort _} {a : α} : a = a := rfl
end Go.Ts
