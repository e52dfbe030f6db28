/- Trees, continued: what a row reads of its arguments, as trees; a law's row out of its walk. -/
import Derived.Test.YtholeicgmkjadaaTsF
import Derived.ProofKit
import Derived.OpenShut
import Derived.ChangeOld
import Derived.SizedLaws
set_option linter.unusedVariables false
set_option linter.unusedSimpArgs false
namespace Go.Ts

theorem mapM_some {α β : Type} {f : α → Option β} : ∀ {l : List α} {r : List β}, l.mapM f = some r → r.length = l.length ∧ ∀ (i : Nat) (x : α), l[i]? = some x → ∃ y, f x = some y ∧ r[i]? = some y
  | [], r, h => by simp at h; subst h; exact ⟨rfl, fun i x hx => by simp at hx⟩
  | a :: l, r, h => by
    simp only [List.mapM_cons, Option.pure_def, Option.bind_eq_bind, Option.bind_eq_some_iff] at h
    obtain ⟨y, hy, ys, hys, h⟩ := h
    injection h with h; subst h
    obtain ⟨h1, h2⟩ := mapM_some hys
    refine ⟨by simp [h1], fun i x hx => ?_⟩
    cases i with
    | zero => simp at hx; subst hx; exact ⟨y, hy, rfl⟩
    | succ i => simpa using h2 i x (by simpa using hx)

def tileB (G : Nat → Option TI) : Nat → List (Nat × Nat) → Nat → Bool
  | acc, [], size => Nat.beq acc size
  | acc, (off, ft) :: r, size => Nat.beq off acc && match sizeT G ft with
    | some n => tileB G (acc + n) r size
    | none => false

/-- A type whose values are data through and through (numbers, bools, strings, slices, structs). -/
def okTy (G : Nat → Option TI) : Nat → Nat → Bool
  | 0, _ => false
  | n + 1, t => match G t with
    | some i => match i.d with
      | .bool | .int _ | .str => true
      | .slice e => okTy G n e && (match G e with | some ie => Nat.blt 0 ie.size && Nat.blt 0 ie.bytes | none => false)
      | .struct fs => tileB G 0 fs i.size && fs.all fun f => okTy G n f.2
      | _ => false
    | none => false

def bigLen : Nat := 140737488351232

def TyFs (R : Nat → List T → Prop) : List (Nat × Nat) → List T → Prop
  | [], cs => cs = []
  | (_, ft) :: r, cs => ∃ p q, cs = p ++ q ∧ R ft p ∧ TyFs R r q
/-- A tree is an aggregate exactly where its type is one. -/
def AggOK (G : Nat → Option TI) (e : Nat) (x : T) : Prop := ∀ ie, G e = some ie → (ie.d.agg = true → ∃ c, x = .agg c) ∧ (ie.d.agg = false → x.cells = [x])
/-- Cells that are a value of a type. -/
def Ty (G : Nat → Option TI) : Nat → Nat → List T → Prop
  | 0, _, _ => False
  | n + 1, t, cs => match G t with
    | some i => match i.d with
      | .bool => ∃ b, cs = [.bool b]
      | .int k => ∃ v, cs = [.int k v] ∧ (Lit.int k v).wf = true
      | .str => ∃ s, cs = [.str s] ∧ s.length ≤ bigLen
      | .slice e => ∃ xs, cs = [.sl ((sizeT G e).getD 0) .no xs] ∧ xs.length ≤ bigLen ∧ ∀ x ∈ xs, Ty G n e x.cells ∧ AggOK G e x
      | .struct fs => TyFs (Ty G n) fs cs
      | _ => False
    | none => False

def σ0 : St := ⟨[], [], fun _ _ => False, none⟩
def μ0 : Gh := ⟨fun _ => none, fun _ => none⟩
theorem inv0 (w : World) : Inv w μ0 σ0 := ⟨fun i ts h => absurd h List.not_mem_nil, fun i es h => absurd h List.not_mem_nil, fun n m i j x y b p q h => by simp [σ0] at h, fun k h => absurd h List.not_mem_nil, fun n m k l b f t g u h => by simp [σ0] at h,
  ⟨0, fun i _ => ⟨rfl, rfl⟩, fun m h => by simp [σ0] at h⟩, fun b o h => h.elim, fun i ob b p h => absurd h List.not_mem_nil⟩
theorem imm0 {w : World} {b o : Nat} (h : b < w.heap.size) : Imm w μ0 σ0 b o := ⟨h, fun h => h, fun i ob p h => absurd h List.not_mem_nil, fun k f t h => absurd h List.not_mem_nil⟩
theorem cell_lt {w : World} {a : Addr} {v : Value} (h : w.cell? a = some v) : a.block < w.heap.size ∧ a = ⟨a.block, a.off, none⟩ := by
  unfold World.cell? at h
  split at h
  · rename_i c t f hc
    refine ⟨(Array.getElem?_eq_some_iff.1 hc).1, ?_⟩
    split at h
    · cases h
    · rename_i hs
      obtain ⟨b, o, s⟩ := a
      cases s with
      | none => rfl
      | some x => simp at hs
  · cases h

section
variable {P : Program} {G : Nat → Option TI} {w : World} {H : Type} {enc : TypeId × Value → H}

def CRel (w : World) (cs : List Value) (ts : List T) : Prop := ts.length = cs.length ∧ ∀ (j : Nat) (c : T) (v : Value), ts[j]? = some c → cs[j]? = some v → Rel w μ0 σ0 v c

theorem CRel.append {cs cs' : List Value} {ts ts' : List T} (h : CRel w cs ts) (k : CRel w cs' ts') : CRel w (cs ++ cs') (ts ++ ts') := by
  refine ⟨by simp [h.1, k.1], fun j c v hc hv => ?_⟩
  rcases Nat.lt_or_ge j ts.length with hj | hj
  · rw [List.getElem?_append_left hj] at hc
    rw [List.getElem?_append_left (by rw [← h.1]; exact hj)] at hv
    exact h.2 j c v hc hv
  · rw [List.getElem?_append_right hj] at hc
    rw [List.getElem?_append_right (by rw [← h.1]; exact hj), ← h.1] at hv
    exact k.2 _ c v hc hv
theorem CRel.one {v : Value} {t : T} (h : Rel w μ0 σ0 v t) : CRel w [v] [t] := by
  refine ⟨rfl, fun j c u hc hu => ?_⟩
  cases j with
  | zero => simp at hc hu; subst hc; subst hu; exact h
  | succ j => simp at hc

theorem under_of (hG : Fits P G) {t : Nat} {i : TI} (h : G t = some i) : ∃ d, P.underlying t = some d ∧ tdOf d = i.d ∧ P.cellsOf t = i.size ∧ P.bytesOf t = i.bytes := by
  obtain ⟨info, d, h1, h2, h3, h4, h5, _⟩ := hG t i h
  exact ⟨d, h2, h3, by simp [Program.cellsOf, h1, h4], by simp [Program.bytesOf, h1, h5]⟩

theorem tile_fields (hG : Fits P G) {f : Field → Option (DataW H × List MemPlace)} {n : Nat}
    (cs : List Value) : ∀ (fs : List Field) (acc size : Nat) (xs : List (DataW H × List MemPlace)), tileB G acc (fs.map fun f => (f.offset, f.type)) size = true → cs.length = size → fs.mapM f = some xs →
    (∀ (g : Field), g ∈ fs → ∀ x, f g = some x → x ∈ xs → ∃ ts, CRel w ((cs.drop g.offset).take (P.cellsOf g.type)) ts ∧ Ty G n g.type ts) →
    acc ≤ size ∧ ∃ ts, CRel w (cs.drop acc) ts ∧ TyFs (Ty G n) (fs.map fun f => (f.offset, f.type)) ts
  | [], acc, size, xs, ht, hl, hm, _ => by
    simp only [List.map_nil, tileB] at ht
    have := Nat.eq_of_beq_eq_true ht
    subst this
    exact ⟨Nat.le_refl _, [], ⟨by simp [hl], fun j c v hc => by simp at hc⟩, rfl⟩
  | g :: fs, acc, size, xs, ht, hl, hm, hih => by
    simp only [List.map_cons, tileB, Bool.and_eq_true] at ht
    obtain ⟨h1, h2⟩ := ht
    have h1 := Nat.eq_of_beq_eq_true h1
    cases hs : sizeT G g.type with
    | none => simp [hs] at h2
    | some m =>
      simp only [hs] at h2
      obtain ⟨i, hi, him⟩ := sizeT_some hs
      obtain ⟨d, _, _, hcell, _⟩ := under_of hG hi
      simp only [List.mapM_cons, Option.pure_def, Option.bind_eq_bind, Option.bind_eq_some_iff] at hm
      obtain ⟨y, hy, ys, hys, hm⟩ := hm
      injection hm with hm; subst hm
      obtain ⟨hle, ts2, k1, k2⟩ := tile_fields hG cs fs (acc + m) size ys h2 hl hys (fun g' hg' x hx hxm => hih g' (List.mem_cons_of_mem _ hg') x hx (List.mem_cons_of_mem _ hxm))
      obtain ⟨ts1, j1, j2⟩ := hih g List.mem_cons_self y hy List.mem_cons_self
      refine ⟨by omega, ts1 ++ ts2, ?_, ts1, ts2, rfl, j2, k2⟩
      have hd : cs.drop acc = (cs.drop g.offset).take (P.cellsOf g.type) ++ cs.drop (acc + m) := by
        rw [h1, hcell, him, ← List.drop_drop, List.take_append_drop]
      rw [hd]
      exact j1.append k1

theorem exists_list {R : Nat → T → Prop} : ∀ n, (∀ i, i < n → ∃ x, R i x) → ∃ xs : List T, xs.length = n ∧ ∀ (i : Nat) (x : T), xs[i]? = some x → R i x
  | 0, _ => ⟨[], rfl, fun i x h => by simp at h⟩
  | n + 1, h => by
    obtain ⟨xs, h1, h2⟩ := exists_list n (fun i hi => h i (by omega))
    obtain ⟨x, hx⟩ := h n (by omega)
    refine ⟨xs ++ [x], by simp [h1], fun i y hy => ?_⟩
    rcases Nat.lt_or_ge i xs.length with hi | hi
    · rw [List.getElem?_append_left hi] at hy; exact h2 i y hy
    · rw [List.getElem?_append_right hi] at hy
      cases hk : i - xs.length with
      | zero => rw [hk] at hy; simp at hy; subst hy; rw [show i = n by omega]; exact hx
      | succ k => rw [hk] at hy; simp at hy

theorem ty_nonagg {n e : Nat} {ts : List T} {ie : TI} (h : Ty G n e ts) (he : G e = some ie) (ha : ie.d.agg = false) : ∃ c, ts = [c] ∧ c.cells = [c] := by
  cases n with
  | zero => exact h.elim
  | succ n =>
    simp only [Ty, he] at h
    cases hd : ie.d <;> simp only [hd] at h <;> first | (exact h.elim) | skip
    · obtain ⟨b, rfl⟩ := h; exact ⟨_, rfl, rfl⟩
    · obtain ⟨b, rfl, _⟩ := h; exact ⟨_, rfl, rfl⟩
    · obtain ⟨b, rfl, _⟩ := h; exact ⟨_, rfl, rfl⟩
    · obtain ⟨b, rfl, _⟩ := h; exact ⟨_, rfl, rfl⟩
    · rw [hd] at ha; cases ha

theorem weightsAll_mem {e : Nat} {d : DataW H} {x : Nat} : ∀ {l : List (DataW H)}, d ∈ l → x ∈ d.weights P e → x ∈ DataW.weightsAll P e l
  | [], h, _ => by cases h
  | d' :: l, h, hx => by
    simp only [DataW.weightsAll, List.mem_append]
    rcases List.mem_cons.1 h with rfl | h
    · exact .inl hx
    · exact .inr (weightsAll_mem h hx)

theorem cells?_some {a : Addr} {n : Nat} {cl : List Value} (h : w.cells? 0 a n = some cl) : cl.length = n ∧ ∀ j, j < n → ∃ v, w.cell? (a.add j) = some v ∧ cl[j]? = some v := by
  unfold World.cells? at h
  rw [if_pos (Nat.zero_le _)] at h
  obtain ⟨h1, h2⟩ := mapM_some h
  exact ⟨by simpa using h1, fun j hj => h2 j j (by simp [hj])⟩

theorem trod_rel (hG : Fits P G) : ∀ (fuel n t : Nat) (cs : List Value) (d : DataW H) (ps : List MemPlace), okTy G n t = true → DataW.trod enc P w 0 (fun _ => true) true fuel t cs = some (d, ps) →
    (∀ x ∈ d.weights P t, x ≤ reachBytes) → ∃ ts, CRel w cs ts ∧ Ty G n t ts
  | 0, n, t, cs, d, ps, _, h, _ => by simp [DataW.trod] at h
  | fuel + 1, 0, t, cs, d, ps, ho, _, _ => by simp [okTy] at ho
  | fuel + 1, n + 1, t, cs, d, ps, ho, h, hw => by
    simp only [okTy] at ho
    cases hi : G t with
    | none => simp [hi] at ho
    | some i =>
      simp only [hi] at ho
      obtain ⟨ud, hu, hud, hcells, hbytes⟩ := under_of hG hi
      simp only [Ty, hi]
      cases hd : i.d with
      | bool =>
        rw [hd] at hud; obtain rfl := td_bool hud
        rcases cs with _ | ⟨v, _ | ⟨v2, r⟩⟩
        · simp [DataW.trod, hu] at h
        · cases v <;> simp [DataW.trod, hu] at h
          exact ⟨[_], .one (.bool _), _, rfl⟩
        · cases v <;> simp [DataW.trod, hu] at h
      | int k =>
        rw [hd] at hud; obtain rfl := td_int hud
        rcases cs with _ | ⟨v, _ | ⟨v2, r⟩⟩
        · simp [DataW.trod, hu] at h
        · cases v <;> simp [DataW.trod, hu] at h
          obtain ⟨⟨rfl, h2⟩, _⟩ := h
          exact ⟨[_], .one (.int _ _), _, rfl, h2⟩
        · cases v <;> simp [DataW.trod, hu] at h
      | str =>
        rw [hd] at hud; obtain rfl := td_str hud
        rcases cs with _ | ⟨v, _ | ⟨v2, r⟩⟩
        · simp [DataW.trod, hu] at h
        · cases v <;> simp [DataW.trod, hu] at h
          rename_i s
          obtain ⟨h2, rfl, _⟩ := h
          have := hw s.data.toList.length (by simp [DataW.weights])
          exact ⟨[_], .one (.str s), _, rfl, by unfold reachBytes at this; unfold bigLen; omega⟩
        · cases v <;> simp [DataW.trod, hu] at h
      | struct fs =>
        rw [hd] at hud ho
        simp only [Bool.and_eq_true] at ho
        obtain ⟨fa, rfl, hfs⟩ := td_struct hud
        subst hfs
        simp only [DataW.trod, hu] at h
        split at h
        · rename_i hlen
          rw [hcells] at hlen
          simp only [Option.map_eq_some_iff] at h
          obtain ⟨xs, hxs, hdd⟩ := h
          injection hdd with hdd _; subst hdd
          have hmm := mapM_some hxs
          obtain ⟨_, ts, k1, k2⟩ := tile_fields (w := w) (n := n) hG cs fa.toList 0 i.size xs ho.1 hlen hxs (fun g hg x hx hxm => by
            refine trod_rel hG fuel n g.type _ x.1 x.2 ?_ hx ?_
            · have := List.all_eq_true.1 ho.2 (g.offset, g.type) (List.mem_map.2 ⟨g, hg, rfl⟩)
              exact this
            · intro y hy
              refine hw y ?_
              simp only [DataW.weights, hu]
              obtain ⟨j, hj, hjx⟩ := List.getElem_of_mem hg
              obtain ⟨x', hx', hjx'⟩ := hmm.2 j g (by rw [List.getElem?_eq_getElem hj, hjx])
              rw [hx] at hx'; injection hx' with hx'; subst hx'
              exact DataW.weights_mem_each (j := j) (t := g.type) (d := x.1) (by simp [List.getElem?_eq_getElem hj, hjx]) (by simp [hjx']) y hy)
          exact ⟨ts, by simpa using k1, k2⟩
        · cases h
      | slice e =>
        rw [hd] at hud ho
        simp only [Bool.and_eq_true] at ho
        obtain ⟨ho1, ho2⟩ := ho
        obtain rfl := td_slice hud
        cases hie : G e with
        | none => simp [hie] at ho2
        | some ie =>
          simp only [hie, Bool.and_eq_true, Nat.blt_eq] at ho2
          obtain ⟨d2, _, _, hce, hbe⟩ := under_of hG hie
          have hsz : (sizeT G e).getD 0 = ie.size := by simp [sizeT, hie]
          simp only [hsz]
          rcases cs with _ | ⟨v, _ | ⟨v2, r⟩⟩
          · simp [DataW.trod, hu] at h
          · cases v with
            | slice a len cap =>
              cases a with
              | none =>
                cases len with
                | zero => cases cap with
                  | zero => exact ⟨[.sl ie.size .no []], .one (.slnil _ _ trivial), [], rfl, by simp [bigLen], fun x hx => by cases hx⟩
                  | succ c => simp [DataW.trod, hu] at h
                | succ l => simp [DataW.trod, hu] at h
              | some a =>
                simp only [DataW.trod, hu] at h
                split at h
                · rename_i hcond
                  simp only [Option.bind_eq_some_iff, Option.map_eq_some_iff, if_true] at h
                  obtain ⟨elems, hel, rest, hre, hdd⟩ := h
                  injection hdd with hdd _; subst hdd
                  obtain ⟨m1, m2⟩ := mapM_some hel
                  obtain ⟨r1, r2⟩ := mapM_some hre
                  simp only [List.length_range] at m1 r1
                  have hel' : ∀ i, i < len → ∃ y cl, elems[i]? = some y ∧ w.cells? 0 (a.add (i * ie.size)) ie.size = some cl ∧ DataW.trod enc P w 0 (fun _ => true) true fuel e cl = some y := by
                    intro i hi
                    obtain ⟨y, hy1, hy2⟩ := m2 i i (by simp [hi])
                    rw [hce] at hy1
                    obtain ⟨cl, hcl, hy1⟩ := Option.bind_eq_some_iff.1 hy1
                    exact ⟨y, cl, hy2, hcl, hy1⟩
                  have hre' : ∀ j, j < cap - len → ∃ cl, w.cells? 0 (a.add ((len + j) * ie.size)) ie.size = some cl := by
                    intro i hi
                    obtain ⟨y, hy1, hy2⟩ := r2 i i (by simp [hi])
                    rw [hce] at hy1
                    obtain ⟨cl, hcl, hy1⟩ := Option.bind_eq_some_iff.1 hy1
                    exact ⟨cl, hcl⟩
                  have hlen : len ≤ bigLen := by
                    have h1 := hw _ (by simp only [DataW.weights, hu]; exact List.mem_cons_self)
                    simp only [List.length_map, m1, hbe] at h1
                    have h2 : len * 1 ≤ (len + rest.length) * ie.bytes := Nat.mul_le_mul (by omega) ho2.2
                    unfold reachBytes at h1; unfold bigLen; omega
                  by_cases hcap : cap = 0
                  · have h0 : len = 0 := by omega
                    subst hcap; subst h0
                    exact ⟨[.sl ie.size .no []], .one (.slz a _ _ trivial), [], rfl, by simp [bigLen], fun x hx => by cases hx⟩
                  · have ha : ∃ b p, a = ⟨b, p, none⟩ := by
                      have hc0 : ∃ v, w.cell? a = some v := by
                        by_cases hl0 : len = 0
                        · obtain ⟨cl, hcl⟩ := hre' 0 (by omega)
                          obtain ⟨v, hv, _⟩ := (cells?_some hcl).2 0 ho2.1
                          rw [hl0] at hv
                          simp [Addr.add] at hv
                          exact ⟨v, hv⟩
                        · obtain ⟨y, cl, _, hcl, _⟩ := hel' 0 (by omega)
                          obtain ⟨v, hv, _⟩ := (cells?_some hcl).2 0 ho2.1
                          simp [Addr.add] at hv
                          exact ⟨v, hv⟩
                      obtain ⟨v, hv⟩ := hc0
                      exact ⟨a.block, a.off, (cell_lt hv).2⟩
                    obtain ⟨b, p, rfl⟩ := ha
                    obtain ⟨xs, hx1, hx2⟩ := exists_list (R := fun i x => x.cells.length = ie.size ∧ (∀ (j : Nat) (c : T), x.cells[j]? = some c → ∃ v, w.cell? ⟨b, p + i * ie.size + j, none⟩ = some v ∧ Rel w μ0 σ0 v c) ∧ Ty G n e x.cells ∧ AggOK G e x) len (fun i hi => by
                      obtain ⟨y, cl, hy, hcl, htr⟩ := hel' i hi
                      obtain ⟨c1, c2⟩ := cells?_some hcl
                      obtain ⟨ts, k1, k2⟩ := trod_rel hG fuel n e cl y.1 y.2 ho1 htr (fun q hq => hw q (by
                        simp only [DataW.weights, hu, List.mem_cons, List.mem_append]
                        exact .inr (.inl (weightsAll_mem (List.mem_map.2 ⟨y, List.mem_of_getElem? hy, rfl⟩) hq))))
                      have fin : ∀ x : T, x.cells = ts → AggOK G e x → ∃ x : T, x.cells.length = ie.size ∧ (∀ (j : Nat) (c : T), x.cells[j]? = some c → ∃ v, w.cell? ⟨b, p + i * ie.size + j, none⟩ = some v ∧ Rel w μ0 σ0 v c) ∧ Ty G n e x.cells ∧ AggOK G e x := by
                        intro x hx hagg
                        refine ⟨x, by rw [hx, k1.1, c1], fun j c hj => ?_, by rw [hx]; exact k2, hagg⟩
                        rw [hx] at hj
                        have hjl : j < ie.size := by
                          rcases Nat.lt_or_ge j ts.length with h | h
                          · rw [k1.1, c1] at h; exact h
                          · rw [List.getElem?_eq_none h] at hj; cases hj
                        obtain ⟨v, hv1, hv2⟩ := c2 j hjl
                        rw [add_at, add_at] at hv1
                        exact ⟨v, hv1, k1.2 j c v hj hv2⟩
                      cases hag : ie.d.agg with
                      | true => exact fin (.agg ts) rfl (fun ie' h1 => ⟨fun _ => ⟨ts, rfl⟩, fun h2 => by rw [hie] at h1; injection h1 with h1; subst h1; rw [hag] at h2; cases h2⟩)
                      | false =>
                        obtain ⟨c, rfl, hc⟩ := ty_nonagg k2 hie hag
                        exact fin c hc (fun ie' h1 => ⟨fun h2 => (by rw [hie] at h1; injection h1 with h1; subst h1; rw [hag] at h2; cases h2), fun _ => hc⟩))
                    refine ⟨[.sl ie.size .no xs], .one (.sl b p cap ie.size .no xs len hx1 hcond.2.1 trivial (fun i x hx => (hx2 i x hx).1) (fun i x j c hx hj => ?_) (fun i x j c v hx hj hv => ?_)), xs, rfl, by omega, fun x hx => ?_⟩
                    · obtain ⟨v, hv, _⟩ := (hx2 i x hx).2.1 j c hj
                      exact ⟨imm0 (cell_lt hv).1, v, hv⟩
                    · obtain ⟨u, hu', hr⟩ := (hx2 i x hx).2.1 j c hj
                      rw [hv] at hu'; injection hu' with hu'; exact hu' ▸ hr
                    · obtain ⟨i, hi, rfl⟩ := List.getElem_of_mem hx
                      exact ⟨(hx2 i _ (List.getElem?_eq_getElem hi)).2.2.1, (hx2 i _ (List.getElem?_eq_getElem hi)).2.2.2⟩
                · cases h
            | _ => simp [DataW.trod, hu] at h
          · cases v with
            | slice a _ _ => cases a <;> simp [DataW.trod, hu] at h
            | _ => simp [DataW.trod, hu] at h
      | _ => rw [hd] at ho; cases ho

/-- An argument's tree is of its type. -/
def ArgTy (G : Nat → Option TI) (n t : Nat) (x : T) : Prop := Ty G n t x.cells ∧ AggOK G t x

theorem arg_rel (hG : Fits P G) {n t base : Nat} {v : Value} {d : DataW H} {ps : List MemPlace} (ho : okTy G n t = true) (hv : Value.okWide P w .any base t v) (h : DataW.Trod enc P w 0 (fun _ => true) true t v d ps)
    (hw : ∀ x ∈ d.weights P t, x ≤ reachBytes) : ∃ x, Rel w μ0 σ0 v x ∧ ArgTy G n t x := by
  obtain ⟨fuel, h⟩ := h
  obtain ⟨ts, h1, h2⟩ := trod_rel hG fuel n t _ d ps ho h hw
  cases n with
  | zero => exact h2.elim
  | succ n =>
    have ho2 := ho
    simp only [okTy] at ho2
    cases hi : G t with
    | none => simp [hi] at ho2
    | some i =>
      simp only [hi] at ho2
      obtain ⟨ud, hu, hud, hcells, hbytes⟩ := under_of hG hi
      cases ha : i.d.agg with
      | true =>
        have : ∃ cs, v = .agg cs := by
          unfold Value.okWide at hv
          cases hd : i.d <;> rw [hd] at ha ho2 <;> first | (cases ha; done) | skip
          · cases ho2
          · rw [hd] at hud
            obtain ⟨f, rfl, _⟩ := td_struct hud
            simp only [hu] at hv
            obtain ⟨cs, rfl, _⟩ := hv
            exact ⟨cs, rfl⟩
        obtain ⟨cs, rfl⟩ := this
        refine ⟨.agg ts, .agg _ _ (by have := h1.1; simp [Value.cells] at this; omega) (fun j c v hc hv => h1.2 j c v hc (by simpa [Value.cells] using hv)), h2, fun i' h3 => ⟨fun _ => ⟨ts, rfl⟩, fun h4 => by rw [hi] at h3; injection h3 with h3; subst h3; rw [ha] at h4; cases h4⟩⟩
      | false =>
        obtain ⟨c, rfl, hc⟩ := ty_nonagg h2 hi ha
        have hv1 : v.cells = #[v] := by
          cases v with
          | agg cs =>
            exfalso
            unfold Value.okWide Cell.okWide at hv
            cases hd : i.d <;> rw [hd] at ha ho2 hud <;> first | (cases ha; done) | (cases ho2; done) | skip
            · obtain rfl := td_bool hud; simp [hu, Cell.ok] at hv
            · obtain rfl := td_str hud; simp [hu, Cell.ok] at hv
            · obtain rfl := td_int hud; simp [hu, Cell.ok] at hv
            · obtain rfl := td_slice hud; simp [hu, Cell.ok] at hv
          | _ => rfl
        rw [hv1] at h1
        refine ⟨c, h1.2 0 c v rfl rfl, by rw [hc]; exact h2, fun i' h3 => ⟨fun h4 => ?_, fun _ => hc⟩⟩
        rw [hi] at h3; injection h3 with h3; subst h3; rw [ha] at h4; cases h4

/-- From the walk over trees to the walk over the world in which a row begins. -/
theorem law_calls {f : FuncId} {xs : List T} {vs : Array Value} (hl : vs.size = xs.length) (hr : ∀ (j : Nat) (x : T) (v : Value), xs[j]? = some x → vs[j]? = some v → Rel w μ0 σ0 v x)
    (h : ACalls P f xs σ0 (fun r _ => r = .bool true)) : Calls P f vs w fun e w' => e = .returned (.bool true) ∧ Go.RowKit.Below w.heap.size w w' := by
  refine (h.2 vs w μ0 (inv0 w) hl hr).mono ?_
  rintro e w' ⟨v, t, σ', μ', rfl, ev, hi, r, rfl⟩
  cases r
  refine ⟨rfl, ev.below.os, ev.below.tape, ev.below.output, ev.below.size, fun k hk => (ev.live k hk ?_).2⟩
  rintro (⟨i, ob, p, h, _⟩ | ⟨k, f, t, h, _⟩)
  · exact absurd h List.not_mem_nil
  · exact absurd h List.not_mem_nil
end
end Go.Ts
