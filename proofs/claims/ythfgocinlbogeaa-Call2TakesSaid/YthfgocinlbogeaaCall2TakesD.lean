/- Part of the proof of the law Call2Takes: the texts AK, AB, TsJ, AH, BB, S6, S7, S8, S9, DB, O1, RP, LP, S10, S11, O2, O6, O7, K1, K2, KV1, DS, KV2, KV3, KRa. No conditions. -/
import Derived.Test.YthfgocinlbogeaaCall2TakesC
set_option linter.unusedSimpArgs false
set_option linter.unusedVariables false
set_option linter.unusedSimpArgs false
set_option linter.unusedVariables false
set_option linter.unnecessarySimpa false
namespace Go.Ts
section
variable {P : Program} {G : Nat → Option TI} {N : Nat} {σ : St} {a : Env} {K : Env → St → Prop} {d : Tmp} {ty : TypeId} {pos : String} {af : Array Edge} {gd : Option (Nat × Bool)}
def kvT (p : Nat × Int) : T × T := (.int .u64 (p.1 : Int), .int .i64 p.2)
def kfind (k : Nat) : List (Nat × Int) → Nat → Option (Nat × Int)
  | [], _ => none
  | p :: m, i => if k = p.1 then some (i, p.2) else kfind k m (i + 1)
def klook (m : List (Nat × Int)) (k : Nat) : Int := ((kfind k m 0).map (·.2)).getD 0
def khas (m : List (Nat × Int)) (k : Nat) : Bool := (kfind k m 0).isSome
def kset (m : List (Nat × Int)) (k : Nat) (v : Int) : List (Nat × Int) := match kfind k m 0 with
  | some (p, _) => m.set p (k, v)
  | none => m ++ [(k, v)]
theorem findX_kv (k : Nat) : ∀ (m : List (Nat × Int)) (i : Nat), findX .u64 (k : Int) (m.map kvT) i = some ((kfind k m i).map fun p => (p.1, .int .i64 p.2))
  | [], i => rfl
  | p :: m, i => by
    have ih := findX_kv k m (i + 1)
    simp only [List.map_cons, kvT, findX, decide_true, cond_true, kfind]
    by_cases h : k = p.1
    · have h2 : ((k : Nat) : Int) = ((p.1 : Nat) : Int) := by omega
      rw [if_pos h, decide_eq_true h2]; rfl
    · have h2 : ¬ ((k : Nat) : Int) = ((p.1 : Nat) : Int) := by omega
      rw [if_neg h, decide_eq_false h2]; exact ih
theorem found_kv (m : List (Nat × Int)) (k : Nat) : foundX (.int .i64 0) ((kfind k m 0).map fun p => (p.1, .int .i64 p.2)) = .int .i64 (klook m k) := by
  unfold klook; cases kfind k m 0 <;> rfl
theorem mapSet_kv (m : List (Nat × Int)) (k : Nat) (v : Int) : mapSet .u64 (k : Int) (.int .i64 v) (m.map kvT) ((kfind k m 0).map fun p => (p.1, .int .i64 p.2)) = (kset m k v).map kvT := by
  unfold kset
  cases kfind k m 0 with
  | none => simp [mapSet, kvT]
  | some p => obtain ⟨p, w⟩ := p; simp [mapSet, kvT, List.map_set]
theorem r_lookL {t kt et : TypeId} {x y : Operand} {ti tk te : TI} {k i n : Nat} {m : List (Nat × Int)} (hG : Fits P G) (hx : Aa a x = some (.map (some i))) (hy : Aa a y = some (.int .u64 ((k : Nat) : Int))) (hob : σ.L[n]? = some (i, .map (m.map kvT)))
    (ht : G t = some ti) (htd : ti.d = .map kt et) (hk : G kt = some tk) (hkd : tk.d = .int .u64) (he : G et = some te) (hz : te.tree = .int .i64 0) (hd : Ae N (some d) = true)
    (kk : K (put a (some d) (.int .i64 (klook m k))) σ) : AOp P N ⟨some d, .lookup t x y false, ty, pos, af, gd⟩ a σ K := by
  refine aop_lookup hG rfl ht htd hk hkd he hx hy (List.mem_of_getElem? hob) (findX_kv k m 0) hd ?_
  rw [hz, found_kv]; exact kk
theorem r_lookF {t kt et : TypeId} {x y : Operand} {ti tk te : TI} {k : Nat} {m : List (Nat × Int)} (hG : Fits P G) (hx : Aa a x = some (.mro ((m.map kvT).map Prod.fst) ((m.map kvT).map Prod.snd))) (hy : Aa a y = some (.int .u64 ((k : Nat) : Int)))
    (ht : G t = some ti) (htd : ti.d = .map kt et) (hk : G kt = some tk) (hkd : tk.d = .int .u64) (he : G et = some te) (hz : te.tree = .int .i64 0) (hd : Ae N (some d) = true)
    (kk : K (put a (some d) (.int .i64 (klook m k))) σ) : AOp P N ⟨some d, .lookup t x y false, ty, pos, af, gd⟩ a σ K := by
  refine aop_lookupF hG rfl ht htd hk hkd he hx hy (findX_kv k m 0) hd ?_
  rw [hz, found_kv]; exact kk
theorem r_lookFo {t kt et : TypeId} {x y : Operand} {ti tk te : TI} {k : Nat} {m : List (Nat × Int)} (hG : Fits P G) (hx : Aa a x = some (.mro ((m.map kvT).map Prod.fst) ((m.map kvT).map Prod.snd))) (hy : Aa a y = some (.int .u64 ((k : Nat) : Int)))
    (ht : G t = some ti) (htd : ti.d = .map kt et) (hk : G kt = some tk) (hkd : tk.d = .int .u64) (he : G et = some te) (hz : te.tree = .int .i64 0) (hd : Ae N (some d) = true)
    (kk : K (put a (some d) (.tup [.int .i64 (klook m k), .bool (khas m k)])) σ) : AOp P N ⟨some d, .lookup t x y true, ty, pos, af, gd⟩ a σ K := by
  refine aop_lookupF hG rfl ht htd hk hkd he hx hy (findX_kv k m 0) hd ?_
  rw [hz, found_kv, Option.isSome_map]; exact kk
theorem r_updL {t kt et : TypeId} {mo x y : Operand} {ti tk : TI} {k i : Nat} {v : Int} {m : List (Nat × Int)} (n : Nat) (hG : Fits P G) (hm : Aa a mo = some (.map (some i))) (hx : Aa a x = some (.int .u64 ((k : Nat) : Int))) (hy : Aa a y = some (.int .i64 v)) (hob : σ.L[n]? = some (i, .map (m.map kvT)))
    (ht : G t = some ti) (htd : ti.d = .map kt et) (hk : G kt = some tk) (hkd : tk.d = .int .u64) (kk : K (put a none (.tup [])) (σ.set n i (.map ((kset m k v).map kvT)))) : AOp P N ⟨none, .mapUpdate t mo x y, ty, pos, af, gd⟩ a σ K := by
  refine aop_mapUpdate hG rfl ht htd hk hkd hm hx hy hob (findX_kv k m 0) rfl ?_
  rw [mapSet_kv]; exact kk

def isPM : T → Bool
  | .ptr _ _ | .nilp | .map _ | .bool _ => true
  | _ => false
theorem r_binP {op : BinOp} {t yt : TypeId} {x y : Operand} {tx u : T} (hG : Fits P G) (hx : Aa a x = some tx) (hp : isPM tx = true) (he : Am G (fun _ => none) (Aa a) (.binOp op t x y yt) = some u) (hd : Ae N (some d) = true)
    (kk : K (put a (some d) u) σ) : AOp P N ⟨some d, .binOp op t x y yt, ty, pos, af, gd⟩ a σ K := op_q hG he rfl hd kk
end
end Go.Ts
set_option maxHeartbeats 4000000
namespace Go.Ts
section
variable {P : Program} {G : Nat → Option TI} {N : Nat} {σ : St} {a : Env} {K : Env → St → Prop} {d : Tmp} {ty : TypeId} {pos : String} {af : Array Edge} {gd : Option (Nat × Bool)}
structure SB where
  id : Nat
  bs : List UInt8
  taken : Bool
  turn : Int
  hid : id < 18446744073709551616
instance : Inhabited SB := ⟨⟨0, [], false, 0, by decide⟩⟩
def recT (s : SB) : T := cond s.taken (.sl 1 .no (s.bs.map bT)) .nilsl
def sbT (s : SB) : T := .agg [.int .u64 (s.id : Int), recT s, .bool s.taken, .int .i64 s.turn]
theorem recT_sc (s : SB) : (recT s).scalar = true := by unfold recT; cases s.taken <;> rfl
instance : Enc sbT 4 := ⟨(fun s c h => by
  simp only [sbT, T.cells] at h
  rcases List.mem_cons.1 h with rfl | h
  · rfl
  · rcases List.mem_cons.1 h with rfl | h
    · exact recT_sc s
    · rcases List.mem_cons.1 h with rfl | h
      · rfl
      · rcases List.mem_cons.1 h with rfl | h
        · rfl
        · cases h), fun s => rfl⟩
end
end Go.Ts
namespace Go.Proofs.Ythfgocinlbogeaa
open Go.Ts
set_option linter.unusedSimpArgs false
set_option linter.unusedVariables false
set_option linter.unnecessarySimpa false
attribute [local irreducible] Go.Ts.AW Go.Ts.AOps Go.Ts.AL Go.Ts.AOp Go.Ts.ACalls Go.Ts.DL Go.Ts.DQ0 Go.Ts.EL
end Go.Proofs.Ythfgocinlbogeaa
namespace Go.Ts
set_option linter.unusedSimpArgs false
set_option linter.unusedVariables false
section
variable {G : Nat → Option TI}
theorem wf_u8 {n : Int} (h : (Lit.int .u8 n).wf = true) : 0 ≤ n ∧ n < 256 := by
  simp only [Lit.wf, IntKind.min, IntKind.max, IntKind.bits, IntKind.signed, Bool.and_eq_true] at h; simp at h; omega
theorem argTy_cells {n t : Nat} {x : T} {ti : TI} (h : ArgTy G n t x) (ht : G t = some ti) (hd : ti.d.agg = false) : Ty G n t [x] := by
  have h1 := h.1
  rwa [(h.2 _ ht).2 hd] at h1
theorem ty_slice {n t e : Nat} {cs : List T} {ti : TI} (h : Ty G (n + 1) t cs) (ht : G t = some ti) (htd : ti.d = .slice e) :
    ∃ xs, cs = [.sl ((sizeT G e).getD 0) .no xs] ∧ xs.length ≤ bigLen ∧ ∀ y ∈ xs, Ty G n e y.cells ∧ AggOK G e y := by
  simpa only [Ty, ht, htd] using h
theorem bytes_of_ty {n e : Nat} {ie : TI} (he : G e = some ie) (hed : ie.d = .int .u8) : ∀ (xs : List T), (∀ y ∈ xs, Ty G (n + 1) e y.cells ∧ AggOK G e y) → ∃ b : List UInt8, xs = b.map bT
  | [], _ => ⟨[], rfl⟩
  | x :: xs, h => by
    obtain ⟨b, hb⟩ := bytes_of_ty he hed xs (fun y hy => h y (List.mem_cons_of_mem _ hy))
    obtain ⟨h1, h2⟩ := h x List.mem_cons_self
    simp only [Ty, he, hed] at h1
    obtain ⟨v, hv, hw⟩ := h1
    obtain ⟨l, u⟩ := wf_u8 hw
    refine ⟨UInt8.ofNat v.toNat :: b, ?_⟩
    have : x = .int .u8 v := by
      have h5 := (h2 _ he).2 (by rw [hed]; rfl)
      rw [h5] at hv; injection hv
    subst this
    rw [hb, List.map_cons]
    congr 1
    unfold bT
    have : (UInt8.ofNat v.toNat).toNat = v.toNat := by simp [UInt8.toNat_ofNat]; omega
    rw [this]; congr 1; omega
theorem ty_bytes {n t e : Nat} {cs : List T} {ti ie : TI} (h : Ty G (n + 2) t cs) (ht : G t = some ti) (htd : ti.d = .slice e) (he : G e = some ie) (hed : ie.d = .int .u8) (hs : ie.size = 1) : ∃ b : List UInt8, cs = [sT b] ∧ b.length ≤ bigLen := by
  obtain ⟨xs, h1, h2, h3⟩ := ty_slice h ht htd
  obtain ⟨b, rfl⟩ := bytes_of_ty he hed xs h3
  exact ⟨b, by rw [h1]; simp [sizeT, he, hs, sT], by simpa using h2⟩
theorem argTy_bytes {n t e : Nat} {x : T} {ti ie : TI} (h : ArgTy G (n + 2) t x) (ht : G t = some ti) (htd : ti.d = .slice e) (he : G e = some ie) (hed : ie.d = .int .u8) (hs : ie.size = 1) : ∃ b : List UInt8, x = sT b ∧ b.length ≤ bigLen := by
  obtain ⟨b, h1, h2⟩ := ty_bytes (argTy_cells h ht (by rw [htd]; rfl)) ht htd he hed hs
  injection h1 with h1
  exact ⟨b, h1, h2⟩
end
end Go.Ts
set_option maxHeartbeats 4000000
namespace Go.Ts
section
variable {P : Program} {G : Nat → Option TI} {N : Nat} {σ : St} {a : Env} {K : Env → St → Prop} {d : Tmp} {ty : TypeId} {pos : String} {af : Array Edge} {gd : Option (Nat × Bool)}
theorem OnL.weak {g : FuncId} {ts us : List T} {L0 : List (Nat × Ob)} {R : T → List (Nat × Ob) → Prop} (h : OnL P g us L0 R) (hw : WkL ts us) : OnL P g ts L0 R := fun off => (h off).weakL hw
theorem r_onL0 {f : Operand} {args : Array Operand} {tys : Array TypeId} {g : FuncId} {ts : List T} {L0 : List (Nat × Ob)} {R : T → List (Nat × Ob) → Prop}
    (hf : Aa a f = some (.fn (.func g) [])) (ha : argsT a args.toList = some ts) (hd : Ae N (some d) = true) (hnx : σ.nx = none) (hL : σ.L = L0) (h : OnL P g ts L0 R)
    (k : ∀ u L', R u L' → K (put a (some d) u) { σ with L := L' }) : AOp P N ⟨some d, .call ⟨.value f, args, tys⟩, ty, pos, af, gd⟩ a σ K := by
  refine r_onL hf ha hd hnx (Lf := []) (by rw [hL, List.append_nil]) h ?_
  intro u L' hR
  rw [List.append_nil]; exact k u L' hR
end
end Go.Ts
namespace Go.Proofs.Ythfgocinlbogeaa
open Go.Ts
set_option linter.unusedSimpArgs false
set_option linter.unusedVariables false
set_option linter.unnecessarySimpa false
attribute [local irreducible] Go.Ts.AW Go.Ts.AOps Go.Ts.AL Go.Ts.AOp Go.Ts.ACalls Go.Ts.DL Go.Ts.DQ0 Go.Ts.EL
end Go.Proofs.Ythfgocinlbogeaa
set_option maxHeartbeats 4000000
namespace Go.Proofs.Ythfgocinlbogeaa
open Go.Ts
set_option linter.unusedSimpArgs false
set_option linter.unusedVariables false
set_option linter.unnecessarySimpa false
attribute [local irreducible] Go.Ts.AW Go.Ts.AOps Go.Ts.AL Go.Ts.AOp Go.Ts.ACalls Go.Ts.DL Go.Ts.DQ0 Go.Ts.EL
def twL (b : List UInt8) : List UInt8 := b ++ [0xe5, 0xe5, 0xe5]
structure TwX (b : List UInt8) where
  i : Nat
  l : List UInt8
  hi : i ≤ b.length + 3
  h0 : b.length ≤ i
  hl : l = b ++ List.replicate (i - b.length) 0xe5 ++ List.replicate (b.length + 3 - i) 0
theorem law_Twin {b : List UInt8} (hb : b.length ≤ 4294967000) : OnL Try.prog 11 [sT b] [] (fun u L => ∃ i, u = .aref 1 i 0 b.length (some (b.length + 3)) ∧ L = [(i, .cells ((twL b).map bT))]) := by
  intro off
  refine Ad (N := 27) (rs := [.tmp 2]) hG Try.func11 rfl rfl rfl rfl rfl ?_
  repeat' (first | (show AL _ _ _ _ _ _ _ _; first | (refine Ap Y ?_; (first | (show AOp _ _ ⟨_, .load _ _, _, _, _, _⟩ _ _ _; first | refine r_ldB (f := bT) 0 hG Y Y Y Y (by first | omega | (simp; omega)) Y ?_ | refine r_ldB (f := bT) 1 hG Y Y Y Y (by first | omega | (simp; omega)) Y ?_ | refine r_ldB (f := bT) 2 hG Y Y Y Y (by first | omega | (simp; omega)) Y ?_) | refine r_slC hG Y Y Y Y Y Y Y (by first | omega | (simp; omega)) ?_)) | refine so2 ?_) | (show AW _ _ _ _ _ _; first | (show AW _ _ (.region _ _ _) _ _ _; refine sc0 ?_; intro O1) | (refine sc1 ?_; try intro Q1)) | (show (_ → _) ∧ _; refine ⟨fun h => ?_, fun h => ?_⟩) | fail)
  refine Ap rfl (r_mkB (z := b.length + 3) hG rfl rfl rfl rfl rfl rfl rfl rfl rfl (by omega) (fun i => ?_))
  repeat' (first | (show AL _ _ _ _ _ _ _ _; (fail_if_success show AL _ _ _ _ _ (⟨_, .call ⟨.builtin .copy, _, _⟩, _, _, _, _⟩ :: _) _ _); first | (refine Ap Y ?_; (first | (show AOp _ _ ⟨_, .load _ _, _, _, _, _⟩ _ _ _; first | refine r_ldB (f := bT) 0 hG Y Y Y Y (by first | omega | (simp; omega)) Y ?_ | refine r_ldB (f := bT) 1 hG Y Y Y Y (by first | omega | (simp; omega)) Y ?_ | refine r_ldB (f := bT) 2 hG Y Y Y Y (by first | omega | (simp; omega)) Y ?_) | refine r_slC hG Y Y Y Y Y Y Y (by first | omega | (simp; omega)) ?_)) | refine so2 ?_) | (show AW _ _ _ _ _ _; first | (show AW _ _ (.region _ _ _) _ _ _; refine sc0 ?_; intro O1) | (refine sc1 ?_; try intro Q1)) | (show (_ → _) ∧ _; refine ⟨fun h => ?_, fun h => ?_⟩) | fail)
  refine Ap rfl (aop_copyL (n := 0) (ys := b.map bT) hG rfl rfl rfl rfl rfl rfl rfl rfl (by simp [List.all_map, bT, T.scalar]) rfl ⟨by simp, by simp⟩ rfl ?_)
  repeat' (first | (show AL _ _ _ _ _ _ _ _; first | (refine Ap Y ?_; (first | (show AOp _ _ ⟨_, .load _ _, _, _, _, _⟩ _ _ _; first | refine r_ldB (f := bT) 0 hG Y Y Y Y (by first | omega | (simp; omega)) Y ?_ | refine r_ldB (f := bT) 1 hG Y Y Y Y (by first | omega | (simp; omega)) Y ?_ | refine r_ldB (f := bT) 2 hG Y Y Y Y (by first | omega | (simp; omega)) Y ?_) | refine r_slC hG Y Y Y Y Y Y Y (by first | omega | (simp; omega)) ?_)) | refine so2 ?_) | (show AW _ _ _ _ _ _; first | (show AW _ _ (.region _ _ _) _ _ _; refine sc0 ?_; intro O1) | (refine sc1 ?_; try intro Q1)) | (show (_ → _) ∧ _; refine ⟨fun h => ?_, fun h => ?_⟩) | fail)
  have e0 : Go.Ts.stored ((List.replicate (b.length + 3) (0 : UInt8)).map bT) (b.map bT) 0 = (b ++ List.replicate 3 0).map bT := by
    unfold Go.Ts.stored
    simp
  refine aw_loop (X := TwX b) (fun x => [(0, sT b), (3, .aref 1 i 0 (b.length + 3) (some (b.length + 3))), (4, .int .i64 (x.i : Int))]) (fun x => ⟨[(i, .cells (x.l.map bT))], [], off, none⟩) (fun x => b.length + 3 - x.i) ⟨b.length, b ++ List.replicate 3 0, by omega, Nat.le_refl _, by simp⟩ (by repeat (first | exact .nil _ | refine .cons rfl ?_)) (by
    show Go.Ts.GStep ⟨[(i, .cells (Go.Ts.stored ((List.replicate (b.length + 3) (0 : UInt8)).map bT) (b.map bT) 0))], [], off, none⟩ _
    rw [e0]; exact .refl _) ?_
  rintro ⟨q, l, hi, h0, hl⟩
  have hll : l.length = b.length + 3 := by rw [hl]; simp; omega
  dsimp only
  by_cases hq : q < b.length + 3
  · repeat' (first | (show AL _ _ _ _ _ _ _ _; (fail_if_success show AL _ _ _ _ _ (⟨_, .store _ _ _, _, _, _, _⟩ :: _) _ _); first | (refine Ap Y ?_; (first | (show AOp _ _ ⟨_, .load _ _, _, _, _, _⟩ _ _ _; first | refine r_ldB (f := bT) 0 hG Y Y Y Y (by first | omega | (simp; omega)) Y ?_ | refine r_ldB (f := bT) 1 hG Y Y Y Y (by first | omega | (simp; omega)) Y ?_ | refine r_ldB (f := bT) 2 hG Y Y Y Y (by first | omega | (simp; omega)) Y ?_) | refine r_slC hG Y Y Y Y Y Y Y (by first | omega | (simp; omega)) ?_)) | refine so2 ?_) | (show AW _ _ _ _ _ _; first | (show AW _ _ (.region _ _ _) _ _ _; refine sc0 ?_; intro O1) | (refine sc1 ?_; try intro Q1)) | (show (_ → _) ∧ _; refine ⟨fun h => ?_, fun h => ?_⟩) | fail)
    refine Ap rfl (r_stB 0 (l := l) (0xe5 : UInt8) hG rfl rfl rfl bT_cells bT_sc rfl rfl (by omega) ?_)
    repeat' (first | (show AL _ _ _ _ _ _ _ _; first | (refine Ap Y ?_; (first | (show AOp _ _ ⟨_, .load _ _, _, _, _, _⟩ _ _ _; first | refine r_ldB (f := bT) 0 hG Y Y Y Y (by first | omega | (simp; omega)) Y ?_ | refine r_ldB (f := bT) 1 hG Y Y Y Y (by first | omega | (simp; omega)) Y ?_ | refine r_ldB (f := bT) 2 hG Y Y Y Y (by first | omega | (simp; omega)) Y ?_) | refine r_slC hG Y Y Y Y Y Y Y (by first | omega | (simp; omega)) ?_)) | refine so2 ?_) | (show AW _ _ _ _ _ _; first | (show AW _ _ (.region _ _ _) _ _ _; refine sc0 ?_; intro O1) | (refine sc1 ?_; try intro Q1)) | (show (_ → _) ∧ _; refine ⟨fun h => ?_, fun h => ?_⟩) | fail)
    exact ⟨⟨q + 1, l.set q 0xe5, by omega, by omega, by
      rw [hl, show b.length + 3 - q = (b.length + 3 - (q + 1)) + 1 by omega, List.replicate_succ, show q + 1 - b.length = (q - b.length) + 1 by omega, List.replicate_succ']
      rw [List.set_append_right _ _ (by simp; omega)]
      simp [show q - (b.length + (q - b.length)) = 0 by omega]⟩, by dsimp only; omega, (by repeat (first | exact .nil _ | refine .cons rfl ?_)), .refl _⟩
  · obtain rfl : q = b.length + 3 := by omega
    repeat' (first | (show AL _ _ _ _ _ _ _ _; first | (refine Ap Y ?_; (first | (show AOp _ _ ⟨_, .load _ _, _, _, _, _⟩ _ _ _; first | refine r_ldB (f := bT) 0 hG Y Y Y Y (by first | omega | (simp; omega)) Y ?_ | refine r_ldB (f := bT) 1 hG Y Y Y Y (by first | omega | (simp; omega)) Y ?_ | refine r_ldB (f := bT) 2 hG Y Y Y Y (by first | omega | (simp; omega)) Y ?_) | refine r_slC hG Y Y Y Y Y Y Y (by first | omega | (simp; omega)) ?_)) | refine so2 ?_) | (show AW _ _ _ _ _ _; first | (show AW _ _ (.region _ _ _) _ _ _; refine sc0 ?_; intro O1) | (refine sc1 ?_; try intro Q1)) | (show (_ → _) ∧ _; refine ⟨fun h => ?_, fun h => ?_⟩) | fail)
    have e1 : l = twL b := by rw [hl, Nat.sub_self, show b.length + 3 - b.length = 3 by omega]; simp [twL]
    rw [e1]
    exact ret_onL (Ab rfl Ac) (.refl _) (.refl _) (.refl _) rfl ⟨i, rfl, rfl⟩
theorem twL_take (b : List UInt8) : (twL b).take b.length = b := by simp [twL]
structure KeX (b : List UInt8) where
  i : Nat
  hi : i ≤ b.length + 3
  h0 : b.length ≤ i
set_option maxHeartbeats 9000000 in
theorem law_Kept {b : List UInt8} (hb : b.length ≤ 4294967000) (i : Nat) : OnL Try.prog 13 [.aref 1 i 0 b.length (some (b.length + 3)), sT b] [(i, .cells ((twL b).map bT))] (fun u L => u = .bool true ∧ L = [(i, .cells ((twL b).map bT))]) := by
  have hl : (twL b).length = b.length + 3 := by simp [twL]
  intro off
  refine Ad (N := 38) (rs := [.tmp 4]) hG Try.func13 rfl rfl rfl rfl rfl ?_
  repeat' (first | (show AL _ _ _ _ _ _ _ _; (fail_if_success show AL _ _ _ _ _ (⟨_, .convert _ _ _, _, _, _, _⟩ :: _) _ _); first | (refine Ap Y ?_; (first | (show AOp _ _ ⟨_, .load _ _, _, _, _, _⟩ _ _ _; first | refine r_ldB (f := bT) 0 hG Y Y Y Y (by first | omega | (simp; omega)) Y ?_ | refine r_ldB (f := bT) 1 hG Y Y Y Y (by first | omega | (simp; omega)) Y ?_ | refine r_ldB (f := bT) 2 hG Y Y Y Y (by first | omega | (simp; omega)) Y ?_) | refine r_slC hG Y Y Y Y Y Y Y (by first | omega | (simp; omega)) ?_)) | refine so2 ?_) | (show AW _ _ _ _ _ _; first | (show AW _ _ (.region _ _ _) _ _ _; refine sc0 ?_; intro O1) | (refine sc1 ?_; try intro Q1)) | (show (_ → _) ∧ _; refine ⟨fun h => ?_, fun h => ?_⟩) | fail)
  refine Ap rfl (r_tostrL 0 (l := twL b) hG rfl rfl rfl rfl rfl rfl rfl rfl (by omega) rfl ?_)
  rw [twL_take]
  have h3 : ¬ ((b.length + 3 : Nat) : Int) < (b.length : Int) + 3 := by omega
  repeat' (first | (show AL _ _ _ _ _ _ _ _; first | (refine Ap Y ?_; (first | (show AOp _ _ ⟨_, .load _ _, _, _, _, _⟩ _ _ _; first | refine r_ldB (f := bT) 0 hG Y Y Y Y (by first | omega | (simp; omega)) Y ?_ | refine r_ldB (f := bT) 1 hG Y Y Y Y (by first | omega | (simp; omega)) Y ?_ | refine r_ldB (f := bT) 2 hG Y Y Y Y (by first | omega | (simp; omega)) Y ?_) | refine r_slC hG Y Y Y Y Y Y Y (by first | omega | (simp; omega)) ?_)) | refine so2 ?_) | (show AW _ _ _ _ _ _; first | (show AW _ _ (.region _ _ _) _ _ _; refine sc0 ?_; intro O1) | (refine sc1 ?_; try intro Q1)) | (show (_ → _) ∧ _; refine ⟨fun h => ?_, fun h => ?_⟩) | fail)
  refine aw_loop (X := KeX b) (fun x => [(1, sT b), (5, .aref 1 i 0 (b.length + 3) (some (b.length + 3))), (6, .int .i64 (x.i : Int))]) (fun x => ⟨[(i, .cells ((twL b).map bT))], [], off, none⟩) (fun x => b.length + 3 - x.i) ⟨b.length, by omega, Nat.le_refl _⟩ (by repeat (first | exact .nil _ | refine .cons rfl ?_)) (.refl _) ?_
  rintro ⟨q, hi, h0⟩
  dsimp only
  by_cases hq : q < b.length + 3
  · have hg : (((twL b).getD q default).toNat : Int) = 229 := by
      have : (twL b).getD q default = 0xe5 := by
        unfold twL
        simp only [List.getD]
        rw [List.getElem?_append_right h0]
        rcases (show q - b.length = 0 ∨ q - b.length = 1 ∨ q - b.length = 2 by omega) with e | e | e <;> rw [e] <;> rfl
      rw [this]; rfl
    repeat' (first | (show AL _ _ _ _ _ _ _ _; first | (refine Ap Y ?_; (first | (show AOp _ _ ⟨_, .load _ _, _, _, _, _⟩ _ _ _; first | refine r_ldB (f := bT) 0 hG Y Y Y Y (by first | omega | (simp; omega)) Y ?_ | refine r_ldB (f := bT) 1 hG Y Y Y Y (by first | omega | (simp; omega)) Y ?_ | refine r_ldB (f := bT) 2 hG Y Y Y Y (by first | omega | (simp; omega)) Y ?_) | refine r_slC hG Y Y Y Y Y Y Y (by first | omega | (simp; omega)) ?_)) | refine so2 ?_) | (show AW _ _ _ _ _ _; first | (show AW _ _ (.region _ _ _) _ _ _; refine sc0 ?_; intro O1) | (refine sc1 ?_; try intro Q1)) | (show (_ → _) ∧ _; refine ⟨fun h => ?_, fun h => ?_⟩) | fail)
    exact ⟨⟨q + 1, by omega, by omega⟩, by dsimp only; omega, (by repeat (first | exact .nil _ | refine .cons rfl ?_)), .refl _⟩
  · repeat' (first | (show AL _ _ _ _ _ _ _ _; first | (refine Ap Y ?_; (first | (show AOp _ _ ⟨_, .load _ _, _, _, _, _⟩ _ _ _; first | refine r_ldB (f := bT) 0 hG Y Y Y Y (by first | omega | (simp; omega)) Y ?_ | refine r_ldB (f := bT) 1 hG Y Y Y Y (by first | omega | (simp; omega)) Y ?_ | refine r_ldB (f := bT) 2 hG Y Y Y Y (by first | omega | (simp; omega)) Y ?_) | refine r_slC hG Y Y Y Y Y Y Y (by first | omega | (simp; omega)) ?_)) | refine so2 ?_) | (show AW _ _ _ _ _ _; first | (show AW _ _ (.region _ _ _) _ _ _; refine sc0 ?_; intro O1) | (refine sc1 ?_; try intro Q1)) | (show (_ → _) ∧ _; refine ⟨fun h => ?_, fun h => ?_⟩) | fail)
    exact ret_onL (Ab rfl Ac) (.refl _) (.refl _) (.refl _) rfl ⟨rfl, rfl⟩
structure SpX (c : Nat) where
  i : Nat
  l : List UInt8
  hi : i ≤ c
  hl : l.length = c
theorem law_Spoil {l : List UInt8} {n c : Nat} (hl : l.length = c) (hc : c ≤ 4294967296) (i : Nat) : OnL Try.prog 26 [.aref 1 i 0 n (some c)] [(i, .cells (l.map bT))] (fun u L => ∃ l' : List UInt8, l'.length = c ∧ u = .tup [] ∧ L = [(i, .cells (l'.map bT))]) := by
  intro off
  refine Ad (N := 17) (rs := []) hG Try.func26 rfl rfl rfl rfl rfl ?_
  repeat' (first | (show AL _ _ _ _ _ _ _ _; first | (refine Ap Y ?_; (first | (show AOp _ _ ⟨_, .load _ _, _, _, _, _⟩ _ _ _; first | refine r_ldB (f := bT) 0 hG Y Y Y Y (by first | omega | (simp; omega)) Y ?_ | refine r_ldB (f := bT) 1 hG Y Y Y Y (by first | omega | (simp; omega)) Y ?_ | refine r_ldB (f := bT) 2 hG Y Y Y Y (by first | omega | (simp; omega)) Y ?_) | refine r_slC hG Y Y Y Y Y Y Y (by first | omega | (simp; omega)) ?_)) | refine so2 ?_) | (show AW _ _ _ _ _ _; first | (show AW _ _ (.region _ _ _) _ _ _; refine sc0 ?_; intro O1) | (refine sc1 ?_; try intro Q1)) | (show (_ → _) ∧ _; refine ⟨fun h => ?_, fun h => ?_⟩) | fail)
  refine aw_loop (X := SpX c) (fun x => [(2, .aref 1 i 0 c (some c)), (3, .int .i64 (x.i : Int))]) (fun x => ⟨[(i, .cells (x.l.map bT))], [], off, none⟩) (fun x => c - x.i) ⟨0, l, Nat.zero_le _, hl⟩ (by repeat (first | exact .nil _ | refine .cons rfl ?_)) (.refl _) ?_
  rintro ⟨q, l, hi, hl⟩
  dsimp only
  by_cases hq : q < c
  · repeat' (first | (show AL _ _ _ _ _ _ _ _; (fail_if_success show AL _ _ _ _ _ (⟨_, .store _ _ _, _, _, _, _⟩ :: _) _ _); first | (refine Ap Y ?_; (first | (show AOp _ _ ⟨_, .load _ _, _, _, _, _⟩ _ _ _; first | refine r_ldB (f := bT) 0 hG Y Y Y Y (by first | omega | (simp; omega)) Y ?_ | refine r_ldB (f := bT) 1 hG Y Y Y Y (by first | omega | (simp; omega)) Y ?_ | refine r_ldB (f := bT) 2 hG Y Y Y Y (by first | omega | (simp; omega)) Y ?_) | refine r_slC hG Y Y Y Y Y Y Y (by first | omega | (simp; omega)) ?_)) | refine so2 ?_) | (show AW _ _ _ _ _ _; first | (show AW _ _ (.region _ _ _) _ _ _; refine sc0 ?_; intro O1) | (refine sc1 ?_; try intro Q1)) | (show (_ → _) ∧ _; refine ⟨fun h => ?_, fun h => ?_⟩) | fail)
    refine Ap rfl (r_stB 0 (l := l) (0x5a : UInt8) hG rfl rfl rfl bT_cells bT_sc rfl rfl (by omega) ?_)
    repeat' (first | (show AL _ _ _ _ _ _ _ _; first | (refine Ap Y ?_; (first | (show AOp _ _ ⟨_, .load _ _, _, _, _, _⟩ _ _ _; first | refine r_ldB (f := bT) 0 hG Y Y Y Y (by first | omega | (simp; omega)) Y ?_ | refine r_ldB (f := bT) 1 hG Y Y Y Y (by first | omega | (simp; omega)) Y ?_ | refine r_ldB (f := bT) 2 hG Y Y Y Y (by first | omega | (simp; omega)) Y ?_) | refine r_slC hG Y Y Y Y Y Y Y (by first | omega | (simp; omega)) ?_)) | refine so2 ?_) | (show AW _ _ _ _ _ _; first | (show AW _ _ (.region _ _ _) _ _ _; refine sc0 ?_; intro O1) | (refine sc1 ?_; try intro Q1)) | (show (_ → _) ∧ _; refine ⟨fun h => ?_, fun h => ?_⟩) | fail)
    exact ⟨⟨q + 1, l.set q 0x5a, by omega, by simpa using hl⟩, by dsimp only; omega, (by repeat (first | exact .nil _ | refine .cons rfl ?_)), .refl _⟩
  · repeat' (first | (show AL _ _ _ _ _ _ _ _; first | (refine Ap Y ?_; (first | (show AOp _ _ ⟨_, .load _ _, _, _, _, _⟩ _ _ _; first | refine r_ldB (f := bT) 0 hG Y Y Y Y (by first | omega | (simp; omega)) Y ?_ | refine r_ldB (f := bT) 1 hG Y Y Y Y (by first | omega | (simp; omega)) Y ?_ | refine r_ldB (f := bT) 2 hG Y Y Y Y (by first | omega | (simp; omega)) Y ?_) | refine r_slC hG Y Y Y Y Y Y Y (by first | omega | (simp; omega)) ?_)) | refine so2 ?_) | (show AW _ _ _ _ _ _; first | (show AW _ _ (.region _ _ _) _ _ _; refine sc0 ?_; intro O1) | (refine sc1 ?_; try intro Q1)) | (show (_ → _) ∧ _; refine ⟨fun h => ?_, fun h => ?_⟩) | fail)
    refine aw_exit ?_
    exact ret_onLE Ac (.refl _) (.refl _) (.refl _) rfl ⟨l, hl, rfl, rfl⟩
end Go.Proofs.Ythfgocinlbogeaa
set_option maxHeartbeats 4000000
namespace Go.Proofs.Ythfgocinlbogeaa
open Go.Ts Go.Sets
attribute [local irreducible] Go.Ts.AW Go.Ts.AOps Go.Ts.AL Go.Ts.AOp Go.Ts.ACalls Go.Ts.DL Go.Ts.DQ Go.Ts.EL
structure MSX (a : List UInt16) where
  i : Nat
  hi : 1 ≤ i
  hp : ∀ j, j + 1 < i → j + 1 < a.length → a.getD j default < a.getD (j + 1) default
theorem ref_MaySet {x : T} {a : List UInt16} (hx : catsT x = some a) (hl : a.length ≤ 140737488351232) : Pure Try.prog 100 [x] (.bool (mayC a)) := by
  refine Pure.weak (us := [cT a]) ?_ (wk1 (catsT_wk hx))
  intro off
  refine Ad (N := 23) (rs := [.tmp 2]) hG Try.func100 rfl rfl rfl rfl rfl ?_
  repeat' (first | (show AL _ _ _ _ _ _ _ _; first | refine so0 ?_) | (show DL _ _ _ _ _ _ _; first | refine do0 ?_) | (show AW _ _ _ _ _ _; first | (show AW _ _ (.region _ _ _) _ _ _; refine sc0 ?_; intro O1) | (refine sc0 ?_; try intro Q1)) | (show (_ → _) ∧ _; refine ⟨fun h => ?_, fun h => ?_⟩) | fail)
  refine aw_loop (X := MSX a) (fun x => [(0, cT a), (3, .int .i64 x.i)]) (fun x => ⟨[], [], off, none⟩) (fun x => a.length - x.i) ⟨1, by omega, fun j h1 h2 => by omega⟩ ?_ (.refl _) ?_
  · exact .cons rfl (.consW rfl (.int rfl) (.nil _))
  rintro ⟨i, hi, hp⟩
  dsimp only
  obtain ⟨i, rfl⟩ : ∃ j, i = j + 1 := ⟨i - 1, by omega⟩
  by_cases hib : i + 1 < a.length
  · have e : (((i + 1 : Nat) : Int) - 1).toNat = i := by omega
    repeat' (first | (show AL _ _ _ _ _ _ _ _; first | refine so0 ?_) | (show DL _ _ _ _ _ _ _; first | refine do0 ?_) | (show AW _ _ _ _ _ _; first | (show AW _ _ (.region _ _ _) _ _ _; refine sc0 ?_; intro O1) | (refine sc0 ?_; try intro Q1)) | (show (_ → _) ∧ _; refine ⟨fun h => ?_, fun h => ?_⟩) | fail)
    · rw [e] at h
      refine Ai (Ab rfl Ac) (.eq ?_) rfl
      have : risesB a = false := Bool.eq_false_iff.2 fun hr => by
        have := (rises_adj a).1 hr i hib
        rw [UInt16.lt_iff_toNat_lt] at this; omega
      rw [mayC, this, Bool.and_false]; rfl
    · rw [e] at h
      refine ⟨⟨i + 2, by omega, fun j h1 h2 => ?_⟩, by dsimp only; omega, ?_, .refl _⟩
      · by_cases hj : j + 1 < i + 1
        · exact hp j hj h2
        · obtain rfl : j = i := by omega
          rw [UInt16.lt_iff_toNat_lt]; omega
      · exact .cons rfl (.consW rfl (.int (by simp; omega)) (.nil _))
  · have : risesB a = true := (rises_adj a).2 fun j hj => hp j (by omega) hj
    by_cases h16 : a.length ≤ 16
    · repeat' (first | (show AL _ _ _ _ _ _ _ _; first | refine so0 ?_) | (show DL _ _ _ _ _ _ _; first | refine do0 ?_) | (show AW _ _ _ _ _ _; first | (show AW _ _ (.region _ _ _) _ _ _; refine sc0 ?_; intro O1) | (refine sc0 ?_; try intro Q1)) | (show (_ → _) ∧ _; refine ⟨fun h => ?_, fun h => ?_⟩) | fail)
      refine Ai (Ab rfl Ac) (.eq ?_) rfl
      rw [mayC, this, Bool.and_true, decide_eq_true h16]; rfl
    · repeat' (first | (show AL _ _ _ _ _ _ _ _; first | refine so0 ?_) | (show DL _ _ _ _ _ _ _; first | refine do0 ?_) | (show AW _ _ _ _ _ _; first | (show AW _ _ (.region _ _ _) _ _ _; refine sc0 ?_; intro O1) | (refine sc0 ?_; try intro Q1)) | (show (_ → _) ∧ _; refine ⟨fun h => ?_, fun h => ?_⟩) | fail)
      refine Ai (Ab rfl Ac) (.eq ?_) rfl
      rw [mayC, decide_eq_false h16]; rfl

theorem ins_at {x : UInt16} : ∀ (l : List UInt16) (n : Nat), n ≤ l.length → (∀ j, j < n → l.getD j default < x) → (n < l.length → ¬ l.getD n default < x) →
    ins x l = if n < l.length ∧ l.getD n default = x then l else l.take n ++ x :: l.drop n
  | [], n, hn, _, _ => by
    have : n = 0 := by simpa using hn
    subst this; simp [ins]
  | y :: l, 0, _, _, h => by
    have h0 : ¬ y < x := by simpa using h (by simp)
    rw [ins]
    by_cases h1 : x < y
    · rw [if_pos h1, if_neg (by simp; exact fun e => lt_irrefl x (e ▸ h1 : x < x))]; rfl
    · have : x = y := by rcases lt_or (x := x) (y := y) with h | h | h
                         · exact absurd h h1
                         · exact h
                         · exact absurd h h0
      subst this
      rw [if_neg h1, if_pos rfl, if_pos (by simp)]
  | y :: l, n + 1, hn, hb, h => by
    have h0 : y < x := by simpa using hb 0 (by omega)
    rw [ins, if_neg (lt_asymm h0), if_neg (fun e => lt_irrefl x (by rw [e] at h0 ⊢; exact (e ▸ h0))),
      ins_at l n (by simpa using hn) (fun j hj => by simpa using hb (j + 1) (by omega)) (fun hj => by simpa using h (by simpa using hj))]
    by_cases hc : n < l.length ∧ l.getD n default = x
    · rw [if_pos hc, if_pos (by simpa using hc)]
    · rw [if_neg hc, if_neg (by simpa using hc)]; rfl
theorem mk_snoc (l : List UInt16) (x : UInt16) : mk (l ++ [x]) = ins x (mk l) := by simp [mk, List.foldl_append]

structure MkX (a : List UInt16) where
  i : Nat
  k : Nat
  hi : i ≤ a.length
structure MkY (l : List UInt16) (x : UInt16) where
  n : Nat
  hn : n ≤ l.length
  hb : ∀ j, j < n → l.getD j default < x
set_option maxHeartbeats 9000000 in
theorem ref_Make {x : T} {a : List UInt16} (hx : catsT x = some a) (hl : a.length ≤ 4294967000) : Owns Try.prog 127 [x] 1 ((mk a).map hT) := by
  refine Owns.weak (us := [cT a]) ?_ (wk1 (catsT_wk hx))
  intro off
  refine Ad (N := 60) (rs := [.tmp 2]) hG Try.func127 rfl rfl rfl rfl rfl ?_
  repeat' (first | (show AL _ _ _ _ _ _ _ _; first | refine so0 ?_ | (refine sa ?_; intro k)) | (show DL _ _ _ _ _ _ _; first | refine do0 ?_) | (show AW _ _ _ _ _ _; first | (show AW _ _ (.region _ _ _) _ _ _; refine sc0 ?_; intro O1) | (refine sc0 ?_; try intro Q1)) | (show (_ → _) ∧ _; refine ⟨fun h => ?_, fun h => ?_⟩) | fail)
  refine aw_tok0 3 1 rfl rfl rfl rfl (fun k => ?_)
  refine aw_loop (X := MkX a) (fun x => [(0, cT a), (4, .int .i64 x.i), (3, .sl 1 (.tok x.k) ((mk (a.take x.i)).map hT))]) (fun x => ⟨[], [x.k], off, none⟩) (fun x => a.length - x.i) ⟨0, k, Nat.zero_le _⟩ ?_ (.refl _) ?_
  · exact .cons rfl (.consW rfl (.int rfl) (.consW rfl (.eq (by simp [mk])) (.nil _)))
  rintro ⟨i, k, hi⟩
  dsimp only
  by_cases hib : i < a.length
  · have hml := mk_length_le (a.take i)
    have htl : (a.take i).length = i := by rw [List.length_take]; omega
    have hnew : mk (a.take (i + 1)) = ins (a.getD i default) (mk (a.take i)) := by rw [take_getD a i hib, mk_snoc]
    generalize hm : mk (a.take i) = m at *
    repeat' (first | (show AL _ _ _ _ _ _ _ _; first | refine so0 ?_ | (refine sa ?_; intro k)) | (show DL _ _ _ _ _ _ _; first | refine do0 ?_) | (show AW _ _ _ _ _ _; first | (show AW _ _ (.region _ _ _) _ _ _; refine sc0 ?_; intro O1) | (refine sc0 ?_; try intro Q1)) | (show (_ → _) ∧ _; refine ⟨fun h => ?_, fun h => ?_⟩) | fail)
    refine aw_loop (X := MkY m (a.getD i default)) (fun x => [(0, cT a), (4, .int .i64 i), (3, .sl 1 (.tok k) (m.map hT)), (5, .int .i64 x.n)]) (fun x => ⟨[], [k], off, none⟩) (fun x => m.length - x.n) ⟨0, Nat.zero_le _, fun j hj => by omega⟩ ?_ (.refl _) ?_
    · exact .cons rfl (.cons rfl (.cons rfl (.consW rfl (.int rfl) (.nil _))))
    rintro ⟨n, hn, hb⟩
    dsimp only
    have htn : (m.take n).length = n := by rw [List.length_take]; omega
    have hdn : (m.drop n).length = m.length - n := List.length_drop
    by_cases hnm : n < m.length
    · by_cases hlt : (((m.getD n default).toNat : Int) < ((a.getD i default).toNat : Int))
      · repeat' (first | (show AL _ _ _ _ _ _ _ _; first | refine so0 ?_ | (refine sa ?_; intro k)) | (show DL _ _ _ _ _ _ _; first | refine do0 ?_) | (show AW _ _ _ _ _ _; first | (show AW _ _ (.region _ _ _) _ _ _; refine sc0 ?_; intro O1) | (refine sc0 ?_; try intro Q1)) | (show (_ → _) ∧ _; refine ⟨fun h => ?_, fun h => ?_⟩) | fail)
        refine ⟨⟨n + 1, by omega, fun j hj => ?_⟩, by dsimp only; omega, ?_, .refl _⟩
        · by_cases hj2 : j < n
          · exact hb j hj2
          · obtain rfl : j = n := by omega
            rw [UInt16.lt_iff_toNat_lt]; omega
        · exact .cons rfl (.cons rfl (.cons rfl (.consW rfl (.int (by simp)) (.nil _))))
      · have hi2 := ins_at m n hn hb (fun _ h => hlt (hT_lt.2 h))
        by_cases heq : (((m.getD n default).toNat : Int) = ((a.getD i default).toNat : Int))
        · rw [if_pos ⟨hnm, by rw [← UInt16.toNat_inj]; omega⟩] at hi2
          repeat' (first | (show AL _ _ _ _ _ _ _ _; first | refine so0 ?_ | (refine sa ?_; intro k)) | (show DL _ _ _ _ _ _ _; first | refine do0 ?_) | (show AW _ _ _ _ _ _; first | (show AW _ _ (.region _ _ _) _ _ _; refine sc0 ?_; intro O1) | (refine sc0 ?_; try intro Q1)) | (show (_ → _) ∧ _; refine ⟨fun h => ?_, fun h => ?_⟩) | fail)
          refine ⟨⟨i + 1, _, by omega⟩, by dsimp only; omega, ?_, .refl _⟩
          exact .cons rfl (.consW rfl (.int (by simp)) (.consW rfl (.eq (by rw [hnew, hi2])) (.nil _)))
        · rw [if_neg (fun h => heq (by rw [h.2]))] at hi2
          repeat' (first | (show AL _ _ _ _ _ _ _ _; first | refine so0 ?_ | (refine sa ?_; intro k)) | (show DL _ _ _ _ _ _ _; first | refine do0 ?_) | (show AW _ _ _ _ _ _; (fail_if_success show AW _ _ (.region 9 _ _) _ _ _); first | (show AW _ _ (.region _ _ _) _ _ _; refine sc0 ?_; intro O1) | (refine sc0 ?_; try intro Q1)) | (show (_ → _) ∧ _; refine ⟨fun h => ?_, fun h => ?_⟩) | fail)
          refine aw_drawE' (m := 15) [4, 10, 14] (fun σ => ∃ R, σ = ⟨[], R, off, none⟩) mix rfl (by repeat (first | exact Sp.zero _ | apply Sp.succ)) ?_; intro O1 F1 Z1 Q2
          repeat' (first
    | (refine' dq_cons Y Y Y (fun σ hσ K kk => ?_) ?_; (try (show Go.Ts.T; rotate_left)); (obtain ⟨R, rfl⟩ := hσ); (first
      | (show AOp _ _ ⟨_, .move _, _, _, _, _⟩ _ _ _; refine r_move hG Y Y ?_)
      | (show AOp _ _ ⟨_, .assign _, _, _, _, _⟩ _ _ _; refine r_asg hG Y Y ?_)
      | (show AOp _ _ ⟨_, .call ⟨.builtin .len, _, _⟩, _, _, _, _⟩ _ _ _; first | refine r_lenm hG Y Y Y Y ?_ | refine r_len hG Y Y Y Y Y ?_)
      | (show AOp _ _ ⟨_, .binOp .add _ _ _ _, _, _, _, _⟩ _ _ _; first | refine r_ari64 hG Y Y Y Y Y (by omega) ?_)
      | (show AOp _ _ ⟨_, .binOp _ _ _ _ _, _, _, _, _⟩ _ _ _; first | refine r_cmpT hG Y Y Y Y Y (by omega) ?_ | refine r_cmpF hG Y Y Y Y Y (by omega) ?_)
      | (show AOp _ _ ⟨_, .load _ _, _, _, _, _⟩ _ _ _; first | refine r_ldro hG Y Y Y ?_ | refine r_ld 0 hG Y Y Y Y ?_)
      | (show AOp _ _ ⟨_, .indexAddr _ _ _, _, _, _, _⟩ _ _ _; first | refine r_idxn hG Y Y Y Y Y Y Y (by omega) ?_ | refine r_idxm hG Y Y Y Y Y Y Y (by omega) ?_ | refine r_idx hG Y Y ?_)
      | (show AOp _ _ ⟨_, .slice _ _ _ _ _, _, _, _, _⟩ _ _ _; first | refine r_sl_lon hG Y Y Y Y Y Y Y (by omega) ?_ | refine r_sl_hin hG Y Y Y Y Y Y Y (by omega) ?_ | refine r_sl_lo hG Y Y Y Y Y Y Y (by omega) ?_ | refine r_sl_hi hG Y Y Y Y Y Y Y (by omega) ?_ | refine op_cut0 hG Y Y Y Y Y Y Y Y Y Y ?_ | refine r_sl hG Y Y ?_)
      | (show AOp _ _ ⟨_, .pick _ _ _, _, _, _, _⟩ _ _ _; refine r_pick hG Y Y Y ?_)
      | (show AOp _ _ ⟨_, .buildSlice _ _ _, _, _, _, _⟩ _ _ _; first | refine r_mk (sz := 1) hG Y Y Y Y Y Y Y ?_)
      | (show AOp _ _ ⟨_, .call ⟨.builtin .append, _, _⟩, _, _, _, _⟩ _ _ _; first | refine r_appm 0 (ys := [a.getD i default]) hG Y Y Y Y Y Y Y ⟨_, Y⟩ Y Y Y Y Y (by simp only [List.length_append, List.length_map, List.length_cons, List.length_nil]; omega) (fun k => ?_) | refine r_app0m (sz := 1) (xs := []) hG Y Y Y Y Y Y Y ⟨_, Y⟩ Y Y Y Y Y Y Y (by first | omega | (simp; omega)) (fun k => ?_) | refine r_appm 0 hG Y Y Y Y Y Y Y ⟨_, Y⟩ Y Y Y Y Y (by first | omega | (simp only [List.length_append, List.length_cons, List.length_nil]; omega)) (fun k => ?_) | fail)
      | refine r_q hG Y Y Y ?_); exact kk)
    | refine dq_d Y Y Y (fun σ hσ K kt kf => by obtain ⟨R, rfl⟩ := hσ; exact r_cmp hG Y Y Y Y Y kt kf) (fun h => ?_) (fun h => ?_)
    | refine dq_d Y Y Y (fun σ hσ K kt kf => by obtain ⟨R, rfl⟩ := hσ; exact r_str hG Y Y Y Y kt kf) (fun h => ?_) (fun h => ?_)
    | refine dq_s Y Y Y Y ?_ | refine dq_e Y ?_ | (refine dq_nil ?_; show EL _ _ _ _ _ _ _ _ _) | refine el_s ⟨_, Y⟩ Y Y Y Y ?_
    | ((first | refine el_cons ⟨_, Y⟩ Y Y Y (fun K ke => ?_) | refine el_consN ⟨_, Y⟩ Y Y Y (fun K ke => ?_)); (first
      | (show AOp _ _ ⟨_, .move _, _, _, _, _⟩ _ _ _; refine r_move hG Y Y ?_)
      | (show AOp _ _ ⟨_, .assign _, _, _, _, _⟩ _ _ _; refine r_asg hG Y Y ?_)
      | (show AOp _ _ ⟨_, .call ⟨.builtin .len, _, _⟩, _, _, _, _⟩ _ _ _; first | refine r_lenm hG Y Y Y Y ?_ | refine r_len hG Y Y Y Y Y ?_)
      | (show AOp _ _ ⟨_, .binOp .add _ _ _ _, _, _, _, _⟩ _ _ _; first | refine r_ari64 hG Y Y Y Y Y (by omega) ?_)
      | (show AOp _ _ ⟨_, .binOp _ _ _ _ _, _, _, _, _⟩ _ _ _; first | refine r_cmpT hG Y Y Y Y Y (by omega) ?_ | refine r_cmpF hG Y Y Y Y Y (by omega) ?_)
      | (show AOp _ _ ⟨_, .load _ _, _, _, _, _⟩ _ _ _; first | refine r_ldro hG Y Y Y ?_ | refine r_ld 0 hG Y Y Y Y ?_)
      | (show AOp _ _ ⟨_, .indexAddr _ _ _, _, _, _, _⟩ _ _ _; first | refine r_idxn hG Y Y Y Y Y Y Y (by omega) ?_ | refine r_idxm hG Y Y Y Y Y Y Y (by omega) ?_ | refine r_idx hG Y Y ?_)
      | (show AOp _ _ ⟨_, .slice _ _ _ _ _, _, _, _, _⟩ _ _ _; first | refine r_sl_lon hG Y Y Y Y Y Y Y (by omega) ?_ | refine r_sl_hin hG Y Y Y Y Y Y Y (by omega) ?_ | refine r_sl_lo hG Y Y Y Y Y Y Y (by omega) ?_ | refine r_sl_hi hG Y Y Y Y Y Y Y (by omega) ?_ | refine op_cut0 hG Y Y Y Y Y Y Y Y Y Y ?_ | refine r_sl hG Y Y ?_)
      | (show AOp _ _ ⟨_, .pick _ _ _, _, _, _, _⟩ _ _ _; refine r_pick hG Y Y Y ?_)
      | (show AOp _ _ ⟨_, .buildSlice _ _ _, _, _, _, _⟩ _ _ _; first | refine r_mk (sz := 1) hG Y Y Y Y Y Y Y ?_)
      | (show AOp _ _ ⟨_, .call ⟨.builtin .append, _, _⟩, _, _, _, _⟩ _ _ _; first | refine r_appm 0 (ys := [a.getD i default]) hG Y Y Y Y Y Y Y ⟨_, Y⟩ Y Y Y Y Y (by simp only [List.length_append, List.length_map, List.length_cons, List.length_nil]; omega) (fun k => ?_) | refine r_app0m (sz := 1) (xs := []) hG Y Y Y Y Y Y Y ⟨_, Y⟩ Y Y Y Y Y Y Y (by first | omega | (simp; omega)) (fun k => ?_) | refine r_appm 0 hG Y Y Y Y Y Y Y ⟨_, Y⟩ Y Y Y Y Y (by first | omega | (simp only [List.length_append, List.length_cons, List.length_nil]; omega)) (fun k => ?_) | fail)
      | refine r_q hG Y Y Y ?_); refine ke _ _ ?_)
    | (refine el_nil ⟨_, Y⟩ ?_; show AL _ _ _ _ _ _ _ _) | fail)
          repeat' (first | (show AL _ _ _ _ _ _ _ _; first | refine so0 ?_ | (refine sa ?_; intro k)) | (show DL _ _ _ _ _ _ _; first | refine do0 ?_) | (show AW _ _ _ _ _ _; first | (show AW _ _ (.region _ _ _) _ _ _; refine sc0 ?_; intro O1) | (refine sc0 ?_; try intro Q1)) | (show (_ → _) ∧ _; refine ⟨fun h => ?_, fun h => ?_⟩) | fail)
          refine ⟨⟨i + 1, _, by omega⟩, by dsimp only; omega, ?_, drop_tok⟩
          exact .cons rfl (.consW rfl (.int (by simp)) (.consW rfl (.eq (by rw [hnew, hi2]; simp)) (.nil _)))
    · have hi2 := ins_at m n hn hb (fun h => absurd h hnm)
      rw [if_neg (fun h => hnm h.1)] at hi2
      repeat' (first | (show AL _ _ _ _ _ _ _ _; first | refine so0 ?_ | (refine sa ?_; intro k)) | (show DL _ _ _ _ _ _ _; first | refine do0 ?_) | (show AW _ _ _ _ _ _; (fail_if_success show AW _ _ (.region 9 _ _) _ _ _); first | (show AW _ _ (.region _ _ _) _ _ _; refine sc0 ?_; intro O1) | (refine sc0 ?_; try intro Q1)) | (show (_ → _) ∧ _; refine ⟨fun h => ?_, fun h => ?_⟩) | fail)
      refine aw_drawE' (m := 15) [4, 10, 14] (fun σ => ∃ R, σ = ⟨[], R, off, none⟩) mix rfl (by repeat (first | exact Sp.zero _ | apply Sp.succ)) ?_; intro O1 F1 Z1 Q2
      repeat' (first
    | (refine' dq_cons Y Y Y (fun σ hσ K kk => ?_) ?_; (try (show Go.Ts.T; rotate_left)); (obtain ⟨R, rfl⟩ := hσ); (first
      | (show AOp _ _ ⟨_, .move _, _, _, _, _⟩ _ _ _; refine r_move hG Y Y ?_)
      | (show AOp _ _ ⟨_, .assign _, _, _, _, _⟩ _ _ _; refine r_asg hG Y Y ?_)
      | (show AOp _ _ ⟨_, .call ⟨.builtin .len, _, _⟩, _, _, _, _⟩ _ _ _; first | refine r_lenm hG Y Y Y Y ?_ | refine r_len hG Y Y Y Y Y ?_)
      | (show AOp _ _ ⟨_, .binOp .add _ _ _ _, _, _, _, _⟩ _ _ _; first | refine r_ari64 hG Y Y Y Y Y (by omega) ?_)
      | (show AOp _ _ ⟨_, .binOp _ _ _ _ _, _, _, _, _⟩ _ _ _; first | refine r_cmpT hG Y Y Y Y Y (by omega) ?_ | refine r_cmpF hG Y Y Y Y Y (by omega) ?_)
      | (show AOp _ _ ⟨_, .load _ _, _, _, _, _⟩ _ _ _; first | refine r_ldro hG Y Y Y ?_ | refine r_ld 0 hG Y Y Y Y ?_)
      | (show AOp _ _ ⟨_, .indexAddr _ _ _, _, _, _, _⟩ _ _ _; first | refine r_idxn hG Y Y Y Y Y Y Y (by omega) ?_ | refine r_idxm hG Y Y Y Y Y Y Y (by omega) ?_ | refine r_idx hG Y Y ?_)
      | (show AOp _ _ ⟨_, .slice _ _ _ _ _, _, _, _, _⟩ _ _ _; first | refine r_sl_lon hG Y Y Y Y Y Y Y (by omega) ?_ | refine r_sl_hin hG Y Y Y Y Y Y Y (by omega) ?_ | refine r_sl_lo hG Y Y Y Y Y Y Y (by omega) ?_ | refine r_sl_hi hG Y Y Y Y Y Y Y (by omega) ?_ | refine op_cut0 hG Y Y Y Y Y Y Y Y Y Y ?_ | refine r_sl hG Y Y ?_)
      | (show AOp _ _ ⟨_, .pick _ _ _, _, _, _, _⟩ _ _ _; refine r_pick hG Y Y Y ?_)
      | (show AOp _ _ ⟨_, .buildSlice _ _ _, _, _, _, _⟩ _ _ _; first | refine r_mk (sz := 1) hG Y Y Y Y Y Y Y ?_)
      | (show AOp _ _ ⟨_, .call ⟨.builtin .append, _, _⟩, _, _, _, _⟩ _ _ _; first | refine r_appm 0 (ys := [a.getD i default]) hG Y Y Y Y Y Y Y ⟨_, Y⟩ Y Y Y Y Y (by simp only [List.length_append, List.length_map, List.length_cons, List.length_nil]; omega) (fun k => ?_) | refine r_app0m (sz := 1) (xs := []) hG Y Y Y Y Y Y Y ⟨_, Y⟩ Y Y Y Y Y Y Y (by first | omega | (simp; omega)) (fun k => ?_) | refine r_appm 0 hG Y Y Y Y Y Y Y ⟨_, Y⟩ Y Y Y Y Y (by first | omega | (simp only [List.length_append, List.length_cons, List.length_nil]; omega)) (fun k => ?_) | fail)
      | refine r_q hG Y Y Y ?_); exact kk)
    | refine dq_d Y Y Y (fun σ hσ K kt kf => by obtain ⟨R, rfl⟩ := hσ; exact r_cmp hG Y Y Y Y Y kt kf) (fun h => ?_) (fun h => ?_)
    | refine dq_d Y Y Y (fun σ hσ K kt kf => by obtain ⟨R, rfl⟩ := hσ; exact r_str hG Y Y Y Y kt kf) (fun h => ?_) (fun h => ?_)
    | refine dq_s Y Y Y Y ?_ | refine dq_e Y ?_ | (refine dq_nil ?_; show EL _ _ _ _ _ _ _ _ _) | refine el_s ⟨_, Y⟩ Y Y Y Y ?_
    | ((first | refine el_cons ⟨_, Y⟩ Y Y Y (fun K ke => ?_) | refine el_consN ⟨_, Y⟩ Y Y Y (fun K ke => ?_)); (first
      | (show AOp _ _ ⟨_, .move _, _, _, _, _⟩ _ _ _; refine r_move hG Y Y ?_)
      | (show AOp _ _ ⟨_, .assign _, _, _, _, _⟩ _ _ _; refine r_asg hG Y Y ?_)
      | (show AOp _ _ ⟨_, .call ⟨.builtin .len, _, _⟩, _, _, _, _⟩ _ _ _; first | refine r_lenm hG Y Y Y Y ?_ | refine r_len hG Y Y Y Y Y ?_)
      | (show AOp _ _ ⟨_, .binOp .add _ _ _ _, _, _, _, _⟩ _ _ _; first | refine r_ari64 hG Y Y Y Y Y (by omega) ?_)
      | (show AOp _ _ ⟨_, .binOp _ _ _ _ _, _, _, _, _⟩ _ _ _; first | refine r_cmpT hG Y Y Y Y Y (by omega) ?_ | refine r_cmpF hG Y Y Y Y Y (by omega) ?_)
      | (show AOp _ _ ⟨_, .load _ _, _, _, _, _⟩ _ _ _; first | refine r_ldro hG Y Y Y ?_ | refine r_ld 0 hG Y Y Y Y ?_)
      | (show AOp _ _ ⟨_, .indexAddr _ _ _, _, _, _, _⟩ _ _ _; first | refine r_idxn hG Y Y Y Y Y Y Y (by omega) ?_ | refine r_idxm hG Y Y Y Y Y Y Y (by omega) ?_ | refine r_idx hG Y Y ?_)
      | (show AOp _ _ ⟨_, .slice _ _ _ _ _, _, _, _, _⟩ _ _ _; first | refine r_sl_lon hG Y Y Y Y Y Y Y (by omega) ?_ | refine r_sl_hin hG Y Y Y Y Y Y Y (by omega) ?_ | refine r_sl_lo hG Y Y Y Y Y Y Y (by omega) ?_ | refine r_sl_hi hG Y Y Y Y Y Y Y (by omega) ?_ | refine op_cut0 hG Y Y Y Y Y Y Y Y Y Y ?_ | refine r_sl hG Y Y ?_)
      | (show AOp _ _ ⟨_, .pick _ _ _, _, _, _, _⟩ _ _ _; refine r_pick hG Y Y Y ?_)
      | (show AOp _ _ ⟨_, .buildSlice _ _ _, _, _, _, _⟩ _ _ _; first | refine r_mk (sz := 1) hG Y Y Y Y Y Y Y ?_)
      | (show AOp _ _ ⟨_, .call ⟨.builtin .append, _, _⟩, _, _, _, _⟩ _ _ _; first | refine r_appm 0 (ys := [a.getD i default]) hG Y Y Y Y Y Y Y ⟨_, Y⟩ Y Y Y Y Y (by simp only [List.length_append, List.length_map, List.length_cons, List.length_nil]; omega) (fun k => ?_) | refine r_app0m (sz := 1) (xs := []) hG Y Y Y Y Y Y Y ⟨_, Y⟩ Y Y Y Y Y Y Y (by first | omega | (simp; omega)) (fun k => ?_) | refine r_appm 0 hG Y Y Y Y Y Y Y ⟨_, Y⟩ Y Y Y Y Y (by first | omega | (simp only [List.length_append, List.length_cons, List.length_nil]; omega)) (fun k => ?_) | fail)
      | refine r_q hG Y Y Y ?_); refine ke _ _ ?_)
    | (refine el_nil ⟨_, Y⟩ ?_; show AL _ _ _ _ _ _ _ _) | fail)
      repeat' (first | (show AL _ _ _ _ _ _ _ _; first | refine so0 ?_ | (refine sa ?_; intro k)) | (show DL _ _ _ _ _ _ _; first | refine do0 ?_) | (show AW _ _ _ _ _ _; first | (show AW _ _ (.region _ _ _) _ _ _; refine sc0 ?_; intro O1) | (refine sc0 ?_; try intro Q1)) | (show (_ → _) ∧ _; refine ⟨fun h => ?_, fun h => ?_⟩) | fail)
      refine ⟨⟨i + 1, _, by omega⟩, by dsimp only; omega, ?_, drop_tok⟩
      exact .cons rfl (.consW rfl (.int (by simp)) (.consW rfl (.eq (by rw [hnew, hi2]; simp)) (.nil _)))
  · obtain rfl : i = a.length := by omega
    repeat' (first | (show AL _ _ _ _ _ _ _ _; first | refine so0 ?_ | (refine sa ?_; intro k)) | (show DL _ _ _ _ _ _ _; first | refine do0 ?_) | (show AW _ _ _ _ _ _; first | (show AW _ _ (.region _ _ _) _ _ _; refine sc0 ?_; intro O1) | (refine sc0 ?_; try intro Q1)) | (show (_ → _) ∧ _; refine ⟨fun h => ?_, fun h => ?_⟩) | fail)
    exact ret_owns 0 (Ab rfl Ac) rfl (by rw [List.take_length]) rfl
theorem ref_Or {x y : T} {a b : List UInt16} (hx : catsT x = some a) (hy : catsT y = some b) (hl : a.length + b.length ≤ 4294967000) : Owns Try.prog 116 [x, y] 1 ((mk (a ++ b)).map hT) := by
  refine Owns.weak (us := [cT a, cT b]) ?_ (wk2 (catsT_wk hx) (catsT_wk hy))
  intro off
  refine Ad (N := 11) (rs := [.tmp 4]) hG Try.func116 rfl rfl rfl rfl rfl ?_
  repeat' (first | (show AL _ _ _ _ _ _ _ _; first | refine so0 ?_ | (refine sa ?_; intro k)) | (show AW _ _ _ _ _ _; first | (show AW _ _ (.region _ _ _) _ _ _; refine sc0 ?_; intro O1) | (refine sc0 ?_; try intro Q1)) | (show (_ → _) ∧ _; refine ⟨fun h => ?_, fun h => ?_⟩) | fail)
  have hc := ref_Make (x := .sl 1 (.tok k) (([] ++ a ++ b).map hT)) (catsT_map _ _) (by simp; omega)
  repeat' (first | (show AL _ _ _ _ _ _ _ _; first | refine so0 ?_ | (refine sO Y Y Y Y Y Y (by apply hc <;> exact sd) ?_; intro k) | (refine sa ?_; intro k)) | (show AW _ _ _ _ _ _; first | (show AW _ _ (.region _ _ _) _ _ _; refine sc0 ?_; intro O1) | (refine sc0 ?_; try intro Q1)) | (show (_ → _) ∧ _; refine ⟨fun h => ?_, fun h => ?_⟩) | fail)
  exact ret_owns 0 (Ab rfl Ac) rfl rfl rfl
end Go.Proofs.Ythfgocinlbogeaa
set_option maxHeartbeats 4000000
namespace Go.Proofs.Ythfgocinlbogeaa
open Go.Ts Go.Sets
attribute [local irreducible] Go.Ts.AW Go.Ts.AOps Go.Ts.AL Go.Ts.AOp Go.Ts.ACalls Go.Ts.DL Go.Ts.DQ Go.Ts.EL
theorem putI1 (n : Nat) : putI n 1 = [UInt8.ofNat n] := by rw [putI, if_pos (by omega)]; simp [be]
theorem ref_TakeSet {x : T} {b : List UInt8} (hx : bytesT x = some b) (hl : b.length ≤ 4294967296) : Pure Try.prog 80 [x] (tcT (Ag b)) := by
  refine Pure.weak (us := [sT b]) ?_ (wk1 (bytesT_wk hx))
  intro off
  refine Ad (N := 53) (rs := [.tmp 2, .tmp 3, .tmp 4]) hG Try.func80 rfl rfl rfl rfl rfl ?_
  by_cases h1 : b.length < 1
  · have hr : Ag b = ([], 0, 3) := by rw [Ag, if_pos h1]
    rw [hr]
    repeat' (first | (show AL _ _ _ _ _ _ _ _; first | refine so0 ?_ | (refine sa ?_; intro k)) | (show AW _ _ _ _ _ _; first | (show AW _ _ (.region _ _ _) _ _ _; refine sc0 ?_; intro O1) | (refine sc0 ?_; try intro Q1)) | (show (_ → _) ∧ _; refine ⟨fun h => ?_, fun h => ?_⟩) | fail)
    exact Ai (Ab rfl (Ab rfl (Ab rfl Ac))) (Wk.tupL (wk3 (.nil 1) (.refl _) (.refl _))) rfl
  obtain ⟨c0, b1, rfl⟩ : ∃ c b1, b = c :: b1 := by cases b with | nil => simp at h1 | cons c b1 => exact ⟨c, b1, rfl⟩
  have hv : c0.toNat < 256 := c0.toNat_lt
  have hn : beV ((c0 :: b1).take 1) = c0.toNat := by simp [beV]
  have hbl : (c0 :: b1).length = b1.length + 1 := rfl
  generalize hb : c0 :: b1 = b at *
  have hbl2 : (c0 :: b1).length = b.length := by rw [hb]
  have hb0 : sT b = .sl 1 .no ((c0 :: b1).map bT) := by rw [hb]; rfl
  by_cases h2 : b.length < 1 + 2 * c0.toNat
  · have hr : Ag b = ([], 0, 3) := by rw [Ag, if_neg h1, hn, if_pos h2]
    rw [hr]
    rw [hb0]
    repeat' (first | (show AL _ _ _ _ _ _ _ _; first | refine so0 ?_ | (refine sa ?_; intro k)) | (show AW _ _ _ _ _ _; first | (show AW _ _ (.region _ _ _) _ _ _; refine sc0 ?_; intro O1) | (refine sc0 ?_; try intro Q1)) | (show (_ → _) ∧ _; refine ⟨fun h => ?_, fun h => ?_⟩) | fail)
    exact Ai (Ab rfl (Ab rfl (Ab rfl Ac))) (Wk.tupL (wk3 (.nil 1) (.refl _) (.refl _))) rfl
  generalize hg : (fun i => UInt16.ofNat (beV ((b.drop (1 + 2 * i)).take 2))) = g
  have hr : Ag b = if mayC ((List.range c0.toNat).map g) then ((List.range c0.toNat).map g, 1 + 2 * c0.toNat, 0) else ([], 0, 2) := by rw [Ag, if_neg h1, hn, if_neg h2, hg]
  rw [hr]
  rw [hb0]
  repeat' (first | (show AL _ _ _ _ _ _ _ _; first | refine so0 ?_ | (refine sa ?_; intro k)) | (show AW _ _ _ _ _ _; first | (show AW _ _ (.region _ _ _) _ _ _; refine sc0 ?_; intro O1) | (refine sc0 ?_; try intro Q1)) | (show (_ → _) ∧ _; refine ⟨fun h => ?_, fun h => ?_⟩) | fail)
  refine aw_tok0 5 1 rfl rfl rfl rfl (fun k => ?_)
  refine aw_loop (X := TCX c0.toNat) (fun x => [(0, .sl 1 .no ((c0 :: b1).map bT)), (6, .int .i64 x.i), (5, .sl 1 (.tok x.k) (((List.range x.i).map g).map hT))]) (fun x => ⟨[], [x.k], off, none⟩) (fun x => c0.toNat - x.i) ⟨0, k, Nat.zero_le _⟩ ?_ (.refl _) ?_
  · exact .cons rfl (.consW rfl (.int rfl) (.consW rfl (.eq (by simp)) (.nil _)))
  rintro ⟨i, k, hi⟩
  dsimp only
  have hrl : (List.range i).length = i := List.length_range
  by_cases hib : i < c0.toNat
  · have e : ((1 : Int) + 2 * (i : Int)).toNat = 1 + 2 * i := by omega
    have hd : ((c0 :: b1).drop ((1 : Int) + 2 * (i : Int)).toNat).length = b.length - (1 + 2 * i) := by rw [List.length_drop, e, hb]
    have hc2 := takeE2 ((c0 :: b1).drop ((1 : Int) + 2 * (i : Int)).toNat)
    rw [if_neg (by omega)] at hc2
    have hc3 := ref_Take_is (bytesT_s _) hc2
    have hw := beV2 ((c0 :: b1).drop ((1 : Int) + 2 * (i : Int)).toNat) (by omega)
    have hgi : UInt16.ofNat (beV (((c0 :: b1).drop ((1 : Int) + 2 * (i : Int)).toNat).take 2)) = g i := by rw [← hg, e, hb]
    generalize beV (((c0 :: b1).drop ((1 : Int) + 2 * (i : Int)).toNat).take 2) = v at *
    have ht := hT_of v hw
    rw [hgi] at ht
    repeat' (first | (show AL _ _ _ _ _ _ _ _; first | refine so0 ?_ | refine sp Y Y Y Y Y Y (by apply hc3 <;> exact sd) ?_ | (refine sa ?_; intro k)) | (show AW _ _ _ _ _ _; first | (show AW _ _ (.region _ _ _) _ _ _; refine sc0 ?_; intro O1) | (refine sc0 ?_; try intro Q1)) | (show (_ → _) ∧ _; refine ⟨fun h => ?_, fun h => ?_⟩) | fail)
    refine Ap rfl (r_appm 0 (ys := [g i]) hG rfl rfl rfl rfl rfl rfl rfl ⟨_, rfl⟩ rfl rfl rfl rfl (congrArg (fun t => [t]) ht) (by simp; omega) (fun k' => ?_))
    repeat' (first | (show AL _ _ _ _ _ _ _ _; first | refine so0 ?_ | (refine sa ?_; intro k)) | (show AW _ _ _ _ _ _; first | (show AW _ _ (.region _ _ _) _ _ _; refine sc0 ?_; intro O1) | (refine sc0 ?_; try intro Q1)) | (show (_ → _) ∧ _; refine ⟨fun h => ?_, fun h => ?_⟩) | fail)
    refine ⟨⟨i + 1, k', by omega⟩, by dsimp only; omega, ?_, .refl _⟩
    exact .cons rfl (.consW rfl (.int (by simp)) (.consW rfl (.eq (by rw [List.range_succ]; simp)) (.nil _)))
  · obtain rfl : i = c0.toNat := by omega
    have hm := ref_MaySet (x := .sl 1 (.tok k) (((List.range c0.toNat).map g).map hT)) (catsT_map _ _) (by simp; omega)
    have hll : ((List.range c0.toNat).map g).length = c0.toNat := by simp
    cases hma : mayC ((List.range c0.toNat).map g) <;> rw [hma] at hm
    · repeat' (first | (show AL _ _ _ _ _ _ _ _; first | refine so0 ?_ | refine sp Y Y Y Y Y Y (by apply hm <;> exact sd) ?_ | (refine sa ?_; intro k)) | (show AW _ _ _ _ _ _; first | (show AW _ _ (.region _ _ _) _ _ _; refine sc0 ?_; intro O1) | (refine sc0 ?_; try intro Q1)) | (show (_ → _) ∧ _; refine ⟨fun h => ?_, fun h => ?_⟩) | fail)
      refine Ai (Ab rfl (Ab rfl (Ab rfl Ac))) ?_ rfl
      rw [hma]
      exact Wk.tupL (wk3 (.nil 1) (.refl _) (.refl _))
    · repeat' (first | (show AL _ _ _ _ _ _ _ _; first | refine so0 ?_ | refine sp Y Y Y Y Y Y (by apply hm <;> exact sd) ?_ | (refine sa ?_; intro k)) | (show AW _ _ _ _ _ _; first | (show AW _ _ (.region _ _ _) _ _ _; refine sc0 ?_; intro O1) | (refine sc0 ?_; try intro Q1)) | (show (_ → _) ∧ _; refine ⟨fun h => ?_, fun h => ?_⟩) | fail)
      refine Ai (Ab rfl (Ab rfl (Ab rfl Ac))) ?_ rfl
      rw [hma]
      exact Wk.tupL (wk3 (Wk.own _ _ _) (.int (by simp)) (.refl _))

structure SSX (a b : List UInt16) where
  i : Nat
  hi : i ≤ a.length
  hp : ∀ j, j < i → a.getD j default = b.getD j default
theorem ref_SameSet {x y : T} {a b : List UInt16} (hx : catsT x = some a) (hy : catsT y = some b) (hl : a.length ≤ 4294967296) (hm : b.length ≤ 4294967296) : Pure Try.prog 58 [x, y] (.bool (decide (a = b))) := by
  refine Pure.weak (us := [cT a, cT b]) ?_ (wk2 (catsT_wk hx) (catsT_wk hy))
  intro off
  refine Ad (N := 26) (rs := [.tmp 4]) hG Try.func58 rfl rfl rfl rfl rfl ?_
  by_cases hlen : a.length = b.length
  · repeat' (first | (show AL _ _ _ _ _ _ _ _; first | refine so0 ?_) | (show DL _ _ _ _ _ _ _; first | refine do0 ?_) | (show AW _ _ _ _ _ _; first | (show AW _ _ (.region _ _ _) _ _ _; refine sc0 ?_; intro O1) | (refine sc0 ?_; try intro Q1)) | (show (_ → _) ∧ _; refine ⟨fun h => ?_, fun h => ?_⟩) | fail)
    refine aw_loop (X := SSX a b) (fun x => [(0, cT a), (1, cT b), (5, .int .i64 x.i)]) (fun x => ⟨[], [], off, none⟩) (fun x => a.length - x.i) ⟨0, Nat.zero_le _, fun j hj => by omega⟩ ?_ (.refl _) ?_
    · exact .cons rfl (.cons rfl (.consW rfl (.int rfl) (.nil _)))
    rintro ⟨i, hi, hp⟩
    dsimp only
    by_cases hib : i < a.length
    · by_cases heq : (((a.getD i default).toNat : Int) = ((b.getD i default).toNat : Int))
      · repeat' (first | (show AL _ _ _ _ _ _ _ _; first | refine so0 ?_) | (show DL _ _ _ _ _ _ _; first | refine do0 ?_) | (show AW _ _ _ _ _ _; first | (show AW _ _ (.region _ _ _) _ _ _; refine sc0 ?_; intro O1) | (refine sc0 ?_; try intro Q1)) | (show (_ → _) ∧ _; refine ⟨fun h => ?_, fun h => ?_⟩) | fail)
        refine ⟨⟨i + 1, by omega, fun j hj => ?_⟩, by dsimp only; omega, ?_, .refl _⟩
        · by_cases hj2 : j < i
          · exact hp j hj2
          · obtain rfl : j = i := by omega
            rw [← UInt16.toNat_inj]; omega
        · exact .cons rfl (.cons rfl (.consW rfl (.int (by simp)) (.nil _)))
      · repeat' (first | (show AL _ _ _ _ _ _ _ _; first | refine so0 ?_) | (show DL _ _ _ _ _ _ _; first | refine do0 ?_) | (show AW _ _ _ _ _ _; first | (show AW _ _ (.region _ _ _) _ _ _; refine sc0 ?_; intro O1) | (refine sc0 ?_; try intro Q1)) | (show (_ → _) ∧ _; refine ⟨fun h => ?_, fun h => ?_⟩) | fail)
        refine Ai (Ab rfl Ac) (.eq ?_) rfl
        rw [decide_eq_false (fun h => heq (by rw [h]))]; rfl
    · repeat' (first | (show AL _ _ _ _ _ _ _ _; first | refine so0 ?_) | (show DL _ _ _ _ _ _ _; first | refine do0 ?_) | (show AW _ _ _ _ _ _; first | (show AW _ _ (.region _ _ _) _ _ _; refine sc0 ?_; intro O1) | (refine sc0 ?_; try intro Q1)) | (show (_ → _) ∧ _; refine ⟨fun h => ?_, fun h => ?_⟩) | fail)
      refine Ai (Ab rfl Ac) (.eq ?_) rfl
      have : a = b := List.ext_getElem hlen fun j h1 h2 => by
        have := hp j (by omega)
        simpa [List.getD_eq_getElem?_getD, List.getElem?_eq_getElem, h1, h2] using this
      rw [decide_eq_true this]; rfl
  · repeat' (first | (show AL _ _ _ _ _ _ _ _; first | refine so0 ?_) | (show DL _ _ _ _ _ _ _; first | refine do0 ?_) | (show AW _ _ _ _ _ _; first | (show AW _ _ (.region _ _ _) _ _ _; refine sc0 ?_; intro O1) | (refine sc0 ?_; try intro Q1)) | (show (_ → _) ∧ _; refine ⟨fun h => ?_, fun h => ?_⟩) | fail)
    refine Ai (Ab rfl Ac) (.eq ?_) rfl
    rw [decide_eq_false (fun h => hlen (by rw [h]))]; rfl
end Go.Proofs.Ythfgocinlbogeaa
set_option maxHeartbeats 4000000
namespace Go.Proofs.Ythfgocinlbogeaa
open Go.Ts Go.Sets
attribute [local irreducible] Go.Ts.AW Go.Ts.AOps Go.Ts.AL Go.Ts.AOp Go.Ts.ACalls Go.Ts.DL Go.Ts.DQ Go.Ts.EL
def setsV (a b c : List UInt16) : T := .agg [cT a, cT b, cT c]
theorem sets_wk {x y z : T} {a b c : List UInt16} (hx : catsT x = some a) (hy : catsT y = some b) (hz : catsT z = some c) : Wk (.agg [x, y, z]) (setsV a b c) := Wk.aggL (wk3 (catsT_wk hx) (catsT_wk hy) (catsT_wk hz))
def Ay (a b c : List UInt16) : Bool := mayC a && mayC b && mayC c && decide (a.length + b.length + c.length ≤ 16) && decide ((mergeK kOr a (mergeK kOr b c)).length = a.length + b.length + c.length)
structure SMX (a b c : List UInt16) where
  i : Nat
  k : Nat
  hi : i ≤ 3
  hp : ∀ j, j < i → mayC ([a, b, c].getD j default) = true
theorem mayC_le {a : List UInt16} (h : mayC a = true) : a.length ≤ 16 := by
  unfold mayC at h; rw [Bool.and_eq_true, decide_eq_true_eq] at h; exact h.1
theorem sets_May {x y z : T} {a b c : List UInt16} (hx : catsT x = some a) (hy : catsT y = some b) (hz : catsT z = some c) (ha : a.length ≤ 140737488351232) (hb : b.length ≤ 140737488351232) (hc : c.length ≤ 140737488351232) :
    Pure Try.prog 118 [.agg [x, y, z]] (.bool (Ay a b c)) := by
  refine Pure.weak (us := [setsV a b c]) ?_ (wk1 (sets_wk hx hy hz))
  intro off
  refine Ad (N := 48) (rs := [.tmp 2]) hG Try.func118 rfl rfl rfl rfl rfl ?_
  repeat' (first | (show AL _ _ _ _ _ _ _ _; first | refine so0 ?_ | (refine sb ?_; intro i)) | (show DL _ _ _ _ _ _ _; first | refine do0 ?_) | (show AW _ _ _ _ _ _; first | (show AW _ _ (.region _ _ _) _ _ _; refine sc0 ?_; intro O1) | (refine sc0 ?_; try intro Q1)) | (show (_ → _) ∧ _; refine ⟨fun h => ?_, fun h => ?_⟩) | fail)
  refine aw_loop (X := SMX a b c) (fun x => [(1, .ptr x.k 0), (12, .sl 1 .no ([a, b, c].map cT)), (13, .int .i64 3), (14, .int .i64 x.i)]) (fun x => ⟨[(x.k, .cells [cT a, cT b, cT c])], [], off, none⟩) (fun x => 3 - x.i) ⟨0, i, by omega, fun j hj => by omega⟩ ?_ (.refl _) ?_
  · exact .cons rfl (.consW rfl (Wk.own _ _ _) (.cons rfl (.consW rfl (.int rfl) (.nil _))))
  rintro ⟨j, i, hj, hp⟩
  dsimp only
  have h3 : [a, b, c].length = 3 := rfl
  by_cases hj3 : j < 3
  · have hl : ([a, b, c].getD j default).length ≤ 140737488351232 := by
      rcases (by omega : j = 0 ∨ j = 1 ∨ j = 2) with rfl | rfl | rfl <;> simp <;> omega
    have hm := cats_May (catsT_c _) hl
    cases hma : mayC ([a, b, c].getD j default) <;> rw [hma] at hm
    · repeat' (first | (show AL _ _ _ _ _ _ _ _; first | refine so0 ?_ | refine sp Y Y Y Y Y Y (by apply hm <;> exact sd) ?_ | (refine sb ?_; intro i)) | (show DL _ _ _ _ _ _ _; first | refine do0 ?_ | refine dp Y Y Y Y Y Y Y (by apply hm <;> exact sd) ?_) | (show AW _ _ _ _ _ _; first | (show AW _ _ (.region _ _ _) _ _ _; refine sc0 ?_; intro O1) | (refine sc0 ?_; try intro Q1)) | (show (_ → _) ∧ _; refine ⟨fun h => ?_, fun h => ?_⟩) | fail)
      refine Ai (Ab rfl Ac) (.eq ?_) rfl
      have : Ay a b c = false := by
        rcases (by omega : j = 0 ∨ j = 1 ∨ j = 2) with rfl | rfl | rfl <;> (simp at hma; simp [Ay, hma])
      rw [this]; rfl
    · repeat' (first | (show AL _ _ _ _ _ _ _ _; first | refine so0 ?_ | refine sp Y Y Y Y Y Y (by apply hm <;> exact sd) ?_ | (refine sb ?_; intro i)) | (show DL _ _ _ _ _ _ _; first | refine do0 ?_ | refine dp Y Y Y Y Y Y Y (by apply hm <;> exact sd) ?_) | (show AW _ _ _ _ _ _; first | (show AW _ _ (.region _ _ _) _ _ _; refine sc0 ?_; intro O1) | (refine sc0 ?_; try intro Q1)) | (show (_ → _) ∧ _; refine ⟨fun h => ?_, fun h => ?_⟩) | fail)
      refine ⟨⟨j + 1, i, by omega, fun j' h => ?_⟩, by dsimp only; omega, ?_, .refl _⟩
      · by_cases h2 : j' < j
        · exact hp j' h2
        · obtain rfl : j' = j := by omega
          exact hma
      · exact .cons rfl (.cons rfl (.cons rfl (.consW rfl (.int (by simp)) (.nil _))))
  · obtain rfl : j = 3 := by omega
    have q1 : mayC a = true := hp 0 (by omega)
    have q2 : mayC b = true := hp 1 (by omega)
    have q3 : mayC c = true := hp 2 (by omega)
    have p1 := mayC_le q1
    have p2 := mayC_le q2
    have p3 := mayC_le q3
    have hm1 := merge_length_le kOr b c
    have hm2 := merge_length_le kOr a (mergeK kOr b c)
    by_cases hn : a.length + b.length + c.length ≤ 16
    · by_cases he : (mergeK kOr a (mergeK kOr b c)).length = a.length + b.length + c.length
      · repeat' (first | (show AL _ _ _ _ _ _ _ _; first | refine so0 ?_ | (refine sO Y Y Y Y Y Y (by apply cats_Or <;> exact sd) ?_; intro k) | (refine sb ?_; intro i)) | (show DL _ _ _ _ _ _ _; first | refine do0 ?_ | refine dp Y Y Y Y Y Y Y (Owns.pure (by apply cats_Or <;> exact sd)) ?_) | (show AW _ _ _ _ _ _; first | (show AW _ _ (.region _ _ _) _ _ _; refine sc0 ?_; intro O1) | (refine sc0 ?_; try intro Q1)) | (show (_ → _) ∧ _; refine ⟨fun h => ?_, fun h => ?_⟩) | fail)
        exact Ai (Ab rfl Ac) (.eq (by rw [show Ay a b c = true by unfold Ay; simp only [q1, q2, q3, decide_eq_true hn, decide_eq_true he]; rfl]; rfl)) rfl
      · repeat' (first | (show AL _ _ _ _ _ _ _ _; first | refine so0 ?_ | (refine sO Y Y Y Y Y Y (by apply cats_Or <;> exact sd) ?_; intro k) | (refine sb ?_; intro i)) | (show DL _ _ _ _ _ _ _; first | refine do0 ?_ | refine dp Y Y Y Y Y Y Y (Owns.pure (by apply cats_Or <;> exact sd)) ?_) | (show AW _ _ _ _ _ _; first | (show AW _ _ (.region _ _ _) _ _ _; refine sc0 ?_; intro O1) | (refine sc0 ?_; try intro Q1)) | (show (_ → _) ∧ _; refine ⟨fun h => ?_, fun h => ?_⟩) | fail)
        exact Ai (Ab rfl Ac) (.eq (by rw [show Ay a b c = false by unfold Ay; simp only [q1, q2, q3, decide_eq_true hn, decide_eq_false he]; rfl]; rfl)) rfl
    · repeat' (first | (show AL _ _ _ _ _ _ _ _; first | refine so0 ?_ | (refine sb ?_; intro i)) | (show DL _ _ _ _ _ _ _; first | refine do0 ?_) | (show AW _ _ _ _ _ _; first | (show AW _ _ (.region _ _ _) _ _ _; refine sc0 ?_; intro O1) | (refine sc0 ?_; try intro Q1)) | (show (_ → _) ∧ _; refine ⟨fun h => ?_, fun h => ?_⟩) | fail)
      exact Ai (Ab rfl Ac) (.eq (by rw [show Ay a b c = false by unfold Ay; simp only [q1, q2, q3, decide_eq_false hn]; rfl]; rfl)) rfl

theorem mayC_up {a : List UInt16} (h : mayC a = true) : Up a := by
  unfold mayC at h; rw [Bool.and_eq_true] at h; exact risesB_iff.1 h.2
theorem or_assoc' {a b c : List UInt16} (ha : Up a) (hb : Up b) (hc : Up c) : mk (mk (a ++ b) ++ c) = mergeK kOr a (mergeK kOr b c) := by
  have h1 := merge_up kOr b c hb hc
  refine up_ext (mk_up _) (merge_up kOr _ _ ha h1) fun z => ?_
  rw [mk_mem, List.mem_append, mk_mem, List.mem_append, or_mem ha h1, or_mem hb hc, or_assoc]
theorem ref_MaySets {x y z : T} {a b c : List UInt16} (hx : catsT x = some a) (hy : catsT y = some b) (hz : catsT z = some c) (ha : a.length ≤ 140737488351232) (hb : b.length ≤ 140737488351232) (hc : c.length ≤ 140737488351232) :
    Pure Try.prog 98 [.agg [x, y, z]] (.bool (Ay a b c)) := by
  refine Pure.weak (us := [setsV a b c]) ?_ (wk1 (sets_wk hx hy hz))
  intro off
  refine Ad (N := 47) (rs := [.tmp 2]) hG Try.func98 rfl rfl rfl rfl rfl ?_
  have m1 := ref_MaySet (catsT_c a) (by omega)
  have m2 := ref_MaySet (catsT_c b) (by omega)
  have m3 := ref_MaySet (catsT_c c) (by omega)
  cases q1 : mayC a <;> rw [q1] at m1
  · repeat' (first | (show AL _ _ _ _ _ _ _ _; first | refine so0 ?_ | refine sp Y Y Y Y Y Y (by apply m1 <;> exact sd) ?_ | (refine sb ?_; intro i)) | (show DL _ _ _ _ _ _ _; first | refine do0 ?_ | refine dp Y Y Y Y Y Y Y (by apply m1 <;> exact sd) ?_) | (show AW _ _ _ _ _ _; first | (show AW _ _ (.region _ _ _) _ _ _; refine sc0 ?_; intro O1) | (refine sc0 ?_; try intro Q1)) | (show (_ → _) ∧ _; refine ⟨fun h => ?_, fun h => ?_⟩) | fail)
    exact Ai (Ab rfl Ac) (.eq (by rw [Ay, q1]; rfl)) rfl
  cases q2 : mayC b <;> rw [q2] at m2
  · repeat' (first | (show AL _ _ _ _ _ _ _ _; first | refine so0 ?_ | refine sp Y Y Y Y Y Y (by apply m1 <;> exact sd) ?_ | refine sp Y Y Y Y Y Y (by apply m2 <;> exact sd) ?_ | (refine sb ?_; intro i)) | (show DL _ _ _ _ _ _ _; first | refine do0 ?_ | refine dp Y Y Y Y Y Y Y (by apply m1 <;> exact sd) ?_ | refine dp Y Y Y Y Y Y Y (by apply m2 <;> exact sd) ?_) | (show AW _ _ _ _ _ _; first | (show AW _ _ (.region _ _ _) _ _ _; refine sc0 ?_; intro O1) | (refine sc0 ?_; try intro Q1)) | (show (_ → _) ∧ _; refine ⟨fun h => ?_, fun h => ?_⟩) | fail)
    exact Ai (Ab rfl Ac) (.eq (by rw [Ay, q1, q2]; rfl)) rfl
  cases q3 : mayC c <;> rw [q3] at m3
  · repeat' (first | (show AL _ _ _ _ _ _ _ _; first | refine so0 ?_ | refine sp Y Y Y Y Y Y (by apply m1 <;> exact sd) ?_ | refine sp Y Y Y Y Y Y (by apply m2 <;> exact sd) ?_ | refine sp Y Y Y Y Y Y (by apply m3 <;> exact sd) ?_ | (refine sb ?_; intro i)) | (show DL _ _ _ _ _ _ _; first | refine do0 ?_ | refine dp Y Y Y Y Y Y Y (by apply m1 <;> exact sd) ?_ | refine dp Y Y Y Y Y Y Y (by apply m2 <;> exact sd) ?_ | refine dp Y Y Y Y Y Y Y (by apply m3 <;> exact sd) ?_) | (show AW _ _ _ _ _ _; first | (show AW _ _ (.region _ _ _) _ _ _; refine sc0 ?_; intro O1) | (refine sc0 ?_; try intro Q1)) | (show (_ → _) ∧ _; refine ⟨fun h => ?_, fun h => ?_⟩) | fail)
    exact Ai (Ab rfl Ac) (.eq (by rw [Ay, q1, q2, q3]; rfl)) rfl
  have hu := or_assoc' (mayC_up q1) (mayC_up q2) (mayC_up q3)
  have p1 := mayC_le q1
  have p2 := mayC_le q2
  have p3 := mayC_le q3
  have hl1 := mk_length_le (a ++ b)
  rw [List.length_append] at hl1
  have hl2 := congrArg List.length hu
  by_cases he : (mergeK kOr a (mergeK kOr b c)).length = a.length + b.length + c.length
  · by_cases hn : a.length + b.length + c.length ≤ 16
    · repeat' (first | (show AL _ _ _ _ _ _ _ _; first | refine so0 ?_ | refine sp Y Y Y Y Y Y (by apply m1 <;> exact sd) ?_ | refine sp Y Y Y Y Y Y (by apply m2 <;> exact sd) ?_ | refine sp Y Y Y Y Y Y (by apply m3 <;> exact sd) ?_ | (refine sO Y Y Y Y Y Y (by apply ref_Or <;> exact sd) ?_; intro k) | (refine sb ?_; intro i)) | (show DL _ _ _ _ _ _ _; first | refine do0 ?_ | refine dp Y Y Y Y Y Y Y (by apply m1 <;> exact sd) ?_ | refine dp Y Y Y Y Y Y Y (by apply m2 <;> exact sd) ?_ | refine dp Y Y Y Y Y Y Y (by apply m3 <;> exact sd) ?_ | refine dp Y Y Y Y Y Y Y (Owns.pure (by apply ref_Or <;> exact sd)) ?_) | (show AW _ _ _ _ _ _; first | (show AW _ _ (.region _ _ _) _ _ _; refine sc0 ?_; intro O1) | (refine sc0 ?_; try intro Q1)) | (show (_ → _) ∧ _; refine ⟨fun h => ?_, fun h => ?_⟩) | fail)
      exact Ai (Ab rfl Ac) (.eq (by rw [show Ay a b c = true by unfold Ay; simp only [q1, q2, q3, decide_eq_true hn, decide_eq_true he]; rfl]; rfl)) rfl
    · repeat' (first | (show AL _ _ _ _ _ _ _ _; first | refine so0 ?_ | refine sp Y Y Y Y Y Y (by apply m1 <;> exact sd) ?_ | refine sp Y Y Y Y Y Y (by apply m2 <;> exact sd) ?_ | refine sp Y Y Y Y Y Y (by apply m3 <;> exact sd) ?_ | (refine sO Y Y Y Y Y Y (by apply ref_Or <;> exact sd) ?_; intro k) | (refine sb ?_; intro i)) | (show DL _ _ _ _ _ _ _; first | refine do0 ?_ | refine dp Y Y Y Y Y Y Y (by apply m1 <;> exact sd) ?_ | refine dp Y Y Y Y Y Y Y (by apply m2 <;> exact sd) ?_ | refine dp Y Y Y Y Y Y Y (by apply m3 <;> exact sd) ?_ | refine dp Y Y Y Y Y Y Y (Owns.pure (by apply ref_Or <;> exact sd)) ?_) | (show AW _ _ _ _ _ _; first | (show AW _ _ (.region _ _ _) _ _ _; refine sc0 ?_; intro O1) | (refine sc0 ?_; try intro Q1)) | (show (_ → _) ∧ _; refine ⟨fun h => ?_, fun h => ?_⟩) | fail)
      exact Ai (Ab rfl Ac) (.eq (by rw [show Ay a b c = false by unfold Ay; simp only [q1, q2, q3, decide_eq_false hn]; rfl]; rfl)) rfl
  · repeat' (first | (show AL _ _ _ _ _ _ _ _; first | refine so0 ?_ | refine sp Y Y Y Y Y Y (by apply m1 <;> exact sd) ?_ | refine sp Y Y Y Y Y Y (by apply m2 <;> exact sd) ?_ | refine sp Y Y Y Y Y Y (by apply m3 <;> exact sd) ?_ | (refine sO Y Y Y Y Y Y (by apply ref_Or <;> exact sd) ?_; intro k) | (refine sb ?_; intro i)) | (show DL _ _ _ _ _ _ _; first | refine do0 ?_ | refine dp Y Y Y Y Y Y Y (by apply m1 <;> exact sd) ?_ | refine dp Y Y Y Y Y Y Y (by apply m2 <;> exact sd) ?_ | refine dp Y Y Y Y Y Y Y (by apply m3 <;> exact sd) ?_ | refine dp Y Y Y Y Y Y Y (Owns.pure (by apply ref_Or <;> exact sd)) ?_) | (show AW _ _ _ _ _ _; first | (show AW _ _ (.region _ _ _) _ _ _; refine sc0 ?_; intro O1) | (refine sc0 ?_; try intro Q1)) | (show (_ → _) ∧ _; refine ⟨fun h => ?_, fun h => ?_⟩) | fail)
    exact Ai (Ab rfl Ac) (.eq (by rw [Ay, decide_eq_false he, Bool.and_false]; rfl)) rfl

theorem ref_SameSets {x y z x' y' z' : T} {a b c a' b' c' : List UInt16} (hx : catsT x = some a) (hy : catsT y = some b) (hz : catsT z = some c) (hx' : catsT x' = some a') (hy' : catsT y' = some b') (hz' : catsT z' = some c')
    (ha : a.length ≤ 1000000000) (hb : b.length ≤ 1000000000) (hc : c.length ≤ 1000000000) (ha' : a'.length ≤ 1000000000) (hb' : b'.length ≤ 1000000000) (hc' : c'.length ≤ 1000000000) :
    Pure Try.prog 57 [.agg [x, y, z], .agg [x', y', z']] (.bool (decide (a = a' ∧ b = b' ∧ c = c'))) := by
  refine Pure.weak (us := [setsV a b c, setsV a' b' c']) ?_ (wk2 (sets_wk hx hy hz) (sets_wk hx' hy' hz'))
  intro off
  refine Ad (N := 24) (rs := [.tmp 4]) hG Try.func57 rfl rfl rfl rfl rfl ?_
  have m1 := ref_SameSet (catsT_c a) (catsT_c a') (by omega) (by omega)
  have m2 := ref_SameSet (catsT_c b) (catsT_c b') (by omega) (by omega)
  have m3 := ref_SameSet (catsT_c c) (catsT_c c') (by omega) (by omega)
  by_cases h1 : a = a'
  · rw [decide_eq_true h1] at m1
    by_cases h2 : b = b'
    · rw [decide_eq_true h2] at m2
      by_cases h3 : c = c'
      · rw [decide_eq_true h3] at m3
        repeat' (first | (show AL _ _ _ _ _ _ _ _; first | refine so0 ?_ | refine sp Y Y Y Y Y Y (by apply m1 <;> exact sd) ?_ | refine sp Y Y Y Y Y Y (by apply m2 <;> exact sd) ?_ | refine sp Y Y Y Y Y Y (by apply m3 <;> exact sd) ?_ | (refine sb ?_; intro i)) | (show AW _ _ _ _ _ _; first | (show AW _ _ (.region _ _ _) _ _ _; refine sc0 ?_; intro O1) | (refine sc0 ?_; try intro Q1)) | (show (_ → _) ∧ _; refine ⟨fun h => ?_, fun h => ?_⟩) | fail)
        exact Ai (Ab rfl Ac) (.eq (by rw [decide_eq_true ⟨h1, h2, h3⟩]; rfl)) rfl
      · rw [decide_eq_false h3] at m3
        repeat' (first | (show AL _ _ _ _ _ _ _ _; first | refine so0 ?_ | refine sp Y Y Y Y Y Y (by apply m1 <;> exact sd) ?_ | refine sp Y Y Y Y Y Y (by apply m2 <;> exact sd) ?_ | refine sp Y Y Y Y Y Y (by apply m3 <;> exact sd) ?_ | (refine sb ?_; intro i)) | (show AW _ _ _ _ _ _; first | (show AW _ _ (.region _ _ _) _ _ _; refine sc0 ?_; intro O1) | (refine sc0 ?_; try intro Q1)) | (show (_ → _) ∧ _; refine ⟨fun h => ?_, fun h => ?_⟩) | fail)
        exact Ai (Ab rfl Ac) (.eq (by rw [decide_eq_false fun h => h3 h.2.2]; rfl)) rfl
    · rw [decide_eq_false h2] at m2
      repeat' (first | (show AL _ _ _ _ _ _ _ _; first | refine so0 ?_ | refine sp Y Y Y Y Y Y (by apply m1 <;> exact sd) ?_ | refine sp Y Y Y Y Y Y (by apply m2 <;> exact sd) ?_ | refine sp Y Y Y Y Y Y (by apply m3 <;> exact sd) ?_ | (refine sb ?_; intro i)) | (show AW _ _ _ _ _ _; first | (show AW _ _ (.region _ _ _) _ _ _; refine sc0 ?_; intro O1) | (refine sc0 ?_; try intro Q1)) | (show (_ → _) ∧ _; refine ⟨fun h => ?_, fun h => ?_⟩) | fail)
      exact Ai (Ab rfl Ac) (.eq (by rw [decide_eq_false fun h => h2 h.2.1]; rfl)) rfl
  · rw [decide_eq_false h1] at m1
    repeat' (first | (show AL _ _ _ _ _ _ _ _; first | refine so0 ?_ | refine sp Y Y Y Y Y Y (by apply m1 <;> exact sd) ?_ | refine sp Y Y Y Y Y Y (by apply m2 <;> exact sd) ?_ | refine sp Y Y Y Y Y Y (by apply m3 <;> exact sd) ?_ | (refine sb ?_; intro i)) | (show AW _ _ _ _ _ _; first | (show AW _ _ (.region _ _ _) _ _ _; refine sc0 ?_; intro O1) | (refine sc0 ?_; try intro Q1)) | (show (_ → _) ∧ _; refine ⟨fun h => ?_, fun h => ?_⟩) | fail)
    exact Ai (Ab rfl Ac) (.eq (by rw [decide_eq_false fun h => h1 h.1]; rfl)) rfl

def putS (b : List UInt8) (x y z : List UInt16) : List UInt8 := putC (putC (putC b x) y) z
end Go.Proofs.Ythfgocinlbogeaa
set_option maxHeartbeats 4000000
namespace Go.Proofs.Ythfgocinlbogeaa
open Go.Ts Go.Sets
attribute [local irreducible] Go.Ts.AW Go.Ts.AOps Go.Ts.AL Go.Ts.AOp Go.Ts.ACalls Go.Ts.DL Go.Ts.DQ Go.Ts.EL
structure TakenS where
  a : List UInt16
  b : List UInt16
  c : List UInt16
  n : Nat
  e : Int
def takeS (s : List UInt8) : TakenS :=
  if (Ag s).2.2 ≠ 0 then ⟨[], [], [], 0, (Ag s).2.2⟩
  else if (Ag (s.drop (Ag s).2.1)).2.2 ≠ 0 then ⟨[], [], [], 0, (Ag (s.drop (Ag s).2.1)).2.2⟩
  else if (Ag (s.drop ((Ag s).2.1 + (Ag (s.drop (Ag s).2.1)).2.1))).2.2 ≠ 0 then ⟨[], [], [], 0, (Ag (s.drop ((Ag s).2.1 + (Ag (s.drop (Ag s).2.1)).2.1))).2.2⟩
  else if Ay (Ag s).1 (Ag (s.drop (Ag s).2.1)).1 (Ag (s.drop ((Ag s).2.1 + (Ag (s.drop (Ag s).2.1)).2.1))).1 then
    ⟨(Ag s).1, (Ag (s.drop (Ag s).2.1)).1, (Ag (s.drop ((Ag s).2.1 + (Ag (s.drop (Ag s).2.1)).2.1))).1,
      (Ag s).2.1 + (Ag (s.drop (Ag s).2.1)).2.1 + (Ag (s.drop ((Ag s).2.1 + (Ag (s.drop (Ag s).2.1)).2.1))).2.1, 0⟩
  else ⟨[], [], [], 0, 2⟩
theorem takeS_1 {s : List UInt8} {a : List UInt16} {n : Nat} {e : Int} (h1 : Ag s = (a, n, e)) (he : e ≠ 0) : takeS s = ⟨[], [], [], 0, e⟩ := by
  unfold takeS; rw [h1]; rw [if_pos he]
theorem takeS_2 {s : List UInt8} {a a2 : List UInt16} {n n2 : Nat} {e : Int} (h1 : Ag s = (a, n, 0)) (h2 : Ag (s.drop n) = (a2, n2, e)) (he : e ≠ 0) : takeS s = ⟨[], [], [], 0, e⟩ := by
  unfold takeS; rw [h1]; dsimp only; rw [h2, if_neg (by simp), if_pos he]
theorem takeS_3 {s : List UInt8} {a a2 a3 : List UInt16} {n n2 n3 : Nat} {e : Int} (h1 : Ag s = (a, n, 0)) (h2 : Ag (s.drop n) = (a2, n2, 0)) (h3 : Ag (s.drop (n + n2)) = (a3, n3, e)) (he : e ≠ 0) : takeS s = ⟨[], [], [], 0, e⟩ := by
  unfold takeS; rw [h1]; dsimp only; rw [h2]; dsimp only; rw [h3, if_neg (by simp), if_neg (by simp), if_pos he]
theorem takeS_4 {s : List UInt8} {a a2 a3 : List UInt16} {n n2 n3 : Nat} (h1 : Ag s = (a, n, 0)) (h2 : Ag (s.drop n) = (a2, n2, 0)) (h3 : Ag (s.drop (n + n2)) = (a3, n3, 0)) : takeS s = if Ay a a2 a3 then ⟨a, a2, a3, n + n2 + n3, 0⟩ else ⟨[], [], [], 0, 2⟩ := by
  unfold takeS; rw [h1]; dsimp only; rw [h2]; dsimp only; rw [h3, if_neg (by simp), if_neg (by simp), if_neg (by simp)]
theorem Av {s : List UInt8} {a : List UInt16} {n : Nat} (h : Ag s = (a, n, 0)) : n ≤ s.length ∧ a.length ≤ 16 ∧ 1 ≤ n := by
  unfold Ag at h
  split at h
  · injection h with h1 h2; injection h2 with h3 h4; cases h4
  · split at h
    · injection h with h1 h2; injection h2 with h3 h4; cases h4
    · split at h
      · rename_i q1 q2 q3
        injection h with h1 h2; injection h2 with h3 h4; subst h3; subst h1
        refine ⟨by omega, ?_, by omega⟩
        unfold mayC at q3
        rw [Bool.and_eq_true, decide_eq_true_eq] at q3
        exact q3.1
      · injection h with h1 h2; injection h2 with h3 h4; cases h4
def tsT (r : TakenS) : T := .tup [setsV r.a r.b r.c, .int .i64 r.n, .int .i64 r.e]
theorem ref_TakeSet_is {x : T} {s : List UInt8} {a : List UInt16} {n : Nat} {e : Int} (hx : bytesT x = some s) (hl : s.length ≤ 4294967296) (h : Ag s = (a, n, e)) : Pure Try.prog 80 [x] (.tup [cT a, .int .i64 n, .int .i64 e]) := by
  have := ref_TakeSet hx hl; rw [h] at this; exact this
theorem sets_nil : Wk (.agg [.nilsl, .nilsl, .nilsl]) (setsV [] [] []) := Wk.aggL (wk3 (.nil 1) (.nil 1) (.nil 1))

structure STX (s : List UInt8) where
  j : Nat
  i : Nat
  a : List UInt16
  b : List UInt16
  c : List UInt16
  n : Nat
  n1 : Nat
  n2 : Nat
  hj : j ≤ 3
  hn : n ≤ s.length
  h1 : 1 ≤ j → Ag s = (a, n1, 0)
  h2 : 2 ≤ j → Ag (s.drop n1) = (b, n2, 0)
  h3 : 3 ≤ j → ∃ n3, Ag (s.drop (n1 + n2)) = (c, n3, 0) ∧ n = n1 + n2 + n3
  e0 : j = 0 → n = 0
  e1 : j = 1 → n = n1
  e2 : j = 2 → n = n1 + n2
end Go.Proofs.Ythfgocinlbogeaa
set_option maxHeartbeats 4000000
namespace Go.Proofs.Ythfgocinlbogeaa
open Go.Ts Go.Sets
set_option linter.unusedSimpArgs false
set_option linter.unusedVariables false
attribute [local irreducible] Go.Ts.AW Go.Ts.AOps Go.Ts.AL Go.Ts.AOp Go.Ts.ACalls Go.Ts.DL Go.Ts.DQ Go.Ts.DQ0 Go.Ts.EL
theorem num_Take_v {l : List UInt8} {o m : Nat} (h : o + m ≤ l.length) (tw : Nat) {n e : Int} {v : Nat} (hT : takeE (win l o m) n = (v, e)) :
    OnL Try.prog 14 [tvT tw o m, .int .i64 n] [(tw, .cells (l.map bT))] (fun u L => u = .tup [.int .u64 v, .int .i64 e] ∧ L = [(tw, .cells (l.map bT))]) := by
  refine lend (num_Take_is (x := sT (win l o m)) (bytesT_s _) hT) (Plain.tup2 (.int _ _) (.int _ _)) rfl fun j u t hu ht => ?_
  match j with
  | 0 => simp at hu ht; subst hu; subst ht; exact Lends.row (List.mem_singleton.2 rfl) h
  | 1 => simp at hu ht; subst hu; subst ht; exact Lends.refl _
  | j + 2 => simp at hu
theorem clone_t {l : List UInt8} {o n : Nat} {cap : Option Nat} (h : o + n ≤ l.length) (hl : n ≤ 4294967296) (i : Nat) : OwnsL Try.prog 44 [.aref 1 i o n cap] [(i, .cells (l.map bT))] 1 ((win l o n).map bT) := by
  intro off
  refine Ad (N := 8) (rs := [.tmp 2]) hG Try.func44 rfl rfl rfl rfl rfl ?_
  repeat' (first | (show AL _ _ _ _ _ _ _ _; first | refine so2 ?_ | (refine sa ?_; intro k)) | (show AW _ _ _ _ _ _; first | (show AW _ _ (.region _ _ _) _ _ _; refine sc0 ?_; intro O1) | (refine sc1 ?_; try intro Q1)) | (show (_ → _) ∧ _; refine ⟨fun h => ?_, fun h => ?_⟩) | fail)
  refine Ap rfl (r_nilA hG rfl rfl rfl ?_)
  repeat' (first | (show AL _ _ _ _ _ _ _ _; (fail_if_success show AL _ _ _ _ _ (⟨_, .call ⟨.builtin .append, _, _⟩, _, _, _, _⟩ :: _) _ _); first | refine so2 ?_ | (refine sa ?_; intro k)) | (show AW _ _ _ _ _ _; first | (show AW _ _ (.region _ _ _) _ _ _; refine sc0 ?_; intro O1) | (refine sc1 ?_; try intro Q1)) | (show (_ → _) ∧ _; refine ⟨fun h => ?_, fun h => ?_⟩) | fail)
  refine Ap rfl (r_app0O (l := l) hG rfl rfl rfl rfl rfl rfl ⟨_, rfl⟩ rfl (List.mem_singleton.2 rfl) h rfl rfl hl (fun k => ?_))
  repeat' (first | (show AL _ _ _ _ _ _ _ _; first | refine so2 ?_ | (refine sa ?_; intro k)) | (show AW _ _ _ _ _ _; first | (show AW _ _ (.region _ _ _) _ _ _; refine sc0 ?_; intro O1) | (refine sc1 ?_; try intro Q1)) | (show (_ → _) ∧ _; refine ⟨fun h => ?_, fun h => ?_⟩) | fail)
  exact ret_ownsL 0 (Ab rfl Ac) rfl rfl rfl rfl
theorem num_TakeBytes_v {l : List UInt8} {o m : Nat} (h : o + m ≤ l.length) (hl : m ≤ 4294967296) (tw : Nat) :
    OnL Try.prog 42 [tvT tw o m] [(tw, .cells (l.map bT))] (fun u L => u = tbT (Az (win l o m)) ∧ L = [(tw, .cells (l.map bT))]) := by
  intro off
  refine Ad (N := 29) (rs := [.tmp 2, .tmp 3, .tmp 4]) hG Try.func42 rfl rfl rfl rfl rfl ?_
  have hb := win_len h
  have hT := takeE2 (win l o m)
  by_cases h2 : m < 2
  · rw [if_pos (by omega)] at hT
    have hr : Az (win l o m) = ([], 0, 3) := by rw [Az, if_pos (by omega)]
    have hc := num_Take_v h tw hT
    rw [hr]
    repeat' (first | (show AL _ _ _ _ _ _ _ _; first | refine so2 ?_ | refine al_onS hc Y Y Y Y Y hs ?_) | (show AW _ _ _ _ _ _; first | (show AW _ _ (.region _ _ _) _ _ _; refine sc0 ?_; intro O1) | (refine sc1 ?_; try intro Q1)) | (show (_ → _) ∧ _; refine ⟨fun h => ?_, fun h => ?_⟩) | fail)
    exact ret_on (L' := [(tw, .cells (l.map bT))]) (Ab rfl (Ab rfl (Ab rfl Ac))) hs (Wk.tupL (wk3 (.nil 1) (.refl _) (.refl _))) rfl ⟨rfl, rfl⟩
  rw [if_neg (by omega)] at hT
  have hv := beV2 (win l o m) (by omega)
  have hc := num_Take_v h tw hT
  have hr : Az (win l o m) = if m - 2 < beV ((win l o m).take 2) then ([], 0, 3) else (((win l o m).take (2 + beV ((win l o m).take 2))).drop 2, 2 + beV ((win l o m).take 2), 0) := by
    rw [Az, if_neg (by omega)]
    by_cases q : m - 2 < beV ((win l o m).take 2)
    · rw [if_pos q, if_pos (by omega)]
    · rw [if_neg q, if_neg (by omega)]
  have hw : ∀ k, k ≤ m - 2 → ((win l o m).take (2 + k)).drop 2 = win l (o + 2) k := fun k hk => by
    rw [win_take (by omega), win_drop]; congr 1; omega
  rw [hr]
  generalize beV ((win l o m).take 2) = k at *
  by_cases h3 : m - 2 < k
  · repeat' (first | (show AL _ _ _ _ _ _ _ _; first | refine so2 ?_ | refine al_onS hc Y Y Y Y Y hs ?_) | (show AW _ _ _ _ _ _; first | (show AW _ _ (.region _ _ _) _ _ _; refine sc0 ?_; intro O1) | (refine sc1 ?_; try intro Q1)) | (show (_ → _) ∧ _; refine ⟨fun h => ?_, fun h => ?_⟩) | fail)
    refine ret_on (L' := [(tw, .cells (l.map bT))]) (Ab rfl (Ab rfl (Ab rfl Ac))) hs ?_ rfl ⟨rfl, rfl⟩
    rw [if_pos h3]
    exact Wk.tupL (wk3 (.nil 1) (.refl _) (.refl _))
  · repeat' (first | (show AL _ _ _ _ _ _ _ _; (fail_if_success show AL _ _ _ _ _ (⟨_, .slice _ _ _ _ _, _, _, _, _⟩ :: _) _ _); first | refine so2 ?_ | refine al_onS hc Y Y Y Y Y hs ?_) | (show AW _ _ _ _ _ _; first | (show AW _ _ (.region _ _ _) _ _ _; refine sc0 ?_; intro O1) | (refine sc1 ?_; try intro Q1)) | (show (_ → _) ∧ _; refine ⟨fun h => ?_, fun h => ?_⟩) | fail)
    refine Ap rfl (r_tvC (l := 2) (h := 2 + k) hG rfl rfl rfl rfl rfl rfl rfl rfl (by omega) ?_)
    have hC := clone_t (l := l) (o := o + 2) (n := 2 + k - 2) (cap := some (m + 3 - 2)) (by omega) (by omega) tw
    repeat' (first | (show AL _ _ _ _ _ _ _ _; first | refine so2 ?_) | (show AW _ _ _ _ _ _; first | (show AW _ _ (.region _ _ _) _ _ _; refine sc0 ?_; intro O1) | (refine sc1 ?_; try intro Q1)) | (show (_ → _) ∧ _; refine ⟨fun h => ?_, fun h => ?_⟩) | fail)
    refine Ap rfl (r_ownsL rfl rfl rfl rfl (Lf := []) (.refl _) hC (fun k1 => ?_))
    repeat' (first | (show AL _ _ _ _ _ _ _ _; first | refine so2 ?_) | (show AW _ _ _ _ _ _; first | (show AW _ _ (.region _ _ _) _ _ _; refine sc0 ?_; intro O1) | (refine sc1 ?_; try intro Q1)) | (show (_ → _) ∧ _; refine ⟨fun h => ?_, fun h => ?_⟩) | fail)
    refine ret_on (L' := [(tw, .cells (l.map bT))]) (Ab rfl (Ab rfl (Ab rfl Ac))) hs ?_ rfl ⟨rfl, rfl⟩
    rw [if_neg h3]
    refine Wk.tupL (wk3 ((Wk.own _ _ _).trans (.eq ?_)) (.int (by simp)) (.refl _))
    dsimp only
    rw [hw k (by omega), sT, show 2 + k - 2 = k by omega]
set_option maxHeartbeats 9000000 in
theorem cats_Take_v {l : List UInt8} {o m : Nat} (h : o + m ≤ l.length) (hl : m ≤ 4294967296) (tw : Nat) :
    OnL Try.prog 115 [tvT tw o m] [(tw, .cells (l.map bT))] (fun u L => u = tcT (Ag (win l o m)) ∧ L = [(tw, .cells (l.map bT))]) := by
  intro off
  refine Ad (N := 50) (rs := [.tmp 2, .tmp 3, .tmp 4]) hG Try.func115 rfl rfl rfl rfl rfl ?_
  have hb := win_len h
  have hT1 := takeE1 (win l o m)
  by_cases h1 : m < 1
  · rw [if_pos (by omega)] at hT1
    have hr : Ag (win l o m) = ([], 0, 3) := by rw [Ag, if_pos (by omega)]
    have hc := num_Take_v h tw hT1
    rw [hr]
    repeat' (first | (show AL _ _ _ _ _ _ _ _; first | refine so2 ?_ | refine al_onS hc Y Y Y Y Y hs ?_ | (refine sa ?_; intro k)) | (show AW _ _ _ _ _ _; first | (show AW _ _ (.region _ _ _) _ _ _; refine sc0 ?_; intro O1) | (refine sc1 ?_; try intro Q1)) | (show (_ → _) ∧ _; refine ⟨fun h => ?_, fun h => ?_⟩) | fail)
    exact ret_on (L' := [(tw, .cells (l.map bT))]) (Ab rfl (Ab rfl (Ab rfl Ac))) hs (Wk.tupL (wk3 (.nil 1) (.refl _) (.refl _))) rfl ⟨rfl, rfl⟩
  rw [if_neg (by omega)] at hT1
  have hv := beV1 (win l o m) (by omega)
  have hc := num_Take_v h tw hT1
  generalize hn : beV ((win l o m).take 1) = n at *
  by_cases h2 : m < 1 + 2 * n
  · have hr : Ag (win l o m) = ([], 0, 3) := by rw [Ag, if_neg (by omega), hn, if_pos (by omega)]
    rw [hr]
    repeat' (first | (show AL _ _ _ _ _ _ _ _; first | refine so2 ?_ | refine al_onS hc Y Y Y Y Y hs ?_ | (refine sa ?_; intro k)) | (show AW _ _ _ _ _ _; first | (show AW _ _ (.region _ _ _) _ _ _; refine sc0 ?_; intro O1) | (refine sc1 ?_; try intro Q1)) | (show (_ → _) ∧ _; refine ⟨fun h => ?_, fun h => ?_⟩) | fail)
    exact ret_on (L' := [(tw, .cells (l.map bT))]) (Ab rfl (Ab rfl (Ab rfl Ac))) hs (Wk.tupL (wk3 (.nil 1) (.refl _) (.refl _))) rfl ⟨rfl, rfl⟩
  generalize hg : (fun i => UInt16.ofNat (beV (((win l o m).drop (1 + 2 * i)).take 2))) = g
  have hr : Ag (win l o m) = if mayC ((List.range n).map g) then ((List.range n).map g, 1 + 2 * n, 0) else ([], 0, 2) := by rw [Ag, if_neg (by omega), hn, if_neg (by omega), hg]
  rw [hr]
  repeat' (first | (show AL _ _ _ _ _ _ _ _; first | refine so2 ?_ | refine al_onS hc Y Y Y Y Y hs ?_ | (refine sa ?_; intro k)) | (show AW _ _ _ _ _ _; first | (show AW _ _ (.region _ _ _) _ _ _; refine sc0 ?_; intro O1) | (refine sc1 ?_; try intro Q1)) | (show (_ → _) ∧ _; refine ⟨fun h => ?_, fun h => ?_⟩) | fail)
  refine aw_tok0 2 1 rfl rfl rfl rfl (fun k => ?_)
  refine aw_loop (X := TCX n) (fun x => [(0, tvT tw o m), (3, .int .i64 ((1 + 2 * n : Nat) : Int)), (26, .int .i64 n), (27, .int .i64 x.i), (2, .sl 1 (.tok x.k) (((List.range x.i).map g).map hT))]) (fun x => ⟨[(tw, .cells (l.map bT))], [x.k], off, none⟩) (fun x => n - x.i) ⟨0, k, Nat.zero_le _⟩ ?_ (.refl _) ?_
  · exact .cons rfl (.consW rfl (.int (by simp)) (.cons rfl (.consW rfl (.int rfl) (.consW rfl (.eq (by simp)) (.nil _)))))
  rintro ⟨i, k, hi⟩
  dsimp only
  have hrl : (List.range i).length = i := List.length_range
  by_cases hib : i < n
  · have hd : (win l o m).drop (1 + 2 * i) = win l (o + (1 + 2 * i)) (m - (1 + 2 * i)) := win_drop
    have hwl : (win l (o + (1 + 2 * i)) (m - (1 + 2 * i))).length = m - (1 + 2 * i) := win_len (by omega)
    have hc2 := takeE2 (win l (o + (1 + 2 * i)) (m - (1 + 2 * i)))
    rw [if_neg (by omega)] at hc2
    have hc3 := num_Take_v (by omega) tw hc2
    have hw := beV2 (win l (o + (1 + 2 * i)) (m - (1 + 2 * i))) (by omega)
    have hgi : UInt16.ofNat (beV ((win l (o + (1 + 2 * i)) (m - (1 + 2 * i))).take 2)) = g i := by rw [← hg]; dsimp only; rw [hd]
    generalize beV ((win l (o + (1 + 2 * i)) (m - (1 + 2 * i))).take 2) = v at *
    have ht := hT_of v hw
    rw [hgi] at ht
    repeat' (first | (show AL _ _ _ _ _ _ _ _; (fail_if_success show AL _ _ _ _ _ (⟨_, .slice _ _ _ _ _, _, _, _, _⟩ :: _) _ _); first | refine so2 ?_ | (refine sa ?_; intro k)) | (show AW _ _ _ _ _ _; first | (show AW _ _ (.region _ _ _) _ _ _; refine sc0 ?_; intro O1) | (refine sc1 ?_; try intro Q1)) | (show (_ → _) ∧ _; refine ⟨fun h => ?_, fun h => ?_⟩) | fail)
    refine Ap rfl (r_tvS (l := 1 + 2 * i) hG rfl rfl rfl rfl rfl rfl rfl (by omega) ?_)
    repeat' (first | (show AL _ _ _ _ _ _ _ _; (fail_if_success show AL _ _ _ _ _ (⟨_, .call ⟨.builtin .append, _, _⟩, _, _, _, _⟩ :: _) _ _); first | refine so2 ?_ | refine al_onS hc3 Y Y Y Y Y hs ?_ | (refine sa ?_; intro k)) | (show AW _ _ _ _ _ _; first | (show AW _ _ (.region _ _ _) _ _ _; refine sc0 ?_; intro O1) | (refine sc1 ?_; try intro Q1)) | (show (_ → _) ∧ _; refine ⟨fun h => ?_, fun h => ?_⟩) | fail)
    refine Ap rfl (r_appm 0 (ys := [g i]) hG rfl rfl rfl rfl rfl rfl rfl ⟨_, rfl⟩ rfl rfl rfl rfl (congrArg (fun t => [t]) ht) (by simp; omega) (fun k' => ?_))
    repeat' (first | (show AL _ _ _ _ _ _ _ _; first | refine so2 ?_ | (refine sa ?_; intro k)) | (show AW _ _ _ _ _ _; first | (show AW _ _ (.region _ _ _) _ _ _; refine sc0 ?_; intro O1) | (refine sc1 ?_; try intro Q1)) | (show (_ → _) ∧ _; refine ⟨fun h => ?_, fun h => ?_⟩) | fail)
    refine ⟨⟨i + 1, k', by omega⟩, by dsimp only; omega, ?_, .refl _⟩
    exact .cons rfl (.cons rfl (.cons rfl (.consW rfl (.int (by simp)) (.consW rfl (.eq (by rw [List.range_succ]; simp)) (.nil _)))))
  · obtain rfl : i = n := by omega
    have hm := cats_May (x := .sl 1 (.tok k) (((List.range i).map g).map hT)) (catsT_map _ _) (by simp; omega)
    cases hma : mayC ((List.range i).map g) <;> rw [hma] at hm
    · repeat' (first | (show AL _ _ _ _ _ _ _ _; first | refine so2 ?_ | refine sp Y Y Y Y Y Y (by apply hm <;> exact sd) ?_ | (refine sa ?_; intro k)) | (show AW _ _ _ _ _ _; first | (show AW _ _ (.region _ _ _) _ _ _; refine sc0 ?_; intro O1) | (refine sc1 ?_; try intro Q1)) | (show (_ → _) ∧ _; refine ⟨fun h => ?_, fun h => ?_⟩) | fail)
      refine ret_on (L' := [(tw, .cells (l.map bT))]) (Ab rfl (Ab rfl (Ab rfl Ac))) hs ?_ rfl ⟨rfl, rfl⟩
      rw [hma]
      exact Wk.tupL (wk3 (.nil 1) (.refl _) (.refl _))
    · repeat' (first | (show AL _ _ _ _ _ _ _ _; first | refine so2 ?_ | refine sp Y Y Y Y Y Y (by apply hm <;> exact sd) ?_ | (refine sa ?_; intro k)) | (show AW _ _ _ _ _ _; first | (show AW _ _ (.region _ _ _) _ _ _; refine sc0 ?_; intro O1) | (refine sc1 ?_; try intro Q1)) | (show (_ → _) ∧ _; refine ⟨fun h => ?_, fun h => ?_⟩) | fail)
      refine ret_on (L' := [(tw, .cells (l.map bT))]) (Ab rfl (Ab rfl (Ab rfl Ac))) hs ?_ rfl ⟨rfl, rfl⟩
      rw [hma]
      exact Wk.tupL (wk3 (Wk.own _ _ _) (.int (by simp)) (.refl _))
end Go.Proofs.Ythfgocinlbogeaa
namespace Go.Proofs.Ythfgocinlbogeaa
open Go.Ts
set_option linter.unusedSimpArgs false
set_option linter.unusedVariables false
attribute [local irreducible] Go.Ts.AW Go.Ts.AOps Go.Ts.AL Go.Ts.AOp Go.Ts.ACalls Go.Ts.DL Go.Ts.DQ Go.Ts.EL
def iT (x : Nat) : T := .int .i64 x
instance : Enc iT 1 := ⟨fun x c h => by simp [iT, T.cells] at h; subst h; rfl, fun x => rfl⟩
def wT (x : Nat) : T := .int .u64 x
instance : Enc wT 1 := ⟨fun x c h => by simp [wT, T.cells] at h; subst h; rfl, fun x => rfl⟩
theorem and63 (v : Nat) (h : v < 18446744073709551616) : IntKind.u64.wrap ((BitVec.ofInt IntKind.u64.bits (v : Int) &&& BitVec.ofInt IntKind.u64.bits 63).toNat) = ((v % 64 : Nat) : Int) := by
  have e1 : BitVec.ofInt IntKind.u64.bits (v : Int) = BitVec.ofNat 64 v := by
    show BitVec.ofInt 64 _ = _
    rw [BitVec.ofInt_natCast]
  have e2 : BitVec.ofInt IntKind.u64.bits 63 = BitVec.ofNat 64 63 := rfl
  rw [e1, e2]
  have e3 : (BitVec.ofNat 64 v &&& BitVec.ofNat 64 63).toNat = v % 64 := by
    rw [BitVec.toNat_and, BitVec.toNat_ofNat, BitVec.toNat_ofNat, Nat.mod_eq_of_lt (by omega : v < 2 ^ 64), Nat.mod_eq_of_lt (by decide)]
    exact Nat.and_two_pow_sub_one_eq_mod v 6
  refine (congrArg (fun n : Nat => IntKind.u64.wrap (n : Int)) e3).trans ?_
  exact u64_in (by omega) (by omega)
section
variable {P : Program} {G : Nat → Option TI} {σ : St} {N : Nat} {a : Env}
theorem r_and63 {t yt : TypeId} {x : Operand} {v : Nat} {ti : TI} {d : Tmp} {ty : TypeId} {pos : String} {af : Array Edge} {gd : Option (Nat × Bool)} {K : Env → St → Prop} (hG : Fits P G) (ht : G t = some ti) (hx : Aa a x = some (.int .u64 (v : Int))) (h : v < 18446744073709551616) (hd : Ae N (some d) = true)
    (kk : K (put a (some d) (.int .u64 ((v % 64 : Nat) : Int))) σ) : AOp P N ⟨some d, .binOp .and t x (.const (.int .u64 63)) yt, ty, pos, af, gd⟩ a σ K := by
  refine op_q hG (t := .int .u64 ((v % 64 : Nat) : Int)) ?_ rfl hd kk
  rw [← and63 v h]
  simp only [Am, hx, ht]; rfl
end
end Go.Proofs.Ythfgocinlbogeaa
namespace Go.Proofs.Ythfgocinlbogeaa
open Go.Ts
set_option linter.unusedSimpArgs false
set_option linter.unusedVariables false
def mayL (l : List (List UInt8)) : Bool := decide (l.length ≤ 4) && l.all fun b => decide (b.length ≤ 16)
def putR (b : List UInt8) (l : List (List UInt8)) : List UInt8 := l.foldl putBs (b ++ putI l.length 1)
def takeLs (b : List UInt8) : Nat → List (List UInt8) → Nat → List (List UInt8) × Nat × Int
  | 0, acc, at' => (acc, at', 0)
  | n + 1, acc, at' => if (Az (b.drop at')).2.2 = 0 then takeLs b n (acc ++ [(Az (b.drop at')).1]) (at' + (Az (b.drop at')).2.1) else ([], 0, 3)
def takeR (b : List UInt8) : List (List UInt8) × Nat × Int :=
  if b.length < 1 then ([], 0, 3)
  else if (takeLs b (beV (b.take 1)) [] 1).2.2 = 0 then (if mayL (takeLs b (beV (b.take 1)) [] 1).1 then takeLs b (beV (b.take 1)) [] 1 else ([], 0, 2)) else ([], 0, 3)
theorem takeBE_e (b : List UInt8) : (Az b).2.2 = 0 ∧ 2 ≤ b.length ∧ (Az b).2.1 ≤ b.length ∧ (Az b).1.length ≤ 65535 ∨ Az b = ([], 0, 3) := by
  unfold Az
  split
  · exact .inr rfl
  split
  · exact .inr rfl
  · have := beV2 b (by omega)
    refine .inl ⟨rfl, by omega, by simp; omega, ?_⟩
    simp; omega
end Go.Proofs.Ythfgocinlbogeaa
namespace Go.Proofs.Ythfgocinlbogeaa
open Go.Ts
attribute [local irreducible] Go.Ts.AW Go.Ts.AOps Go.Ts.AL Go.Ts.AOp Go.Ts.ACalls Go.Ts.DL Go.Ts.DQ Go.Ts.EL
def placeN (p n : Int) : Int := if n < 1 then 0 else if p.tmod n < 0 then p.tmod n + n else p.tmod n
end Go.Proofs.Ythfgocinlbogeaa
set_option maxHeartbeats 4000000
namespace Go.Proofs.Ythfgocinlbogeaa
open Go.Ts Go.Sets
attribute [local irreducible] Go.Ts.AW Go.Ts.AOps Go.Ts.AL Go.Ts.AOp Go.Ts.ACalls Go.Ts.DL Go.Ts.DQ Go.Ts.EL
structure RTX (s : List UInt8) where
  j : Nat
  i : Nat
  i2 : Nat
  a : List UInt16
  b : List UInt16
  c : List UInt16
  n : Nat
  n1 : Nat
  n2 : Nat
  hj : j ≤ 3
  hn : n ≤ s.length
  h1 : 1 ≤ j → Ag s = (a, n1, 0)
  h2 : 2 ≤ j → Ag (s.drop n1) = (b, n2, 0)
  h3 : 3 ≤ j → ∃ n3, Ag (s.drop (n1 + n2)) = (c, n3, 0) ∧ n = n1 + n2 + n3
  e0 : j = 0 → n = 0
  e1 : j = 1 → n = n1
  e2 : j = 2 → n = n1 + n2
set_option maxHeartbeats 9000000 in
theorem ref_TakeSets {x : T} {s : List UInt8} (hx : bytesT x = some s) (hl : s.length ≤ 4294967296) : Pure Try.prog 78 [x] (tsT (takeS s)) := by
  refine Pure.weak (us := [sT s]) ?_ (wk1 (bytesT_wk hx))
  intro off
  refine Ad (N := 47) (rs := [.cell 2 46, .tmp 3, .tmp 4]) hG Try.func78 rfl rfl rfl rfl rfl ?_
  repeat' (first | (show AL _ _ _ _ _ _ _ _; first | refine so0 ?_ | (refine sb ?_; intro i)) | (show AW _ _ _ _ _ _; first | (show AW _ _ (.region _ _ _) _ _ _; refine sc0 ?_; intro O1) | (refine sc0 ?_; try intro Q1)) | (show (_ → _) ∧ _; refine ⟨fun h => ?_, fun h => ?_⟩) | fail)

  rename_i i1 _ _ _ _ _ _
  refine aw_loop (X := RTX s)
    (fun x => [(0, sT s), (2, .ptr x.i 0), (5, .ptr x.i2 0), (6, .int .i64 x.n), (7, .int .i64 x.j)])
    (fun x => ⟨[(x.i2, .cells (match x.j with
      | 0 => [.nilsl, .nilsl, .nilsl]
      | 1 => [cT x.a, .nilsl, .nilsl]
      | 2 => [cT x.a, cT x.b, .nilsl]
      | _ => [cT x.a, cT x.b, cT x.c])), (x.i, .cells [.nilsl, .nilsl, .nilsl])], [], off, none⟩) (fun x => 3 - x.j)
    ⟨0, i1, i, [], [], [], 0, 0, 0, by omega, by omega, fun h => by omega, fun h => by omega, fun h => by omega, fun _ => rfl, fun h => by omega, fun h => by omega⟩ ?_ (.refl _) ?_
  · exact .cons rfl (.cons rfl (.cons rfl (.cons rfl (.cons rfl (.nil _)))))
  · rintro ⟨j, i, i2, a, b, c, n, n1, n2, hj, hn, g1, g2, g3, e0, e1, e2⟩
    have hdn : (s.drop n).length = s.length - n := List.length_drop
    rcases (by omega : j = 0 ∨ j = 1 ∨ j = 2 ∨ j = 3) with rfl | rfl | rfl | rfl
    · obtain rfl := e0 rfl
      dsimp only
      clear g1 g2 g3 e0 e1 e2
      rcases ht : Ag s with ⟨a', n', e⟩
      have hc := ref_TakeSet_is (x := sT (s.drop 0)) (bytesT_s _) (by omega) (by rw [List.drop_zero, ht])
      by_cases he : e = 0
      · subst he
        have hu := Av ht
        repeat' (first | (show AL _ _ _ _ _ _ _ _; first | refine so0 ?_ | refine sp Y Y Y Y Y Y (by apply hc <;> exact sd) ?_ | (refine sb ?_; intro i)) | (show AW _ _ _ _ _ _; first | (show AW _ _ (.region _ _ _) _ _ _; refine sc0 ?_; intro O1) | (refine sc0 ?_; try intro Q1)) | (show (_ → _) ∧ _; refine ⟨fun h => ?_, fun h => ?_⟩) | fail)
        refine ⟨⟨1, i, i2, a', [], [], n', n', 0, by omega, by omega, fun _ => ht, fun h => by omega, fun h => by omega, fun h => by omega, fun _ => rfl, fun h => by omega⟩, by dsimp only; omega, ?_, .refl _⟩
        exact .cons rfl (.cons rfl (.cons rfl (.consW rfl (.int (by simp)) (.consW rfl (.int (by simp)) (.nil _)))))
      · repeat' (first | (show AL _ _ _ _ _ _ _ _; first | refine so0 ?_ | refine sp Y Y Y Y Y Y (by apply hc <;> exact sd) ?_ | (refine sb ?_; intro i)) | (show AW _ _ _ _ _ _; first | (show AW _ _ (.region _ _ _) _ _ _; refine sc0 ?_; intro O1) | (refine sc0 ?_; try intro Q1)) | (show (_ → _) ∧ _; refine ⟨fun h => ?_, fun h => ?_⟩) | fail)
        refine Ai (res_cell 1 rfl rfl rfl (Ab rfl (Ab rfl Ac))) ?_ rfl
        rw [takeS_1 ht he]
        exact Wk.tupL (wk3 sets_nil (.refl _) (.refl _))
    · obtain rfl := e1 rfl
      have h1 := g1 (Nat.le_refl 1)
      dsimp only
      clear g1 g2 g3 e0 e1 e2
      have hu1 := Av h1
      rcases ht : Ag (s.drop n) with ⟨a', n', e⟩
      have hc := ref_TakeSet_is (x := sT (s.drop n)) (bytesT_s _) (by omega) ht
      by_cases he : e = 0
      · subst he
        have hu := Av ht
        repeat' (first | (show AL _ _ _ _ _ _ _ _; first | refine so0 ?_ | refine sp Y Y Y Y Y Y (by apply hc <;> exact sd) ?_ | (refine sb ?_; intro i)) | (show AW _ _ _ _ _ _; first | (show AW _ _ (.region _ _ _) _ _ _; refine sc0 ?_; intro O1) | (refine sc0 ?_; try intro Q1)) | (show (_ → _) ∧ _; refine ⟨fun h => ?_, fun h => ?_⟩) | fail)
        refine ⟨⟨2, i, i2, a, a', [], n + n', n, n', by omega, by omega, fun _ => h1, fun _ => ht, fun h => by omega, fun h => by omega, fun h => by omega, fun _ => rfl⟩, by dsimp only; omega, ?_, .refl _⟩
        exact .cons rfl (.cons rfl (.cons rfl (.consW rfl (.int (by simp)) (.consW rfl (.int (by simp)) (.nil _)))))
      · repeat' (first | (show AL _ _ _ _ _ _ _ _; first | refine so0 ?_ | refine sp Y Y Y Y Y Y (by apply hc <;> exact sd) ?_ | (refine sb ?_; intro i)) | (show AW _ _ _ _ _ _; first | (show AW _ _ (.region _ _ _) _ _ _; refine sc0 ?_; intro O1) | (refine sc0 ?_; try intro Q1)) | (show (_ → _) ∧ _; refine ⟨fun h => ?_, fun h => ?_⟩) | fail)
        refine Ai (res_cell 1 rfl rfl rfl (Ab rfl (Ab rfl Ac))) ?_ rfl
        rw [takeS_2 h1 ht he]
        exact Wk.tupL (wk3 sets_nil (.refl _) (.refl _))
    · obtain rfl := e2 rfl
      have h1 := g1 (by decide)
      have h2 := g2 (by decide)
      dsimp only
      clear g1 g2 g3 e0 e1 e2
      have hu1 := Av h1
      have hu2 := Av h2
      rcases ht : Ag (s.drop (n1 + n2)) with ⟨a', n', e⟩
      have hc := ref_TakeSet_is (x := sT (s.drop (n1 + n2))) (bytesT_s _) (by omega) ht
      by_cases he : e = 0
      · subst he
        have hu := Av ht
        repeat' (first | (show AL _ _ _ _ _ _ _ _; first | refine so0 ?_ | refine sp Y Y Y Y Y Y (by apply hc <;> exact sd) ?_ | (refine sb ?_; intro i)) | (show AW _ _ _ _ _ _; first | (show AW _ _ (.region _ _ _) _ _ _; refine sc0 ?_; intro O1) | (refine sc0 ?_; try intro Q1)) | (show (_ → _) ∧ _; refine ⟨fun h => ?_, fun h => ?_⟩) | fail)
        refine ⟨⟨3, i, i2, a, b, a', n1 + n2 + n', n1, n2, by omega, by omega, fun _ => h1, fun _ => h2, fun _ => ⟨n', ht, rfl⟩, fun h => by omega, fun h => by omega, fun h => by omega⟩, by dsimp only; omega, ?_, .refl _⟩
        exact .cons rfl (.cons rfl (.cons rfl (.consW rfl (.int (by simp)) (.consW rfl (.int (by simp)) (.nil _)))))
      · repeat' (first | (show AL _ _ _ _ _ _ _ _; first | refine so0 ?_ | refine sp Y Y Y Y Y Y (by apply hc <;> exact sd) ?_ | (refine sb ?_; intro i)) | (show AW _ _ _ _ _ _; first | (show AW _ _ (.region _ _ _) _ _ _; refine sc0 ?_; intro O1) | (refine sc0 ?_; try intro Q1)) | (show (_ → _) ∧ _; refine ⟨fun h => ?_, fun h => ?_⟩) | fail)
        refine Ai (res_cell 1 rfl rfl rfl (Ab rfl (Ab rfl Ac))) ?_ rfl
        rw [takeS_3 h1 h2 ht he]
        exact Wk.tupL (wk3 sets_nil (.refl _) (.refl _))
    · have h1 := g1 (by decide)
      have h2 := g2 (by decide)
      obtain ⟨n3, h3, hn3⟩ := g3 (by decide)
      dsimp only
      clear g1 g2 g3 e0 e1 e2
      subst hn3
      have hu1 := Av h1
      have hu2 := Av h2
      have hu3 := Av h3
      have hm := ref_MaySets (catsT_c a) (catsT_c b) (catsT_c c) (by omega) (by omega) (by omega)
      cases q : Ay a b c <;> rw [q] at hm
      · repeat' (first | (show AL _ _ _ _ _ _ _ _; first | refine so0 ?_ | refine sp Y Y Y Y Y Y (by apply hm <;> exact sd) ?_ | (refine sb ?_; intro i)) | (show AW _ _ _ _ _ _; first | (show AW _ _ (.region _ _ _) _ _ _; refine sc0 ?_; intro O1) | (refine sc0 ?_; try intro Q1)) | (show (_ → _) ∧ _; refine ⟨fun h => ?_, fun h => ?_⟩) | fail)
        refine Ai (res_cell 2 rfl rfl rfl (Ab rfl (Ab rfl Ac))) ?_ rfl
        rw [takeS_4 h1 h2 h3, q]
        exact Wk.tupL (wk3 sets_nil (.refl _) (.refl _))
      · repeat' (first | (show AL _ _ _ _ _ _ _ _; first | refine so0 ?_ | refine sp Y Y Y Y Y Y (by apply hm <;> exact sd) ?_ | (refine sb ?_; intro i)) | (show AW _ _ _ _ _ _; first | (show AW _ _ (.region _ _ _) _ _ _; refine sc0 ?_; intro O1) | (refine sc0 ?_; try intro Q1)) | (show (_ → _) ∧ _; refine ⟨fun h => ?_, fun h => ?_⟩) | fail)
        refine Ai (res_cell 2 rfl rfl rfl (Ab rfl (Ab rfl Ac))) ?_ rfl
        rw [takeS_4 h1 h2 h3, q]
        exact .refl _
end Go.Proofs.Ythfgocinlbogeaa
namespace Go.Proofs.Ythfgocinlbogeaa
open Go.Ts Go.Sets
def flat2 (a : List UInt16) : List UInt8 := a.flatMap fun c => putI c.toNat 2
theorem putC_eq (b : List UInt8) (a : List UInt16) : putC b a = b ++ putC [] a := by simp [putC, List.append_assoc]
theorem putC_nil (a : List UInt16) : putC [] a = UInt8.ofNat a.length :: flat2 a := by simp [putC, putI1, flat2]
theorem be_beV2 (x y : UInt8) : be (UInt16.ofNat (beV [x, y])).toNat 2 = [x, y] := by
  have hx := x.toNat_lt
  have hy := y.toNat_lt
  have : (UInt16.ofNat (beV [x, y])).toNat = x.toNat * 256 + y.toNat := by simp [beV, UInt16.toNat_ofNat']; omega
  rw [this]
  have e1 : UInt8.ofNat ((x.toNat * 256 + y.toNat) / 256) = x := by
    rw [← UInt8.toNat_inj, UInt8.toNat_ofNat']; omega
  have e2 : UInt8.ofNat (x.toNat * 256 + y.toNat) = y := by
    rw [← UInt8.toNat_inj, UInt8.toNat_ofNat']; omega
  simp only [be, Nat.mul_one, Nat.mul_zero, Nat.pow_zero, Nat.div_one, show 2 ^ 8 = 256 from rfl, e1, e2]
theorem flat2_snoc (a : List UInt16) (x : UInt16) : flat2 (a ++ [x]) = flat2 a ++ be x.toNat 2 := by
  unfold flat2; rw [List.flatMap_append]; simp [putI]
theorem flat2_back (r : List UInt8) : ∀ m, 2 * m ≤ r.length → flat2 ((List.range m).map fun i => UInt16.ofNat (beV ((r.drop (2 * i)).take 2))) = r.take (2 * m)
  | 0, _ => by simp [flat2]
  | m + 1, h => by
    rw [List.range_succ, List.map_append, List.map_singleton, flat2_snoc, flat2_back r m (by omega)]
    obtain ⟨x, y, hxy⟩ : ∃ x y, (r.drop (2 * m)).take 2 = [x, y] := by
      have : ((r.drop (2 * m)).take 2).length = 2 := by rw [List.length_take, List.length_drop]; omega
      match hh : (r.drop (2 * m)).take 2, this with
      | [x, y], _ => exact ⟨x, y, rfl⟩
    rw [hxy, be_beV2, ← hxy, show 2 * (m + 1) = 2 * m + 2 by omega, List.take_add]
theorem takeC_back {s : List UInt8} {a : List UInt16} {n : Nat} (h : Ag s = (a, n, 0)) : putC [] a = s.take n := by
  unfold Ag at h
  split at h
  · injection h with h1 h2; injection h2 with h3 h4; cases h4
  split at h
  · injection h with h1 h2; injection h2 with h3 h4; cases h4
  split at h
  · rename_i q1 q2 q3
    injection h with h1 h2; injection h2 with h3 h4
    cases s with
    | nil => simp at q1
    | cons x r =>
      have hx := x.toNat_lt
      have e0 : beV ((x :: r).take 1) = x.toNat := by simp [beV]
      rw [e0] at h1 h3 q2
      rw [putC_nil]
      subst h3
      rw [show 1 + 2 * x.toNat = 2 * x.toNat + 1 by omega, List.take_succ_cons]
      have hal : a.length = x.toNat := by rw [← h1]; simp
      congr 1
      · rw [hal]; simp
      · rw [← h1]
        have := flat2_back r x.toNat (by simp at q2; omega)
        rw [← this]
        congr 2
        funext i
        rw [show 1 + 2 * i = 2 * i + 1 by omega, List.drop_succ_cons]
  · injection h with h1 h2; injection h2 with h3 h4; cases h4
theorem putS_eq (s : List UInt8) (a b c : List UInt16) : putS s a b c = s ++ (putC [] a ++ (putC [] b ++ putC [] c)) := by
  unfold putS; rw [putC_eq (putC (putC s a) b), putC_eq (putC s a), putC_eq s]; simp
theorem maySetsB_parts {a b c : List UInt16} (h : Ay a b c = true) : mayC a = true ∧ mayC b = true ∧ mayC c = true := by
  unfold Ay at h; simp only [Bool.and_eq_true] at h; exact ⟨h.1.1.1.1, h.1.1.1.2, h.1.1.2⟩
theorem takeS_ok {s : List UInt8} (h : (takeS s).e = 0) : Ay (takeS s).a (takeS s).b (takeS s).c = true ∧ (takeS s).n ≤ s.length ∧ putS [] (takeS s).a (takeS s).b (takeS s).c = s.take (takeS s).n := by
  rcases h1 : Ag s with ⟨a, n, e⟩
  by_cases e1 : e = 0
  · subst e1
    rcases h2 : Ag (s.drop n) with ⟨b, n2, e⟩
    by_cases e2 : e = 0
    · subst e2
      rcases h3 : Ag (s.drop (n + n2)) with ⟨c, n3, e⟩
      by_cases e3 : e = 0
      · subst e3
        have hh := takeS_4 h1 h2 h3
        by_cases hm : Ay a b c = true
        · rw [if_pos hm] at hh
          rw [hh]
          have u1 := Av h1
          have u2 := Av h2
          have u3 := Av h3
          rw [List.length_drop] at u2 u3
          refine ⟨hm, by dsimp only; omega, ?_⟩
          dsimp only
          rw [putS_eq, takeC_back h1, takeC_back h2, takeC_back h3, List.nil_append, List.take_add, List.take_add, List.append_assoc]
        · rw [if_neg hm] at hh
          rw [hh] at h; cases h
      · rw [takeS_3 h1 h2 h3 e3] at h; exact absurd h e3
    · rw [takeS_2 h1 h2 e2] at h; exact absurd h e2
  · rw [takeS_1 h1 e1] at h; exact absurd h e1
theorem takeS_small (s : List UInt8) : (takeS s).a.length ≤ 16 ∧ (takeS s).b.length ≤ 16 ∧ (takeS s).c.length ≤ 16 ∧ (takeS s).n ≤ s.length := by
  by_cases h : (takeS s).e = 0
  · obtain ⟨h1, h2, h3⟩ := takeS_ok h
    obtain ⟨a, b, c⟩ := maySetsB_parts h1
    exact ⟨mayC_le a, mayC_le b, mayC_le c, h2⟩
  · have key : ∀ e : Int, takeS s = ⟨[], [], [], 0, e⟩ → (takeS s).a.length ≤ 16 ∧ (takeS s).b.length ≤ 16 ∧ (takeS s).c.length ≤ 16 ∧ (takeS s).n ≤ s.length := by
      intro e he; rw [he]; simp
    rcases h1 : Ag s with ⟨a, n, e⟩
    by_cases e1 : e = 0
    · subst e1
      rcases h2 : Ag (s.drop n) with ⟨b, n2, e⟩
      by_cases e2 : e = 0
      · subst e2
        rcases h3 : Ag (s.drop (n + n2)) with ⟨c, n3, e⟩
        by_cases e3 : e = 0
        · subst e3
          have hh := takeS_4 h1 h2 h3
          by_cases hm : Ay a b c = true
          · rw [if_pos hm] at hh; exact absurd (by rw [hh]) h
          · rw [if_neg hm] at hh; exact key _ hh
        · exact key _ (takeS_3 h1 h2 h3 e3)
      · exact key _ (takeS_2 h1 h2 e2)
    · exact key _ (takeS_1 h1 e1)
end Go.Proofs.Ythfgocinlbogeaa
namespace Go.Proofs.Ythfgocinlbogeaa
open Go.Ts Go.Sets
set_option linter.unusedSimpArgs false
set_option linter.unusedVariables false
attribute [local irreducible] Go.Ts.AW Go.Ts.AOps Go.Ts.AL Go.Ts.AOp Go.Ts.ACalls Go.Ts.DL Go.Ts.DQ Go.Ts.EL
structure OB where
  id : Nat
  kind : Int
  df : Nat
  ps : List T
  s : List UInt16
  i : List UInt16
  o : List UInt16
  q : Int
  u : Int
  x : Int
  d : List UInt8
  c : List UInt16
  r : List (List UInt8)
def OB.cells (o : OB) : List T := [.int .u64 o.id, .int .i64 o.kind, .int .u8 o.df, .sl 2 .no o.ps, cT o.s, cT o.i, cT o.o, .int .i64 o.q, .int .i64 o.u, .int .i64 o.x, sT o.d, cT o.c, lT o.r]
def OB.t (o : OB) : T := .agg [.int .u64 o.id, .int .i64 o.kind, .int .u8 o.df, .sl 2 .no o.ps, cT o.s, cT o.i, cT o.o, .int .i64 o.q, .int .i64 o.u, .int .i64 o.x, sT o.d, cT o.c, lT o.r]
structure OB.Fits (o : OB) : Prop where
  hid : o.id < 18446744073709551616
  hs : o.s.length ≤ bigLen
  hi : o.i.length ≤ bigLen
  ho : o.o.length ≤ bigLen
  hd : o.d.length ≤ bigLen
  hc : o.c.length ≤ bigLen
  hr : o.r.length ≤ bigLen
  hrb : ∀ b ∈ o.r, b.length ≤ bigLen
  hps : o.ps.length ≤ bigLen
end Go.Proofs.Ythfgocinlbogeaa
namespace Go.Proofs.Ythfgocinlbogeaa
open Go.Ts Go.Sets
set_option linter.unusedSimpArgs false
set_option linter.unusedVariables false
attribute [local irreducible] Go.Ts.AW Go.Ts.AOps Go.Ts.AL Go.Ts.AOp Go.Ts.ACalls Go.Ts.DL Go.Ts.DQ Go.Ts.EL
theorem takeEn (b : List UInt8) (m : Nat) (h : m ≤ 8) : takeE b (m : Int) = if b.length < m then (0, 3) else (beV (b.take m), 0) := by
  unfold takeE
  rw [if_neg (by omega)]
  by_cases h1 : b.length < m
  · rw [if_pos (by omega), if_pos h1]
  · rw [if_neg (by omega), if_neg h1, Int.toNat_natCast]
structure HD where
  e : Int
  kind : Nat
  id : Nat
  s : List UInt16
  i : List UInt16
  o : List UInt16
  rest : List UInt8
def HD.no (e : Int) : HD := ⟨e, 0, 0, [], [], [], []⟩
def zeroCells : List T := [.int .u64 0, .int .i64 0, .int .u8 0, .nilsl, .nilsl, .nilsl, .nilsl, .int .i64 0, .int .i64 0, .int .i64 0, .nilsl, .nilsl, .nilsl]
end Go.Proofs.Ythfgocinlbogeaa
namespace Go.Proofs.Ythfgocinlbogeaa
open Go.Ts Go.Sets
set_option linter.unusedSimpArgs false
set_option linter.unusedVariables false
attribute [local irreducible] Go.Ts.AW Go.Ts.AOps Go.Ts.AL Go.Ts.AOp Go.Ts.ACalls Go.Ts.DL Go.Ts.DQ Go.Ts.EL
structure TT where
  e : Int
  q : Nat
  u : Nat
  x : Nat
  d : List UInt8
  c : List UInt16
  r : List (List UInt8)
  rest : List UInt8
def TT.no (e : Int) : TT := ⟨e, 0, 0, 0, [], [], [], []⟩
theorem takeBE_3 (b : List UInt8) : (Az b).2.2 = 0 ∧ (Az b).2.1 ≤ b.length ∨ (Az b).2.2 = 3 ∧ (Az b).2.1 = 0 := by
  rcases takeBE_e b with h | h
  · exact .inl ⟨h.1, h.2.2.1⟩
  · rw [h]; exact .inr ⟨rfl, rfl⟩
theorem takeC_3 (b : List UInt8) : (Ag b).2.2 = 0 ∧ (Ag b).2.1 ≤ b.length ∨ (Ag b).2.2 ≠ 0 ∧ (Ag b).2.1 = 0 := by
  by_cases h : (Ag b).2.2 = 0
  · have q : Ag b = ((Ag b).1, (Ag b).2.1, 0) := by rw [← h]
    exact .inl ⟨h, (Av q).1⟩
  · refine .inr ⟨h, ?_⟩
    unfold Ag at h ⊢
    split
    · rfl
    split
    · rfl
    split
    · rename_i h1 h2 h3; rw [if_neg h1, if_neg h2, if_pos h3] at h; exact absurd rfl h
    · rfl
end Go.Proofs.Ythfgocinlbogeaa
set_option maxHeartbeats 4000000
namespace Go.Proofs.Ythfgocinlbogeaa
open Go.Ts Go.Sets
set_option linter.unusedSimpArgs false
set_option linter.unusedVariables false
attribute [local irreducible] Go.Ts.AW Go.Ts.AOps Go.Ts.AL Go.Ts.AOp Go.Ts.ACalls Go.Ts.DL Go.Ts.DQ Go.Ts.EL
structure RS where
  b : List UInt8
  e : Int
def RS.cells (r : RS) : List T := [sT r.b, .int .i64 r.e]
def rdN (r : RS) (n : Nat) : Nat × RS := if r.e = 0 then (if r.b.length < n then (0, ⟨r.b, 3⟩) else (beV (r.b.take n), ⟨r.b.drop n, 0⟩)) else (0, r)
def rdB (r : RS) : List UInt8 × RS := if r.e = 0 then (if (Az r.b).2.2 = 0 then ((Az r.b).1, ⟨r.b.drop (Az r.b).2.1, 0⟩) else ([], ⟨r.b, 3⟩)) else ([], r)
def rdC (r : RS) : List UInt16 × RS := if r.e = 0 then (if (Ag r.b).2.2 = 0 then ((Ag r.b).1, ⟨r.b.drop (Ag r.b).2.1, 0⟩) else ([], ⟨r.b, (Ag r.b).2.2⟩)) else ([], r)
theorem takeC_no {s : List UInt8} (h : (Ag s).2.2 ≠ 0) : (Ag s).1 = [] := by
  unfold Ag at h ⊢
  split
  · rfl
  split
  · rfl
  split
  · rename_i h1 h2 h3; rw [if_neg h1, if_neg h2, if_pos h3] at h; exact absurd rfl h
  · rfl
end Go.Proofs.Ythfgocinlbogeaa
set_option maxHeartbeats 4000000
namespace Go.Proofs.Ythfgocinlbogeaa
open Go.Ts Go.Sets
set_option linter.unusedSimpArgs false
set_option linter.unusedVariables false
attribute [local irreducible] Go.Ts.AW Go.Ts.AOps Go.Ts.AL Go.Ts.AOp Go.Ts.ACalls Go.Ts.DL Go.Ts.DQ Go.Ts.EL
structure CO where
  op : Nat
  kind : Nat
  id : Nat
  to : Nat
  off : Nat
  n : Nat
  s : List UInt16
  i : List UInt16
  o : List UInt16
  d : List UInt8
  c : List UInt16
def zeroK : CO := ⟨0, 0, 0, 0, 0, 0, [], [], [], [], []⟩
def CO.t (c : CO) : T := .agg [.int .i64 c.op, .int .i64 c.kind, .int .u64 c.id, .int .u64 c.to, .int .i64 c.off, .int .i64 c.n, .int .u8 0, .sl 2 .no [], cT c.s, cT c.i, cT c.o, sT c.d, cT c.c]
def DS (ds : List T) (c : CO) : Prop := ∃ S I O d cc, ds = [.int .i64 c.op, .int .i64 c.kind, .int .u64 c.id, .int .u64 c.to, .int .i64 c.off, .int .i64 c.n, .int .u8 0, .nilsl, S, I, O, d, cc] ∧ Wk S (cT c.s) ∧ Wk I (cT c.i) ∧ Wk O (cT c.o) ∧ Wk d (sT c.d) ∧ Wk cc (cT c.c) ∧ (S.scalar && I.scalar && O.scalar && d.scalar && cc.scalar) = true
def zeroKC (op : Nat) : List T := [.int .i64 op, .int .i64 0, .int .u64 0, .int .u64 0, .int .i64 0, .int .i64 0, .int .u8 0, .nilsl, .nilsl, .nilsl, .nilsl, .nilsl, .nilsl]
structure S3 where
  s : List UInt16
  i : List UInt16
  o : List UInt16
def rdS (r : RS) : S3 × RS := if r.e = 0 then (if (takeS r.b).e = 0 then (⟨(takeS r.b).a, (takeS r.b).b, (takeS r.b).c⟩, ⟨r.b.drop (takeS r.b).n, 0⟩) else (⟨[], [], []⟩, ⟨r.b, (takeS r.b).e⟩)) else (⟨[], [], []⟩, r)
theorem takeS_no {s : List UInt8} (h : (takeS s).e ≠ 0) : (takeS s).a = [] ∧ (takeS s).b = [] ∧ (takeS s).c = [] ∧ (takeS s).n = 0 := by
  unfold takeS at h ⊢
  (repeat' split) <;> first | exact ⟨rfl, rfl, rfl, rfl⟩ | simp_all
theorem rdN_len (r : RS) (m : Nat) : (rdN r m).2.b.length ≤ r.b.length := by
  unfold rdN; split
  · split
    · exact Nat.le_refl _
    · simp only [List.length_drop]; omega
  · exact Nat.le_refl _
theorem rdS_len (r : RS) : (rdS r).2.b.length ≤ r.b.length := by
  unfold rdS; split
  · split
    · simp only [List.length_drop]; omega
    · exact Nat.le_refl _
  · exact Nat.le_refl _
theorem rdN_lt (r : RS) (m : Nat) : (rdN r m).1 < 2 ^ (8 * m) := by
  unfold rdN; split
  · split
    · exact Nat.two_pow_pos _
    · rename_i h; exact beV_lt m _ (by rw [List.length_take]; omega)
  · exact Nat.two_pow_pos _
def freshF (op : Nat) (r : RS) : CO × RS :=
  if (rdN r 1).1 = 1 then (⟨op, (rdN r 1).1, (rdN (rdN r 1).2 8).1, 0, 0, (rdN (rdS (rdN (rdN r 1).2 8).2).2 2).1, (rdS (rdN (rdN r 1).2 8).2).1.s, (rdS (rdN (rdN r 1).2 8).2).1.i, (rdS (rdN (rdN r 1).2 8).2).1.o, [], []⟩, (rdN (rdS (rdN (rdN r 1).2 8).2).2 2).2)
  else if (rdN r 1).1 = 2 then (⟨op, (rdN r 1).1, (rdN (rdN r 1).2 8).1, 0, 0, 0, (rdS (rdN (rdN r 1).2 8).2).1.s, (rdS (rdN (rdN r 1).2 8).2).1.i, (rdS (rdN (rdN r 1).2 8).2).1.o, (rdB (rdS (rdN (rdN r 1).2 8).2).2).1, []⟩, (rdB (rdS (rdN (rdN r 1).2 8).2).2).2)
  else if (rdN r 1).1 = 3 then (⟨op, (rdN r 1).1, (rdN (rdN r 1).2 8).1, 0, 0, 0, (rdS (rdN (rdN r 1).2 8).2).1.s, (rdS (rdN (rdN r 1).2 8).2).1.i, (rdS (rdN (rdN r 1).2 8).2).1.o, [], (rdC (rdS (rdN (rdN r 1).2 8).2).2).1⟩, (rdC (rdS (rdN (rdN r 1).2 8).2).2).2)
  else (⟨op, (rdN r 1).1, (rdN (rdN r 1).2 8).1, 0, 0, 0, (rdS (rdN (rdN r 1).2 8).2).1.s, (rdS (rdN (rdN r 1).2 8).2).1.i, (rdS (rdN (rdN r 1).2 8).2).1.o, [], []⟩, (rdS (rdN (rdN r 1).2 8).2).2)
def Aj (op : Nat) (r : RS) : CO × RS :=
  if op = 2 then (⟨op, 0, 0, 0, 0, 0, (rdS r).1.s, (rdS r).1.i, (rdS r).1.o, [], []⟩, (rdS r).2) else
  if op = 3 then freshF op r else
  if op = 4 then (⟨op, 0, (rdN r 8).1, 0, (rdN (rdN r 8).2 2).1, (rdN (rdN (rdN r 8).2 2).2 2).1, [], [], [], [], []⟩, (rdN (rdN (rdN r 8).2 2).2 2).2) else
  if op = 5 then (⟨op, 0, (rdN r 8).1, 0, (rdN (rdN r 8).2 2).1, 0, [], [], [], (rdB (rdN (rdN r 8).2 2).2).1, []⟩, (rdB (rdN (rdN r 8).2 2).2).2) else
  if op = 6 ∨ op = 7 ∨ op = 9 ∨ op = 11 then (⟨op, 0, (rdN r 8).1, 0, 0, 0, [], [], [], [], []⟩, (rdN r 8).2) else
  if op = 8 then (⟨op, 0, (rdN r 8).1, 0, 0, 0, [], [], [], (rdB (rdN r 8).2).1, []⟩, (rdB (rdN r 8).2).2) else
  if op = 10 then (⟨op, 0, (rdN r 8).1, (rdN (rdN r 8).2 8).1, 0, (rdN (rdN (rdN r 8).2 8).2 2).1, [], [], [], [], []⟩, (rdN (rdN (rdN r 8).2 8).2 2).2) else
  if op = 1 ∨ op = 12 ∨ op = 13 then (⟨op, 0, 0, 0, 0, 0, [], [], [], [], []⟩, r) else
  (⟨op, 0, 0, 0, 0, 0, [], [], [], [], []⟩, if r.e = 0 then ⟨r.b, 2⟩ else r)
def takeK (b : List UInt8) : CO × Int :=
  if (rdN ⟨b, 0⟩ 1).2.e ≠ 0 then (zeroK, (rdN ⟨b, 0⟩ 1).2.e)
  else if (Aj (rdN ⟨b, 0⟩ 1).1 (rdN ⟨b, 0⟩ 1).2).2.e ≠ 0 then (zeroK, (Aj (rdN ⟨b, 0⟩ 1).1 (rdN ⟨b, 0⟩ 1).2).2.e)
  else if 0 < (Aj (rdN ⟨b, 0⟩ 1).1 (rdN ⟨b, 0⟩ 1).2).2.b.length then (zeroK, 2)
  else ((Aj (rdN ⟨b, 0⟩ 1).1 (rdN ⟨b, 0⟩ 1).2).1, 0)
theorem zeroK_wk : Wk (.agg (zeroKC 0)) zeroK.t := Wk.aggL (wkc (.refl _) (wkc (.refl _) (wkc (.refl _) (wkc (.refl _) (wkc (.refl _) (wkc (.refl _) (wkc (.refl _) (wkc (.nil 2) (wkc (.nil 1) (wkc (.nil 1) (wkc (.nil 1) (wkc (.nil 1) (wkc (.nil 1) trivial)))))))))))))
end Go.Proofs.Ythfgocinlbogeaa
set_option maxHeartbeats 4000000
namespace Go.Proofs.Ythfgocinlbogeaa
open Go.Ts Go.Sets
set_option linter.unusedSimpArgs false
set_option linter.unusedVariables false
attribute [local irreducible] Go.Ts.AW Go.Ts.AOps Go.Ts.AL Go.Ts.AOp Go.Ts.ACalls Go.Ts.DL Go.Ts.DQ Go.Ts.DQ0 Go.Ts.EL
theorem v2_takesE {l : List UInt8} {o m : Nat} {e e' : Int} {n : Nat} (he : e' ≠ 0) (i tw : Nat) :
    OnL Try.prog 84 [.ptr i 0, .int .i64 n, .int .i64 e'] [(i, .cells [tvT tw o m, .int .i64 e]), (tw, .cells (l.map bT))] (fun u L => u = .tup [] ∧ L = [(i, .cells [tvT tw o m, .int .i64 e']), (tw, .cells (l.map bT))]) := by
  intro off
  refine Ad (N := 21) (rs := []) hG Try.func84 rfl rfl rfl rfl rfl ?_
  repeat' (first | (show AL _ _ _ _ _ _ _ _; first | refine so2 ?_) | (show AW _ _ _ _ _ _; first | (show AW _ _ (.region _ _ _) _ _ _; refine sc0 ?_; intro O1) | (refine sc1 ?_; try intro Q1)) | (show (_ → _) ∧ _; refine ⟨fun h => ?_, fun h => ?_⟩) | fail)
  exact ret_on (L' := [(i, .cells [tvT tw o m, .int .i64 e']), (tw, .cells (l.map bT))]) Ac hs (.refl _) rfl ⟨rfl, rfl⟩
theorem v2_takesO {l : List UInt8} {o m : Nat} {e : Int} {n : Nat} (hn : n ≤ m) (i tw : Nat) :
    OnL Try.prog 84 [.ptr i 0, .int .i64 n, .int .i64 0] [(i, .cells [tvT tw o m, .int .i64 e]), (tw, .cells (l.map bT))] (fun u L => u = .tup [] ∧ L = [(i, .cells [tvT tw (o + n) (m - n), .int .i64 e]), (tw, .cells (l.map bT))]) := by
  intro off
  refine Ad (N := 21) (rs := []) hG Try.func84 rfl rfl rfl rfl rfl ?_
  repeat' (first | (show AL _ _ _ _ _ _ _ _; (fail_if_success show AL _ _ _ _ _ (⟨_, .slice _ _ _ _ _, _, _, _, _⟩ :: _) _ _); first | refine so2 ?_) | (show AW _ _ _ _ _ _; first | (show AW _ _ (.region _ _ _) _ _ _; refine sc0 ?_; intro O1) | (refine sc1 ?_; try intro Q1)) | (show (_ → _) ∧ _; refine ⟨fun h => ?_, fun h => ?_⟩) | fail)
  refine Ap rfl (r_tvS (l := n) hG rfl rfl rfl rfl rfl rfl rfl hn ?_)
  repeat' (first | (show AL _ _ _ _ _ _ _ _; first | refine so2 ?_) | (show AW _ _ _ _ _ _; first | (show AW _ _ (.region _ _ _) _ _ _; refine sc0 ?_; intro O1) | (refine sc1 ?_; try intro Q1)) | (show (_ → _) ∧ _; refine ⟨fun h => ?_, fun h => ?_⟩) | fail)
  refine al_nil ?_
  exact A2 (L' := [(i, .cells [tvT tw (o + n) (m - n), .int .i64 e]), (tw, .cells (l.map bT))]) Ac hs (.refl _) rfl ⟨rfl, rfl⟩
theorem v2_number {r : RS} {l : List UInt8} {o m : Nat} {n : Nat} (h : o + m ≤ l.length) (hr : win l o m = r.b) (h8 : n ≤ 8) (hl : l.length ≤ 4294967296) (i tw : Nat) :
    OnL Try.prog 60 [.ptr i 0, .int .i64 (n : Int)] [(i, .cells [tvT tw o m, .int .i64 r.e]), (tw, .cells (l.map bT))] (fun u L => ∃ o' m', o' + m' ≤ l.length ∧ win l o' m' = (rdN r n).2.b ∧ u = .int .u64 (rdN r n).1 ∧ L = [(i, .cells [tvT tw o' m', .int .i64 (rdN r n).2.e]), (tw, .cells (l.map bT))]) := by
  intro off
  obtain ⟨b, e⟩ := r
  dsimp only at hr ⊢
  subst hr
  have hb := win_len h
  by_cases he : e = 0
  · subst he
    have hT := takeEn (win l o m) n h8
    by_cases h1 : m < n
    · rw [if_pos (by omega)] at hT
      have hh : rdN ⟨win l o m, 0⟩ n = (0, ⟨win l o m, 3⟩) := by rw [rdN, if_pos rfl, if_pos (by dsimp only; omega)]
      have hc := num_Take_v h tw hT
      rw [hh]
      refine Ad (N := 25) (rs := [.tmp 4]) hG Try.func60 rfl rfl rfl rfl rfl ?_
      repeat' (first | (show AL _ _ _ _ _ _ _ _; first | refine so2 ?_ | refine al_onS hc Y Y Y Y Y hs ?_) | (show AW _ _ _ _ _ _; first | (show AW _ _ (.region _ _ _) _ _ _; refine sc0 ?_; intro O1) | (refine sc1 ?_; try intro Q1)) | (show (_ → _) ∧ _; refine ⟨fun h => ?_, fun h => ?_⟩) | fail)
      refine al_on (v2_takesE (l := l) (o := o) (m := m) (e := 0) (e' := 3) (n := n) (by decide) i tw) rfl rfl rfl rfl rfl rfl hs ?_
      rintro u L' ⟨rfl, rfl⟩
      repeat' (first | (show AL _ _ _ _ _ _ _ _; first | refine so2 ?_) | (show AW _ _ _ _ _ _; first | (show AW _ _ (.region _ _ _) _ _ _; refine sc0 ?_; intro O1) | (refine sc1 ?_; try intro Q1)) | (show (_ → _) ∧ _; refine ⟨fun h => ?_, fun h => ?_⟩) | fail)
      exact ret_on (L' := [(i, .cells [tvT tw o m, .int .i64 3]), (tw, .cells (l.map bT))]) (Ab rfl Ac) hs (.refl _) rfl ⟨o, m, h, rfl, rfl, rfl⟩
    · rw [if_neg (by omega)] at hT
      have hh : rdN ⟨win l o m, 0⟩ n = (beV ((win l o m).take n), ⟨(win l o m).drop n, 0⟩) := by rw [rdN, if_pos rfl, if_neg (by dsimp only; omega)]
      have hc := num_Take_v h tw hT
      rw [hh]
      refine Ad (N := 25) (rs := [.tmp 4]) hG Try.func60 rfl rfl rfl rfl rfl ?_
      repeat' (first | (show AL _ _ _ _ _ _ _ _; first | refine so2 ?_ | refine al_onS hc Y Y Y Y Y hs ?_) | (show AW _ _ _ _ _ _; first | (show AW _ _ (.region _ _ _) _ _ _; refine sc0 ?_; intro O1) | (refine sc1 ?_; try intro Q1)) | (show (_ → _) ∧ _; refine ⟨fun h => ?_, fun h => ?_⟩) | fail)
      refine al_on (v2_takesO (l := l) (o := o) (m := m) (e := 0) (n := n) (by omega) i tw) rfl rfl rfl rfl rfl rfl hs ?_
      rintro u L' ⟨rfl, rfl⟩
      repeat' (first | (show AL _ _ _ _ _ _ _ _; first | refine so2 ?_) | (show AW _ _ _ _ _ _; first | (show AW _ _ (.region _ _ _) _ _ _; refine sc0 ?_; intro O1) | (refine sc1 ?_; try intro Q1)) | (show (_ → _) ∧ _; refine ⟨fun h => ?_, fun h => ?_⟩) | fail)
      exact ret_on (L' := [(i, .cells [tvT tw (o + n) (m - n), .int .i64 0]), (tw, .cells (l.map bT))]) (Ab rfl Ac) hs (.refl _) rfl ⟨o + n, m - n, by omega, win_drop.symm, rfl, rfl⟩
  · have hh : rdN ⟨win l o m, e⟩ n = (0, ⟨win l o m, e⟩) := by rw [rdN, if_neg he]
    rw [hh]
    refine Ad (N := 25) (rs := [.tmp 4]) hG Try.func60 rfl rfl rfl rfl rfl ?_
    repeat' (first | (show AL _ _ _ _ _ _ _ _; first | refine so2 ?_) | (show AW _ _ _ _ _ _; first | (show AW _ _ (.region _ _ _) _ _ _; refine sc0 ?_; intro O1) | (refine sc1 ?_; try intro Q1)) | (show (_ → _) ∧ _; refine ⟨fun h => ?_, fun h => ?_⟩) | fail)
    exact ret_on (L' := [(i, .cells [tvT tw o m, .int .i64 e]), (tw, .cells (l.map bT))]) (Ab rfl Ac) hs (.refl _) rfl ⟨o, m, h, rfl, rfl, rfl⟩
theorem v2_bytes {r : RS} {l : List UInt8} {o m : Nat} (h : o + m ≤ l.length) (hr : win l o m = r.b) (hl : l.length ≤ 4294967296) (i tw : Nat) :
    OnL Try.prog 87 [.ptr i 0] [(i, .cells [tvT tw o m, .int .i64 r.e]), (tw, .cells (l.map bT))] (fun u L => ∃ o' m', o' + m' ≤ l.length ∧ win l o' m' = (rdB r).2.b ∧ u = sT (rdB r).1 ∧ L = [(i, .cells [tvT tw o' m', .int .i64 (rdB r).2.e]), (tw, .cells (l.map bT))]) := by
  intro off
  obtain ⟨b, e⟩ := r
  dsimp only at hr ⊢
  subst hr
  have hb := win_len h
  by_cases he : e = 0
  · subst he
    have hc := num_TakeBytes_v h (by omega) tw
    have h3 := takeBE_3 (win l o m)
    have hh : rdB ⟨win l o m, 0⟩ = (if (Az (win l o m)).2.2 = 0 then ((Az (win l o m)).1, ⟨(win l o m).drop (Az (win l o m)).2.1, 0⟩) else ([], ⟨win l o m, 3⟩)) := by rw [rdB, if_pos rfl]
    have hz : (Az (win l o m)).2.2 ≠ 0 → (Az (win l o m)).1 = [] ∧ (Az (win l o m)).2.2 = 3 := fun h => by
      rcases takeBE_e (win l o m) with q | q
      · exact absurd q.1 h
      · rw [q]; exact ⟨rfl, rfl⟩
    generalize Az (win l o m) = t at *
    obtain ⟨s, n, e⟩ := t
    dsimp only at *
    by_cases h1 : e = 0
    · subst h1
      rw [if_pos rfl] at hh
      rw [hh]
      refine Ad (N := 24) (rs := [.tmp 2]) hG Try.func87 rfl rfl rfl rfl rfl ?_
      repeat' (first | (show AL _ _ _ _ _ _ _ _; first | refine so2 ?_ | refine al_onS hc Y Y Y Y Y hs ?_) | (show AW _ _ _ _ _ _; first | (show AW _ _ (.region _ _ _) _ _ _; refine sc0 ?_; intro O1) | (refine sc1 ?_; try intro Q1)) | (show (_ → _) ∧ _; refine ⟨fun h => ?_, fun h => ?_⟩) | fail)
      refine al_on (v2_takesO (l := l) (o := o) (m := m) (e := 0) (n := n) (by omega) i tw) rfl rfl rfl rfl rfl rfl hs ?_
      rintro u L' ⟨rfl, rfl⟩
      repeat' (first | (show AL _ _ _ _ _ _ _ _; first | refine so2 ?_) | (show AW _ _ _ _ _ _; first | (show AW _ _ (.region _ _ _) _ _ _; refine sc0 ?_; intro O1) | (refine sc1 ?_; try intro Q1)) | (show (_ → _) ∧ _; refine ⟨fun h => ?_, fun h => ?_⟩) | fail)
      exact ret_on (L' := [(i, .cells [tvT tw (o + n) (m - n), .int .i64 0]), (tw, .cells (l.map bT))]) (Ab rfl Ac) hs (.refl _) rfl ⟨o + n, m - n, by omega, win_drop.symm, rfl, rfl⟩
    · rw [if_neg h1] at hh
      rw [hh]
      obtain ⟨rfl, rfl⟩ := hz h1
      refine Ad (N := 24) (rs := [.tmp 2]) hG Try.func87 rfl rfl rfl rfl rfl ?_
      repeat' (first | (show AL _ _ _ _ _ _ _ _; first | refine so2 ?_ | refine al_onS hc Y Y Y Y Y hs ?_) | (show AW _ _ _ _ _ _; first | (show AW _ _ (.region _ _ _) _ _ _; refine sc0 ?_; intro O1) | (refine sc1 ?_; try intro Q1)) | (show (_ → _) ∧ _; refine ⟨fun h => ?_, fun h => ?_⟩) | fail)
      refine al_on (v2_takesE (l := l) (o := o) (m := m) (e := 0) (e' := 3) (n := n) (by omega) i tw) rfl rfl rfl rfl rfl rfl hs ?_
      rintro u L' ⟨rfl, rfl⟩
      repeat' (first | (show AL _ _ _ _ _ _ _ _; first | refine so2 ?_) | (show AW _ _ _ _ _ _; first | (show AW _ _ (.region _ _ _) _ _ _; refine sc0 ?_; intro O1) | (refine sc1 ?_; try intro Q1)) | (show (_ → _) ∧ _; refine ⟨fun h => ?_, fun h => ?_⟩) | fail)
      exact ret_on (L' := [(i, .cells [tvT tw o m, .int .i64 3]), (tw, .cells (l.map bT))]) (Ab rfl Ac) hs (.refl _) rfl ⟨o, m, h, rfl, rfl, rfl⟩
  · have hh : rdB ⟨win l o m, e⟩ = ([], ⟨win l o m, e⟩) := by rw [rdB, if_neg he]
    rw [hh]
    refine Ad (N := 24) (rs := [.tmp 2]) hG Try.func87 rfl rfl rfl rfl rfl ?_
    repeat' (first | (show AL _ _ _ _ _ _ _ _; first | refine so2 ?_) | (show AW _ _ _ _ _ _; first | (show AW _ _ (.region _ _ _) _ _ _; refine sc0 ?_; intro O1) | (refine sc1 ?_; try intro Q1)) | (show (_ → _) ∧ _; refine ⟨fun h => ?_, fun h => ?_⟩) | fail)
    exact ret_on (L' := [(i, .cells [tvT tw o m, .int .i64 e]), (tw, .cells (l.map bT))]) (Ab rfl Ac) hs (.nil 1) rfl ⟨o, m, h, rfl, rfl, rfl⟩
theorem v2_cats {r : RS} {l : List UInt8} {o m : Nat} (h : o + m ≤ l.length) (hr : win l o m = r.b) (hl : l.length ≤ 4294967296) (i tw : Nat) :
    OnL Try.prog 102 [.ptr i 0] [(i, .cells [tvT tw o m, .int .i64 r.e]), (tw, .cells (l.map bT))] (fun u L => ∃ o' m', o' + m' ≤ l.length ∧ win l o' m' = (rdC r).2.b ∧ u = cT (rdC r).1 ∧ L = [(i, .cells [tvT tw o' m', .int .i64 (rdC r).2.e]), (tw, .cells (l.map bT))]) := by
  intro off
  obtain ⟨b, e⟩ := r
  dsimp only at hr ⊢
  subst hr
  have hb := win_len h
  by_cases he : e = 0
  · subst he
    have hc := cats_Take_v h (by omega) tw
    have h3 := takeC_3 (win l o m)
    have hh : rdC ⟨win l o m, 0⟩ = (if (Ag (win l o m)).2.2 = 0 then ((Ag (win l o m)).1, ⟨(win l o m).drop (Ag (win l o m)).2.1, 0⟩) else ([], ⟨win l o m, (Ag (win l o m)).2.2⟩)) := by rw [rdC, if_pos rfl]
    have hz : (Ag (win l o m)).2.2 ≠ 0 → (Ag (win l o m)).1 = [] := takeC_no
    generalize Ag (win l o m) = t at *
    obtain ⟨s, n, e⟩ := t
    dsimp only at *
    by_cases h1 : e = 0
    · subst h1
      rw [if_pos rfl] at hh
      rw [hh]
      refine Ad (N := 24) (rs := [.tmp 2]) hG Try.func102 rfl rfl rfl rfl rfl ?_
      repeat' (first | (show AL _ _ _ _ _ _ _ _; first | refine so2 ?_ | refine al_onS hc Y Y Y Y Y hs ?_) | (show AW _ _ _ _ _ _; first | (show AW _ _ (.region _ _ _) _ _ _; refine sc0 ?_; intro O1) | (refine sc1 ?_; try intro Q1)) | (show (_ → _) ∧ _; refine ⟨fun h => ?_, fun h => ?_⟩) | fail)
      refine al_on (v2_takesO (l := l) (o := o) (m := m) (e := 0) (n := n) (by omega) i tw) rfl rfl rfl rfl rfl rfl hs ?_
      rintro u L' ⟨rfl, rfl⟩
      repeat' (first | (show AL _ _ _ _ _ _ _ _; first | refine so2 ?_) | (show AW _ _ _ _ _ _; first | (show AW _ _ (.region _ _ _) _ _ _; refine sc0 ?_; intro O1) | (refine sc1 ?_; try intro Q1)) | (show (_ → _) ∧ _; refine ⟨fun h => ?_, fun h => ?_⟩) | fail)
      exact ret_on (L' := [(i, .cells [tvT tw (o + n) (m - n), .int .i64 0]), (tw, .cells (l.map bT))]) (Ab rfl Ac) hs (.refl _) rfl ⟨o + n, m - n, by omega, win_drop.symm, rfl, rfl⟩
    · rw [if_neg h1] at hh
      rw [hh]
      obtain rfl := hz h1
      refine Ad (N := 24) (rs := [.tmp 2]) hG Try.func102 rfl rfl rfl rfl rfl ?_
      repeat' (first | (show AL _ _ _ _ _ _ _ _; first | refine so2 ?_ | refine al_onS hc Y Y Y Y Y hs ?_) | (show AW _ _ _ _ _ _; first | (show AW _ _ (.region _ _ _) _ _ _; refine sc0 ?_; intro O1) | (refine sc1 ?_; try intro Q1)) | (show (_ → _) ∧ _; refine ⟨fun h => ?_, fun h => ?_⟩) | fail)
      refine al_on (v2_takesE (l := l) (o := o) (m := m) (e := 0) (e' := e) (n := n) (by omega) i tw) rfl rfl rfl rfl rfl rfl hs ?_
      rintro u L' ⟨rfl, rfl⟩
      repeat' (first | (show AL _ _ _ _ _ _ _ _; first | refine so2 ?_) | (show AW _ _ _ _ _ _; first | (show AW _ _ (.region _ _ _) _ _ _; refine sc0 ?_; intro O1) | (refine sc1 ?_; try intro Q1)) | (show (_ → _) ∧ _; refine ⟨fun h => ?_, fun h => ?_⟩) | fail)
      exact ret_on (L' := [(i, .cells [tvT tw o m, .int .i64 e]), (tw, .cells (l.map bT))]) (Ab rfl Ac) hs (.refl _) rfl ⟨o, m, h, rfl, rfl, rfl⟩
  · have hh : rdC ⟨win l o m, e⟩ = ([], ⟨win l o m, e⟩) := by rw [rdC, if_neg he]
    rw [hh]
    refine Ad (N := 24) (rs := [.tmp 2]) hG Try.func102 rfl rfl rfl rfl rfl ?_
    repeat' (first | (show AL _ _ _ _ _ _ _ _; first | refine so2 ?_) | (show AW _ _ _ _ _ _; first | (show AW _ _ (.region _ _ _) _ _ _; refine sc0 ?_; intro O1) | (refine sc1 ?_; try intro Q1)) | (show (_ → _) ∧ _; refine ⟨fun h => ?_, fun h => ?_⟩) | fail)
    exact ret_on (L' := [(i, .cells [tvT tw o m, .int .i64 e]), (tw, .cells (l.map bT))]) (Ab rfl Ac) hs (.nil 1) rfl ⟨o, m, h, rfl, rfl, rfl⟩
end Go.Proofs.Ythfgocinlbogeaa
set_option maxHeartbeats 4000000
namespace Go.Proofs.Ythfgocinlbogeaa
open Go.Ts Go.Sets
set_option linter.unusedSimpArgs false
set_option linter.unusedVariables false
attribute [local irreducible] Go.Ts.AW Go.Ts.AOps Go.Ts.AL Go.Ts.AOp Go.Ts.ACalls Go.Ts.DL Go.Ts.DQ Go.Ts.DQ0 Go.Ts.EL
theorem cats_Take_vis {l : List UInt8} {o m n : Nat} (h : o + m ≤ l.length) (hl : m ≤ 4294967296) (tw : Nat) (hn : n ≤ m) {a : List UInt16} {k : Nat} {e : Int} (ht : Ag ((win l o m).drop n) = (a, k, e)) :
    OnL Try.prog 115 [tvT tw (o + n) (m - n)] [(tw, .cells (l.map bT))] (fun u L => u = .tup [cT a, .int .i64 k, .int .i64 e] ∧ L = [(tw, .cells (l.map bT))]) := by
  have hc := cats_Take_v (l := l) (o := o + n) (m := m - n) (by omega) (by omega) tw
  rw [← win_drop, ht] at hc
  exact hc
set_option maxHeartbeats 9000000 in
theorem scode_Take_v {l : List UInt8} {o m : Nat} (h : o + m ≤ l.length) (hl : m ≤ 4294967296) (tw : Nat) :
    OnL Try.prog 101 [tvT tw o m] [(tw, .cells (l.map bT))] (fun u L => u = tsT (takeS (win l o m)) ∧ L = [(tw, .cells (l.map bT))]) := by
  intro off
  have hsl := win_len h
  refine Ad (N := 44) (rs := [.cell 2 46, .tmp 3, .tmp 4]) hG Try.func101 rfl rfl rfl rfl rfl ?_
  repeat' (first | (show AL _ _ _ _ _ _ _ _; first | refine so2 ?_ | (refine sb ?_; intro i)) | (show AW _ _ _ _ _ _; first | (show AW _ _ (.region _ _ _) _ _ _; refine sc0 ?_; intro O1) | (refine sc1 ?_; try intro Q1)) | (show (_ → _) ∧ _; refine ⟨fun h => ?_, fun h => ?_⟩) | fail)
  refine aw_scope' 0 rfl (X := STX (win l o m))
    (fun x => [(0, tvT tw o m), (2, .ptr x.i 0), (3, .int .i64 x.n), (5, match x.j with
      | 0 => .sl 1 .no [.ptr x.i 0, .ptr x.i 1, .ptr x.i 2]
      | 1 => .sl 1 .no [.ptr x.i 1, .ptr x.i 2]
      | 2 => .sl 1 .no [.ptr x.i 2]
      | _ => .sl 1 .no [])])
    (fun x => ⟨[(x.i, .cells (match x.j with
      | 0 => [.nilsl, .nilsl, .nilsl]
      | 1 => [cT x.a, .nilsl, .nilsl]
      | 2 => [cT x.a, cT x.b, .nilsl]
      | _ => [cT x.a, cT x.b, cT x.c])), (tw, .cells (l.map bT))], [], off, none⟩) (fun x => 3 - x.j) ?_ ?_
  · rintro ⟨j, i, a, b, c, n, n1, n2, hj, hn, g1, g2, g3, e0, e1, e2⟩
    have l3 : ([.ptr i 0, .ptr i 1, .ptr i 2] : List T).length = 3 := rfl
    have l2 : ([.ptr i 1, .ptr i 2] : List T).length = 2 := rfl
    have l1 : ([.ptr i 2] : List T).length = 1 := rfl
    have l0 : ([] : List T).length = 0 := rfl
    have hdn : ∀ n, ((win l o m).drop n).length = m - n := fun n => by rw [List.length_drop, hsl]
    rcases (by omega : j = 0 ∨ j = 1 ∨ j = 2 ∨ j = 3) with rfl | rfl | rfl | rfl
    · obtain rfl := e0 rfl
      dsimp only
      clear g1 g2 g3 e0 e1 e2
      rcases ht : Ag (win l o m) with ⟨a', n', e⟩
      have hc := cats_Take_vis h hl tw (Nat.zero_le m) (by rw [List.drop_zero, ht])
      by_cases he : e = 0
      · subst he
        have hu := Av ht
        repeat' (first | (show AL _ _ _ _ _ _ _ _; (fail_if_success show AL _ _ _ _ _ (⟨_, .slice _ _ _ _ _, _, _, _, _⟩ :: _) _ _); first | refine so2 ?_ | (refine sb ?_; intro i)) | (show AW _ _ _ _ _ _; first | (show AW _ _ (.region _ _ _) _ _ _; refine sc0 ?_; intro O1) | (refine sc1 ?_; try intro Q1)) | (show (_ → _) ∧ _; refine ⟨fun h => ?_, fun h => ?_⟩) | fail)
        refine Ap rfl (r_tvS (l := 0) hG rfl rfl rfl rfl rfl rfl rfl (by omega) ?_)
        repeat' (first | (show AL _ _ _ _ _ _ _ _; first | refine so2 ?_ | refine al_onS hc Y Y Y Y Y hs ?_ | (refine sb ?_; intro i)) | (show AW _ _ _ _ _ _; first | (show AW _ _ (.region _ _ _) _ _ _; refine sc0 ?_; intro O1) | (refine sc1 ?_; try intro Q1)) | (show (_ → _) ∧ _; refine ⟨fun h => ?_, fun h => ?_⟩) | fail)
        refine ⟨rfl, ⟨1, i, a', [], [], n', n', 0, by omega, by omega, fun _ => ht, fun h => by omega, fun h => by omega, fun h => by omega, fun _ => rfl, fun h => by omega⟩, by dsimp only; omega, ?_, .refl _⟩
        exact .cons rfl (.cons rfl (.consW rfl (.int (by simp)) (.cons rfl (.nil _))))
      · repeat' (first | (show AL _ _ _ _ _ _ _ _; (fail_if_success show AL _ _ _ _ _ (⟨_, .slice _ _ _ _ _, _, _, _, _⟩ :: _) _ _); first | refine so2 ?_ | (refine sb ?_; intro i)) | (show AW _ _ _ _ _ _; first | (show AW _ _ (.region _ _ _) _ _ _; refine sc0 ?_; intro O1) | (refine sc1 ?_; try intro Q1)) | (show (_ → _) ∧ _; refine ⟨fun h => ?_, fun h => ?_⟩) | fail)
        refine Ap rfl (r_tvS (l := 0) hG rfl rfl rfl rfl rfl rfl rfl (by omega) ?_)
        repeat' (first | (show AL _ _ _ _ _ _ _ _; first | refine so2 ?_ | refine al_onS hc Y Y Y Y Y hs ?_ | (refine sb ?_; intro i)) | (show AW _ _ _ _ _ _; first | (show AW _ _ (.region _ _ _) _ _ _; refine sc0 ?_; intro O1) | (refine sc1 ?_; try intro Q1)) | (show (_ → _) ∧ _; refine ⟨fun h => ?_, fun h => ?_⟩) | fail)
        refine ret_on (L' := [(tw, .cells (l.map bT))]) (res_cellM rfl hs (by exact rfl) (Ab rfl (Ab rfl Ac))) hs ?_ rfl ⟨rfl, rfl⟩
        rw [takeS_1 ht he]
        exact Wk.tupL (wk3 sets_nil (.refl _) (.refl _))
    · obtain rfl := e1 rfl
      have h1 := g1 (Nat.le_refl 1)
      dsimp only
      clear g1 g2 g3 e0 e1 e2
      have hu1 := Av h1
      rcases ht : Ag ((win l o m).drop n) with ⟨a', n', e⟩
      have hc := cats_Take_vis h hl tw (by omega) ht
      have hd1 := hdn n
      by_cases he : e = 0
      · subst he
        have hu := Av ht
        repeat' (first | (show AL _ _ _ _ _ _ _ _; (fail_if_success show AL _ _ _ _ _ (⟨_, .slice _ _ _ _ _, _, _, _, _⟩ :: _) _ _); first | refine so2 ?_ | (refine sb ?_; intro i)) | (show AW _ _ _ _ _ _; first | (show AW _ _ (.region _ _ _) _ _ _; refine sc0 ?_; intro O1) | (refine sc1 ?_; try intro Q1)) | (show (_ → _) ∧ _; refine ⟨fun h => ?_, fun h => ?_⟩) | fail)
        refine Ap rfl (r_tvS (l := n) hG rfl rfl rfl rfl rfl rfl rfl (by omega) ?_)
        repeat' (first | (show AL _ _ _ _ _ _ _ _; first | refine so2 ?_ | refine al_onS hc Y Y Y Y Y hs ?_ | (refine sb ?_; intro i)) | (show AW _ _ _ _ _ _; first | (show AW _ _ (.region _ _ _) _ _ _; refine sc0 ?_; intro O1) | (refine sc1 ?_; try intro Q1)) | (show (_ → _) ∧ _; refine ⟨fun h => ?_, fun h => ?_⟩) | fail)
        refine ⟨rfl, ⟨2, i, a, a', [], n + n', n, n', by omega, by omega, fun _ => h1, fun _ => ht, fun h => by omega, fun h => by omega, fun h => by omega, fun _ => rfl⟩, by dsimp only; omega, ?_, .refl _⟩
        exact .cons rfl (.cons rfl (.consW rfl (.int (by simp)) (.cons rfl (.nil _))))
      · repeat' (first | (show AL _ _ _ _ _ _ _ _; (fail_if_success show AL _ _ _ _ _ (⟨_, .slice _ _ _ _ _, _, _, _, _⟩ :: _) _ _); first | refine so2 ?_ | (refine sb ?_; intro i)) | (show AW _ _ _ _ _ _; first | (show AW _ _ (.region _ _ _) _ _ _; refine sc0 ?_; intro O1) | (refine sc1 ?_; try intro Q1)) | (show (_ → _) ∧ _; refine ⟨fun h => ?_, fun h => ?_⟩) | fail)
        refine Ap rfl (r_tvS (l := n) hG rfl rfl rfl rfl rfl rfl rfl (by omega) ?_)
        repeat' (first | (show AL _ _ _ _ _ _ _ _; first | refine so2 ?_ | refine al_onS hc Y Y Y Y Y hs ?_ | (refine sb ?_; intro i)) | (show AW _ _ _ _ _ _; first | (show AW _ _ (.region _ _ _) _ _ _; refine sc0 ?_; intro O1) | (refine sc1 ?_; try intro Q1)) | (show (_ → _) ∧ _; refine ⟨fun h => ?_, fun h => ?_⟩) | fail)
        refine ret_on (L' := [(tw, .cells (l.map bT))]) (res_cellM rfl hs (by exact rfl) (Ab rfl (Ab rfl Ac))) hs ?_ rfl ⟨rfl, rfl⟩
        rw [takeS_2 h1 ht he]
        exact Wk.tupL (wk3 sets_nil (.refl _) (.refl _))
    · obtain rfl := e2 rfl
      have h1 := g1 (by decide)
      have h2 := g2 (by decide)
      dsimp only
      clear g1 g2 g3 e0 e1 e2
      have hu1 := Av h1
      have hu2 := Av h2
      have hd1 := hdn n1
      have hd2 := hdn (n1 + n2)
      rcases ht : Ag ((win l o m).drop (n1 + n2)) with ⟨a', n', e⟩
      have hc := cats_Take_vis h hl tw (by omega) ht
      by_cases he : e = 0
      · subst he
        have hu := Av ht
        repeat' (first | (show AL _ _ _ _ _ _ _ _; (fail_if_success show AL _ _ _ _ _ (⟨_, .slice _ _ _ _ _, _, _, _, _⟩ :: _) _ _); first | refine so2 ?_ | (refine sb ?_; intro i)) | (show AW _ _ _ _ _ _; first | (show AW _ _ (.region _ _ _) _ _ _; refine sc0 ?_; intro O1) | (refine sc1 ?_; try intro Q1)) | (show (_ → _) ∧ _; refine ⟨fun h => ?_, fun h => ?_⟩) | fail)
        refine Ap rfl (r_tvS (l := n1 + n2) hG rfl rfl rfl rfl rfl rfl rfl (by omega) ?_)
        repeat' (first | (show AL _ _ _ _ _ _ _ _; first | refine so2 ?_ | refine al_onS hc Y Y Y Y Y hs ?_ | (refine sb ?_; intro i)) | (show AW _ _ _ _ _ _; first | (show AW _ _ (.region _ _ _) _ _ _; refine sc0 ?_; intro O1) | (refine sc1 ?_; try intro Q1)) | (show (_ → _) ∧ _; refine ⟨fun h => ?_, fun h => ?_⟩) | fail)
        refine ⟨rfl, ⟨3, i, a, b, a', n1 + n2 + n', n1, n2, by omega, by omega, fun _ => h1, fun _ => h2, fun _ => ⟨n', ht, rfl⟩, fun h => by omega, fun h => by omega, fun h => by omega⟩, by dsimp only; omega, ?_, .refl _⟩
        exact .cons rfl (.cons rfl (.consW rfl (.int (by simp)) (.cons rfl (.nil _))))
      · repeat' (first | (show AL _ _ _ _ _ _ _ _; (fail_if_success show AL _ _ _ _ _ (⟨_, .slice _ _ _ _ _, _, _, _, _⟩ :: _) _ _); first | refine so2 ?_ | (refine sb ?_; intro i)) | (show AW _ _ _ _ _ _; first | (show AW _ _ (.region _ _ _) _ _ _; refine sc0 ?_; intro O1) | (refine sc1 ?_; try intro Q1)) | (show (_ → _) ∧ _; refine ⟨fun h => ?_, fun h => ?_⟩) | fail)
        refine Ap rfl (r_tvS (l := n1 + n2) hG rfl rfl rfl rfl rfl rfl rfl (by omega) ?_)
        repeat' (first | (show AL _ _ _ _ _ _ _ _; first | refine so2 ?_ | refine al_onS hc Y Y Y Y Y hs ?_ | (refine sb ?_; intro i)) | (show AW _ _ _ _ _ _; first | (show AW _ _ (.region _ _ _) _ _ _; refine sc0 ?_; intro O1) | (refine sc1 ?_; try intro Q1)) | (show (_ → _) ∧ _; refine ⟨fun h => ?_, fun h => ?_⟩) | fail)
        refine ret_on (L' := [(tw, .cells (l.map bT))]) (res_cellM rfl hs (by exact rfl) (Ab rfl (Ab rfl Ac))) hs ?_ rfl ⟨rfl, rfl⟩
        rw [takeS_3 h1 h2 ht he]
        exact Wk.tupL (wk3 sets_nil (.refl _) (.refl _))
    · have h1 := g1 (by decide)
      have h2 := g2 (by decide)
      obtain ⟨n3, h3, hn3⟩ := g3 (by decide)
      dsimp only
      clear g1 g2 g3 e0 e1 e2
      subst hn3
      have hu1 := Av h1
      have hu2 := Av h2
      have hu3 := Av h3
      have hm := sets_May (catsT_c a) (catsT_c b) (catsT_c c) (by omega) (by omega) (by omega)
      cases q : Ay a b c <;> rw [q] at hm
      · repeat' (first | (show AL _ _ _ _ _ _ _ _; first | refine so2 ?_ | refine sp Y Y Y Y Y Y (by apply hm <;> exact sd) ?_ | (refine sb ?_; intro i)) | (show AW _ _ _ _ _ _; first | (show AW _ _ (.region _ _ _) _ _ _; refine sc0 ?_; intro O1) | (refine sc1 ?_; try intro Q1)) | (show (_ → _) ∧ _; refine ⟨fun h => ?_, fun h => ?_⟩) | fail)
        refine ret_on (L' := [(tw, .cells (l.map bT))]) (res_cellM rfl hs (by exact rfl) (Ab rfl (Ab rfl Ac))) hs ?_ rfl ⟨rfl, rfl⟩
        rw [takeS_4 h1 h2 h3, q]
        exact Wk.tupL (wk3 sets_nil (.refl _) (.refl _))
      · repeat' (first | (show AL _ _ _ _ _ _ _ _; first | refine so2 ?_ | refine sp Y Y Y Y Y Y (by apply hm <;> exact sd) ?_ | (refine sb ?_; intro i)) | (show AW _ _ _ _ _ _; first | (show AW _ _ (.region _ _ _) _ _ _; refine sc0 ?_; intro O1) | (refine sc1 ?_; try intro Q1)) | (show (_ → _) ∧ _; refine ⟨fun h => ?_, fun h => ?_⟩) | fail)
        refine ret_on (L' := [(tw, .cells (l.map bT))]) (res_cellM rfl hs (by exact rfl) (Ab rfl (Ab rfl Ac))) hs ?_ rfl ⟨rfl, rfl⟩
        rw [takeS_4 h1 h2 h3, q]
        exact .refl _
  · intro key
    repeat' (first | (show AL _ _ _ _ _ _ _ _; first | refine so2 ?_ | (refine sb ?_; intro i)) | (show AW _ _ _ _ _ _; first | (show AW _ _ (.region _ _ _) _ _ _; refine sc0 ?_; intro O1) | (refine sc1 ?_; try intro Q1)) | (show (_ → _) ∧ _; refine ⟨fun h => ?_, fun h => ?_⟩) | fail)
    refine aw_label ?_
    show AW _ _ _ _ _ _
    refine aw_forget ?_ (key ⟨0, i, [], [], [], 0, 0, 0, by omega, by omega, fun h => by omega, fun h => by omega, fun h => by omega, fun _ => rfl, fun h => by omega, fun h => by omega⟩)
    exact .cons rfl (.cons rfl (.cons rfl (.consW rfl (Wk.own _ _ _) (.nil _))))
end Go.Proofs.Ythfgocinlbogeaa
set_option maxHeartbeats 4000000
namespace Go.Proofs.Ythfgocinlbogeaa
open Go.Ts Go.Sets
set_option linter.unusedSimpArgs false
set_option linter.unusedVariables false
attribute [local irreducible] Go.Ts.AW Go.Ts.AOps Go.Ts.AL Go.Ts.AOp Go.Ts.ACalls Go.Ts.DL Go.Ts.DQ Go.Ts.DQ0 Go.Ts.EL
theorem v2_label {r : RS} {l : List UInt8} {o m : Nat} {c0 c1 c2 c3 c4 c5 c6 c7 c11 c12 : T} (h : o + m ≤ l.length) (hr : win l o m = r.b) (hl : l.length ≤ 4294967296) (i j tw : Nat) :
    OnL Try.prog 85 [.ptr i 0, .ptr j 0] [(i, .cells [tvT tw o m, .int .i64 r.e]), (j, .cells [c0, c1, c2, c3, c4, c5, c6, c7, .nilsl, .nilsl, .nilsl, c11, c12]), (tw, .cells (l.map bT))] (fun u L => ∃ o' m' S I O, o' + m' ≤ l.length ∧ win l o' m' = (rdS r).2.b ∧ Wk S (cT (rdS r).1.s) ∧ Wk I (cT (rdS r).1.i) ∧ Wk O (cT (rdS r).1.o) ∧ (S.scalar && I.scalar && O.scalar) = true ∧ u = .tup [] ∧ L = [(i, .cells [tvT tw o' m', .int .i64 (rdS r).2.e]), (j, .cells [c0, c1, c2, c3, c4, c5, c6, c7, S, I, O, c11, c12]), (tw, .cells (l.map bT))]) := by
  intro off
  obtain ⟨b, e⟩ := r
  dsimp only at hr ⊢
  subst hr
  have hb := win_len h
  by_cases he : e = 0
  · subst he
    have hc := scode_Take_v h (by omega) tw
    have hsm := takeS_small (win l o m)
    have hh : rdS ⟨win l o m, 0⟩ = (if (takeS (win l o m)).e = 0 then (⟨(takeS (win l o m)).a, (takeS (win l o m)).b, (takeS (win l o m)).c⟩, ⟨(win l o m).drop (takeS (win l o m)).n, 0⟩) else (⟨[], [], []⟩, ⟨win l o m, (takeS (win l o m)).e⟩)) := by rw [rdS, if_pos rfl]
    have hz := takeS_no (s := win l o m)
    generalize takeS (win l o m) = t at *
    obtain ⟨ta, tb, tc, n, e⟩ := t
    unfold tsT at hc
    dsimp only at *
    by_cases h1 : e = 0
    · subst h1
      rw [if_pos rfl] at hh
      rw [hh]
      refine Ad (N := 29) (rs := []) hG Try.func85 rfl rfl rfl rfl rfl ?_
      repeat' (first | (show AL _ _ _ _ _ _ _ _; first | refine so2 ?_ | refine al_onS hc Y Y Y Y Y hs ?_ | (refine sb ?_; intro bx)) | (show AW _ _ _ _ _ _; first | (show AW _ _ (.region _ _ _) _ _ _; refine sc0 ?_; intro O1) | (refine sc1 ?_; try intro Q1)) | (show (_ → _) ∧ _; refine ⟨fun h => ?_, fun h => ?_⟩) | fail)
      refine al_on (v2_takesO (l := l) (o := o) (m := m) (e := 0) (n := n) (by have := hsm.2.2.2; omega) i tw) rfl rfl rfl rfl rfl rfl hs ?_
      rintro u L' ⟨rfl, rfl⟩
      repeat' (first | (show AL _ _ _ _ _ _ _ _; first | refine so2 ?_ | (refine sb ?_; intro i)) | (show AW _ _ _ _ _ _; first | (show AW _ _ (.region _ _ _) _ _ _; refine sc0 ?_; intro O1) | (refine sc1 ?_; try intro Q1)) | (show (_ → _) ∧ _; refine ⟨fun h => ?_, fun h => ?_⟩) | fail)
      refine al_nil ?_
      exact A2 (L' := [(i, .cells [tvT tw (o + n) (m - n), .int .i64 0]), (j, .cells _), (tw, .cells (l.map bT))]) Ac hs (.refl _) rfl ⟨o + n, m - n, _, _, _, by omega, win_drop.symm, .refl _, .refl _, .refl _, rfl, rfl, rfl⟩
    · rw [if_neg h1] at hh
      rw [hh]
      obtain ⟨rfl, rfl, rfl, rfl⟩ := hz h1
      refine Ad (N := 29) (rs := []) hG Try.func85 rfl rfl rfl rfl rfl ?_
      repeat' (first | (show AL _ _ _ _ _ _ _ _; first | refine so2 ?_ | refine al_onS hc Y Y Y Y Y hs ?_ | (refine sb ?_; intro bx)) | (show AW _ _ _ _ _ _; first | (show AW _ _ (.region _ _ _) _ _ _; refine sc0 ?_; intro O1) | (refine sc1 ?_; try intro Q1)) | (show (_ → _) ∧ _; refine ⟨fun h => ?_, fun h => ?_⟩) | fail)
      refine al_on (v2_takesE (l := l) (o := o) (m := m) (e := 0) (e' := e) (n := 0) (by omega) i tw) rfl rfl rfl rfl rfl rfl hs ?_
      rintro u L' ⟨rfl, rfl⟩
      repeat' (first | (show AL _ _ _ _ _ _ _ _; first | refine so2 ?_ | (refine sb ?_; intro i)) | (show AW _ _ _ _ _ _; first | (show AW _ _ (.region _ _ _) _ _ _; refine sc0 ?_; intro O1) | (refine sc1 ?_; try intro Q1)) | (show (_ → _) ∧ _; refine ⟨fun h => ?_, fun h => ?_⟩) | fail)
      refine al_nil ?_
      exact A2 (L' := [(i, .cells [tvT tw o m, .int .i64 e]), (j, .cells _), (tw, .cells (l.map bT))]) Ac hs (.refl _) rfl ⟨o, m, _, _, _, h, rfl, .refl _, .refl _, .refl _, rfl, rfl, rfl⟩
  · have hh : rdS ⟨win l o m, e⟩ = (⟨[], [], []⟩, ⟨win l o m, e⟩) := by rw [rdS, if_neg he]
    rw [hh]
    refine Ad (N := 29) (rs := []) hG Try.func85 rfl rfl rfl rfl rfl ?_
    repeat' (first | (show AL _ _ _ _ _ _ _ _; first | refine so2 ?_ | (refine sb ?_; intro i)) | (show AW _ _ _ _ _ _; first | (show AW _ _ (.region _ _ _) _ _ _; refine sc0 ?_; intro O1) | (refine sc1 ?_; try intro Q1)) | (show (_ → _) ∧ _; refine ⟨fun h => ?_, fun h => ?_⟩) | fail)
    refine aw_skip ?_
    exact A2 (L' := [(i, .cells [tvT tw o m, .int .i64 e]), (j, .cells _), (tw, .cells (l.map bT))]) Ac hs (.refl _) rfl ⟨o, m, _, _, _, h, rfl, .nil 1, .nil 1, .nil 1, rfl, rfl, rfl⟩
set_option maxHeartbeats 9000000 in
theorem v2_fresh {r : RS} {l : List UInt8} {o0 m0 : Nat} {op : Nat} (h0 : o0 + m0 ≤ l.length) (w0 : win l o0 m0 = r.b) (hl : l.length ≤ 4294967296) (i j tw : Nat) :
    OnL Try.prog 86 [.ptr i 0, .ptr j 0] [(i, .cells [tvT tw o0 m0, .int .i64 r.e]), (j, .cells [.int .i64 op, .int .i64 0, .int .u64 0, .int .u64 0, .int .i64 0, .int .i64 0, .int .u8 0, .nilsl, .nilsl, .nilsl, .nilsl, .nilsl, .nilsl]), (tw, .cells (l.map bT))] (fun u L => ∃ o' m' ds', o' + m' ≤ l.length ∧ win l o' m' = (freshF op r).2.b ∧ DS ds' (freshF op r).1 ∧ u = .tup [] ∧ L = [(i, .cells [tvT tw o' m', .int .i64 (freshF op r).2.e]), (j, .cells ds'), (tw, .cells (l.map bT))]) := by
  intro off
  have v1 : (rdN r 1).1 < 256 := rdN_lt r 1
  have v4 : (rdN (rdS (rdN (rdN r 1).2 8).2).2 2).1 < 65536 := rdN_lt _ 2
  refine Ad (N := 44) (rs := []) hG Try.func86 rfl rfl rfl rfl rfl ?_
  repeat' (first | (show AL _ _ _ _ _ _ _ _; first | refine so0 ?_) | (show AW _ _ _ _ _ _; first | (show AW _ _ (.region _ _ _) _ _ _; refine sc0 ?_; intro O1) | (refine sc0 ?_; try intro Q1)) | (show (_ → _) ∧ _; refine ⟨fun h => ?_, fun h => ?_⟩) | fail)
  refine al_on (v2_number (r := r) (n := 1) h0 w0 (by omega) hl i tw) rfl rfl rfl rfl rfl rfl hs ?_
  rintro u9 L9 ⟨o1, m1, h1, w1, rfl, rfl⟩
  repeat' (first | (show AL _ _ _ _ _ _ _ _; first | refine so0 ?_) | (show AW _ _ _ _ _ _; first | (show AW _ _ (.region _ _ _) _ _ _; refine sc0 ?_; intro O1) | (refine sc0 ?_; try intro Q1)) | (show (_ → _) ∧ _; refine ⟨fun h => ?_, fun h => ?_⟩) | fail)
  refine al_on (v2_number (r := (rdN r 1).2) (n := 8) h1 w1 (by omega) hl i tw) rfl rfl rfl rfl rfl rfl hs ?_
  rintro u9 L9 ⟨o2, m2, h2, w2, rfl, rfl⟩
  repeat' (first | (show AL _ _ _ _ _ _ _ _; first | refine so0 ?_) | (show AW _ _ _ _ _ _; first | (show AW _ _ (.region _ _ _) _ _ _; refine sc0 ?_; intro O1) | (refine sc0 ?_; try intro Q1)) | (show (_ → _) ∧ _; refine ⟨fun h => ?_, fun h => ?_⟩) | fail)
  refine al_on (v2_label (r := (rdN (rdN r 1).2 8).2) h2 w2 hl i j tw) rfl rfl rfl rfl rfl rfl hs ?_
  rintro u9 L9 ⟨o3, m3, S, I, O, h3, w3, wS, wI, wO, hsc, rfl, rfl⟩
  have hs1 : S.scalar = true ∧ I.scalar = true ∧ O.scalar = true := by simpa [Bool.and_eq_true, and_assoc] using hsc
  by_cases k1 : (rdN r 1).1 = 1
  · have hF := by have := @freshF.eq_1 op r; rw [if_pos k1] at this; exact this
    repeat' (first | (show AL _ _ _ _ _ _ _ _; first | refine so0 ?_) | (show AW _ _ _ _ _ _; first | (show AW _ _ (.region _ _ _) _ _ _; refine sc0 ?_; intro O1) | (refine sc0 ?_; try intro Q1)) | (show (_ → _) ∧ _; refine ⟨fun h => ?_, fun h => ?_⟩) | fail)
    refine al_on (v2_number (r := (rdS (rdN (rdN r 1).2 8).2).2) (n := 2) h3 w3 (by omega) hl i tw) rfl rfl rfl rfl rfl rfl hs ?_
    rintro u9 L9 ⟨o4, m4, h4, w4, rfl, rfl⟩
    repeat' (first | (show AL _ _ _ _ _ _ _ _; first | refine so0 ?_) | (show AW _ _ _ _ _ _; first | (show AW _ _ (.region _ _ _) _ _ _; refine sc0 ?_; intro O1) | (refine sc0 ?_; try intro Q1)) | (show (_ → _) ∧ _; refine ⟨fun h => ?_, fun h => ?_⟩) | fail)
    refine al_nil ?_
    dsimp (config := { zetaDelta := true }) only [thenA, Ah, jumpA, Ao]
    refine A2 (L' := [(i, .cells [tvT tw o4 m4, .int .i64 (rdN (rdS (rdN (rdN r 1).2 8).2).2 2).2.e]), (j, .cells _), (tw, .cells (l.map bT))]) Ac hs (.refl _) rfl ⟨o4, m4, _, h4, by rw [hF]; exact w4, by rw [hF]; exact ⟨S, I, O, _, _, rfl, wS, wI, wO, .nil 1, .nil 1, by simp only [hs1.1, hs1.2.1, hs1.2.2]; rfl⟩, rfl, by rw [hF] <;> rfl⟩
  by_cases k2 : (rdN r 1).1 = 2
  · have hF := by have := @freshF.eq_1 op r; rw [if_neg k1, if_pos k2] at this; exact this
    repeat' (first | (show AL _ _ _ _ _ _ _ _; first | refine so0 ?_) | (show AW _ _ _ _ _ _; first | (show AW _ _ (.region _ _ _) _ _ _; refine sc0 ?_; intro O1) | (refine sc0 ?_; try intro Q1)) | (show (_ → _) ∧ _; refine ⟨fun h => ?_, fun h => ?_⟩) | fail)
    refine al_on (v2_bytes (r := (rdS (rdN (rdN r 1).2 8).2).2) h3 w3 hl i tw) rfl rfl rfl rfl rfl rfl hs ?_
    rintro u9 L9 ⟨o4, m4, h4, w4, rfl, rfl⟩
    repeat' (first | (show AL _ _ _ _ _ _ _ _; first | refine so0 ?_) | (show AW _ _ _ _ _ _; first | (show AW _ _ (.region _ _ _) _ _ _; refine sc0 ?_; intro O1) | (refine sc0 ?_; try intro Q1)) | (show (_ → _) ∧ _; refine ⟨fun h => ?_, fun h => ?_⟩) | fail)
    refine al_nil ?_
    dsimp (config := { zetaDelta := true }) only [thenA, Ah, jumpA, Ao]
    refine A2 (L' := [(i, .cells [tvT tw o4 m4, .int .i64 (rdB (rdS (rdN (rdN r 1).2 8).2).2).2.e]), (j, .cells _), (tw, .cells (l.map bT))]) Ac hs (.refl _) rfl ⟨o4, m4, _, h4, by rw [hF]; exact w4, by rw [hF]; exact ⟨S, I, O, _, _, rfl, wS, wI, wO, .refl _, .nil 1, by simp only [hs1.1, hs1.2.1, hs1.2.2]; rfl⟩, rfl, by rw [hF] <;> rfl⟩
  by_cases k3 : (rdN r 1).1 = 3
  · have hF := by have := @freshF.eq_1 op r; rw [if_neg k1, if_neg k2, if_pos k3] at this; exact this
    repeat' (first | (show AL _ _ _ _ _ _ _ _; first | refine so0 ?_) | (show AW _ _ _ _ _ _; first | (show AW _ _ (.region _ _ _) _ _ _; refine sc0 ?_; intro O1) | (refine sc0 ?_; try intro Q1)) | (show (_ → _) ∧ _; refine ⟨fun h => ?_, fun h => ?_⟩) | fail)
    refine al_on (v2_cats (r := (rdS (rdN (rdN r 1).2 8).2).2) h3 w3 hl i tw) rfl rfl rfl rfl rfl rfl hs ?_
    rintro u9 L9 ⟨o4, m4, h4, w4, rfl, rfl⟩
    repeat' (first | (show AL _ _ _ _ _ _ _ _; first | refine so0 ?_) | (show AW _ _ _ _ _ _; first | (show AW _ _ (.region _ _ _) _ _ _; refine sc0 ?_; intro O1) | (refine sc0 ?_; try intro Q1)) | (show (_ → _) ∧ _; refine ⟨fun h => ?_, fun h => ?_⟩) | fail)
    refine al_nil ?_
    dsimp (config := { zetaDelta := true }) only [thenA, Ah, jumpA, Ao]
    refine A2 (L' := [(i, .cells [tvT tw o4 m4, .int .i64 (rdC (rdS (rdN (rdN r 1).2 8).2).2).2.e]), (j, .cells _), (tw, .cells (l.map bT))]) Ac hs (.refl _) rfl ⟨o4, m4, _, h4, by rw [hF]; exact w4, by rw [hF]; exact ⟨S, I, O, _, _, rfl, wS, wI, wO, .nil 1, .refl _, by simp only [hs1.1, hs1.2.1, hs1.2.2]; rfl⟩, rfl, by rw [hF] <;> rfl⟩
  · have hF := by have := @freshF.eq_1 op r; rw [if_neg k1, if_neg k2, if_neg k3] at this; exact this
    repeat' (first | (show AL _ _ _ _ _ _ _ _; first | refine so0 ?_) | (show AW _ _ _ _ _ _; first | (show AW _ _ (.region _ _ _) _ _ _; refine sc0 ?_; intro O1) | (refine sc0 ?_; try intro Q1)) | (show (_ → _) ∧ _; refine ⟨fun h => ?_, fun h => ?_⟩) | fail)
    refine aw_skip ?_
    dsimp (config := { zetaDelta := true }) only [thenA, Ah, jumpA, Ao]
    refine A2 (L' := [(i, .cells [tvT tw o3 m3, .int .i64 (rdS (rdN (rdN r 1).2 8).2).2.e]), (j, .cells _), (tw, .cells (l.map bT))]) Ac hs (.refl _) rfl ⟨o3, m3, _, h3, by rw [hF]; exact w3, by rw [hF]; exact ⟨S, I, O, _, _, rfl, wS, wI, wO, .nil 1, .nil 1, by simp only [hs1.1, hs1.2.1, hs1.2.2]; rfl⟩, rfl, by rw [hF] <;> rfl⟩
set_option maxHeartbeats 9000000 in
theorem v2_call {r : RS} {l : List UInt8} {o0 m0 : Nat} {op : Nat} (h0 : o0 + m0 ≤ l.length) (w0 : win l o0 m0 = r.b) (hl : l.length ≤ 4294967296) (i j tw : Nat) :
    OnL Try.prog 61 [.ptr i 0, .ptr j 0] [(i, .cells [tvT tw o0 m0, .int .i64 r.e]), (j, .cells [.int .i64 op, .int .i64 0, .int .u64 0, .int .u64 0, .int .i64 0, .int .i64 0, .int .u8 0, .nilsl, .nilsl, .nilsl, .nilsl, .nilsl, .nilsl]), (tw, .cells (l.map bT))] (fun u L => ∃ o' m' ds', o' + m' ≤ l.length ∧ win l o' m' = (Aj op r).2.b ∧ DS ds' (Aj op r).1 ∧ u = .tup [] ∧ L = [(i, .cells [tvT tw o' m', .int .i64 (Aj op r).2.e]), (j, .cells ds'), (tw, .cells (l.map bT))]) := by
  intro off
  have v2 : (rdN (rdN r 8).2 2).1 < 65536 := rdN_lt _ 2
  have v3 : (rdN (rdN (rdN r 8).2 2).2 2).1 < 65536 := rdN_lt _ 2
  have v4 : (rdN (rdN (rdN r 8).2 8).2 2).1 < 65536 := rdN_lt _ 2
  by_cases k0 : op = 2
  · have hF := by have := @Aj.eq_1 op r; rw [if_pos k0] at this; exact this
    refine Ad (N := 107) (rs := []) hG Try.func61 rfl rfl rfl rfl rfl ?_
    repeat' (first | (show AL _ _ _ _ _ _ _ _; first | refine so0 ?_) | (show AW _ _ _ _ _ _; first | (show AW _ _ (.region _ _ _) _ _ _; refine sc0 ?_; intro O1) | (refine sc0 ?_; try intro Q1)) | (show (_ → _) ∧ _; refine ⟨fun h => ?_, fun h => ?_⟩) | fail)
    refine al_on (v2_label (r := r) h0 w0 hl i j tw) rfl rfl rfl rfl rfl rfl hs ?_
    rintro u9 L9 ⟨o1, m1, S, I, O, h1, w1, wS, wI, wO, hsc, rfl, rfl⟩
    have hs1 : S.scalar = true ∧ I.scalar = true ∧ O.scalar = true := by simpa [Bool.and_eq_true, and_assoc] using hsc
    repeat' (first | (show AL _ _ _ _ _ _ _ _; first | refine so0 ?_) | (show AW _ _ _ _ _ _; first | (show AW _ _ (.region _ _ _) _ _ _; refine sc0 ?_; intro O1) | (refine sc0 ?_; try intro Q1)) | (show (_ → _) ∧ _; refine ⟨fun h => ?_, fun h => ?_⟩) | fail)
    refine al_nil ?_
    dsimp (config := { zetaDelta := true }) only [thenA, Ah, jumpA, Ao]
    refine A2 (L' := [(i, .cells [tvT tw o1 m1, .int .i64 (rdS r).2.e]), (j, .cells _), (tw, .cells (l.map bT))]) Ac hs (.refl _) rfl ⟨o1, m1, _, h1, by rw [hF]; exact w1, by rw [hF]; exact ⟨_, _, _, _, _, rfl, wS, wI, wO, .nil 1, .nil 1, by simp only [hs1.1, hs1.2.1, hs1.2.2]; rfl⟩, rfl, by rw [hF] <;> rfl⟩
  by_cases k1 : op = 3
  · have hF := by have := @Aj.eq_1 op r; rw [if_neg k0, if_pos k1] at this; exact this
    refine Ad (N := 107) (rs := []) hG Try.func61 rfl rfl rfl rfl rfl ?_
    repeat' (first | (show AL _ _ _ _ _ _ _ _; first | refine so0 ?_) | (show AW _ _ _ _ _ _; first | (show AW _ _ (.region _ _ _) _ _ _; refine sc0 ?_; intro O1) | (refine sc0 ?_; try intro Q1)) | (show (_ → _) ∧ _; refine ⟨fun h => ?_, fun h => ?_⟩) | fail)
    refine al_on (v2_fresh (r := r) (op := op) h0 w0 hl i j tw) rfl rfl rfl rfl rfl rfl hs ?_
    rintro u9 L9 ⟨o1, m1, ds, h1, w1, hD, rfl, rfl⟩
    repeat' (first | (show AL _ _ _ _ _ _ _ _; first | refine so0 ?_) | (show AW _ _ _ _ _ _; first | (show AW _ _ (.region _ _ _) _ _ _; refine sc0 ?_; intro O1) | (refine sc0 ?_; try intro Q1)) | (show (_ → _) ∧ _; refine ⟨fun h => ?_, fun h => ?_⟩) | fail)
    refine al_nil ?_
    dsimp (config := { zetaDelta := true }) only [thenA, Ah, jumpA, Ao]
    refine A2 (L' := [(i, .cells [tvT tw o1 m1, .int .i64 (freshF op r).2.e]), (j, .cells _), (tw, .cells (l.map bT))]) Ac hs (.refl _) rfl ⟨o1, m1, _, h1, by rw [hF]; exact w1, by rw [hF]; exact hD, rfl, by rw [hF] <;> rfl⟩
  by_cases k2 : op = 4
  · have hF := by have := @Aj.eq_1 op r; rw [if_neg k0, if_neg k1, if_pos k2] at this; exact this
    refine Ad (N := 107) (rs := []) hG Try.func61 rfl rfl rfl rfl rfl ?_
    repeat' (first | (show AL _ _ _ _ _ _ _ _; first | refine so0 ?_) | (show AW _ _ _ _ _ _; first | (show AW _ _ (.region _ _ _) _ _ _; refine sc0 ?_; intro O1) | (refine sc0 ?_; try intro Q1)) | (show (_ → _) ∧ _; refine ⟨fun h => ?_, fun h => ?_⟩) | fail)
    refine al_on (v2_number (r := r) (n := 8) h0 w0 (by omega) hl i tw) rfl rfl rfl rfl rfl rfl hs ?_
    rintro u9 L9 ⟨o1, m1, h1, w1, rfl, rfl⟩
    repeat' (first | (show AL _ _ _ _ _ _ _ _; first | refine so0 ?_) | (show AW _ _ _ _ _ _; first | (show AW _ _ (.region _ _ _) _ _ _; refine sc0 ?_; intro O1) | (refine sc0 ?_; try intro Q1)) | (show (_ → _) ∧ _; refine ⟨fun h => ?_, fun h => ?_⟩) | fail)
    refine al_on (v2_number (r := (rdN r 8).2) (n := 2) h1 w1 (by omega) hl i tw) rfl rfl rfl rfl rfl rfl hs ?_
    rintro u9 L9 ⟨o2, m2, h2, w2, rfl, rfl⟩
    repeat' (first | (show AL _ _ _ _ _ _ _ _; first | refine so0 ?_) | (show AW _ _ _ _ _ _; first | (show AW _ _ (.region _ _ _) _ _ _; refine sc0 ?_; intro O1) | (refine sc0 ?_; try intro Q1)) | (show (_ → _) ∧ _; refine ⟨fun h => ?_, fun h => ?_⟩) | fail)
    refine al_on (v2_number (r := (rdN (rdN r 8).2 2).2) (n := 2) h2 w2 (by omega) hl i tw) rfl rfl rfl rfl rfl rfl hs ?_
    rintro u9 L9 ⟨o3, m3, h3, w3, rfl, rfl⟩
    repeat' (first | (show AL _ _ _ _ _ _ _ _; first | refine so0 ?_) | (show AW _ _ _ _ _ _; first | (show AW _ _ (.region _ _ _) _ _ _; refine sc0 ?_; intro O1) | (refine sc0 ?_; try intro Q1)) | (show (_ → _) ∧ _; refine ⟨fun h => ?_, fun h => ?_⟩) | fail)
    refine al_nil ?_
    dsimp (config := { zetaDelta := true }) only [thenA, Ah, jumpA, Ao]
    refine A2 (L' := [(i, .cells [tvT tw o3 m3, .int .i64 (rdN (rdN (rdN r 8).2 2).2 2).2.e]), (j, .cells _), (tw, .cells (l.map bT))]) Ac hs (.refl _) rfl ⟨o3, m3, _, h3, by rw [hF]; exact w3, by rw [hF]; exact ⟨_, _, _, _, _, rfl, .nil 1, .nil 1, .nil 1, .nil 1, .nil 1, rfl⟩, rfl, by rw [hF] <;> rfl⟩
  by_cases k3 : op = 5
  · have hF := by have := @Aj.eq_1 op r; rw [if_neg k0, if_neg k1, if_neg k2, if_pos k3] at this; exact this
    refine Ad (N := 107) (rs := []) hG Try.func61 rfl rfl rfl rfl rfl ?_
    repeat' (first | (show AL _ _ _ _ _ _ _ _; first | refine so0 ?_) | (show AW _ _ _ _ _ _; first | (show AW _ _ (.region _ _ _) _ _ _; refine sc0 ?_; intro O1) | (refine sc0 ?_; try intro Q1)) | (show (_ → _) ∧ _; refine ⟨fun h => ?_, fun h => ?_⟩) | fail)
    refine al_on (v2_number (r := r) (n := 8) h0 w0 (by omega) hl i tw) rfl rfl rfl rfl rfl rfl hs ?_
    rintro u9 L9 ⟨o1, m1, h1, w1, rfl, rfl⟩
    repeat' (first | (show AL _ _ _ _ _ _ _ _; first | refine so0 ?_) | (show AW _ _ _ _ _ _; first | (show AW _ _ (.region _ _ _) _ _ _; refine sc0 ?_; intro O1) | (refine sc0 ?_; try intro Q1)) | (show (_ → _) ∧ _; refine ⟨fun h => ?_, fun h => ?_⟩) | fail)
    refine al_on (v2_number (r := (rdN r 8).2) (n := 2) h1 w1 (by omega) hl i tw) rfl rfl rfl rfl rfl rfl hs ?_
    rintro u9 L9 ⟨o2, m2, h2, w2, rfl, rfl⟩
    repeat' (first | (show AL _ _ _ _ _ _ _ _; first | refine so0 ?_) | (show AW _ _ _ _ _ _; first | (show AW _ _ (.region _ _ _) _ _ _; refine sc0 ?_; intro O1) | (refine sc0 ?_; try intro Q1)) | (show (_ → _) ∧ _; refine ⟨fun h => ?_, fun h => ?_⟩) | fail)
    refine al_on (v2_bytes (r := (rdN (rdN r 8).2 2).2) h2 w2 hl i tw) rfl rfl rfl rfl rfl rfl hs ?_
    rintro u9 L9 ⟨o3, m3, h3, w3, rfl, rfl⟩
    repeat' (first | (show AL _ _ _ _ _ _ _ _; first | refine so0 ?_) | (show AW _ _ _ _ _ _; first | (show AW _ _ (.region _ _ _) _ _ _; refine sc0 ?_; intro O1) | (refine sc0 ?_; try intro Q1)) | (show (_ → _) ∧ _; refine ⟨fun h => ?_, fun h => ?_⟩) | fail)
    refine al_nil ?_
    dsimp (config := { zetaDelta := true }) only [thenA, Ah, jumpA, Ao]
    refine A2 (L' := [(i, .cells [tvT tw o3 m3, .int .i64 (rdB (rdN (rdN r 8).2 2).2).2.e]), (j, .cells _), (tw, .cells (l.map bT))]) Ac hs (.refl _) rfl ⟨o3, m3, _, h3, by rw [hF]; exact w3, by rw [hF]; exact ⟨_, _, _, _, _, rfl, .nil 1, .nil 1, .nil 1, .refl _, .nil 1, rfl⟩, rfl, by rw [hF] <;> rfl⟩
  by_cases k4 : op = 6 ∨ op = 7 ∨ op = 9 ∨ op = 11
  · have hF := by have := @Aj.eq_1 op r; rw [if_neg k0, if_neg k1, if_neg k2, if_neg k3, if_pos k4] at this; exact this
    rcases k4 with rfl | rfl | rfl | rfl
    · refine Ad (N := 107) (rs := []) hG Try.func61 rfl rfl rfl rfl rfl ?_
      repeat' (first | (show AL _ _ _ _ _ _ _ _; first | refine so0 ?_) | (show AW _ _ _ _ _ _; first | (show AW _ _ (.region _ _ _) _ _ _; refine sc0 ?_; intro O1) | (refine sc0 ?_; try intro Q1)) | (show (_ → _) ∧ _; refine ⟨fun h => ?_, fun h => ?_⟩) | fail)
      refine al_on (v2_number (r := r) (n := 8) h0 w0 (by omega) hl i tw) rfl rfl rfl rfl rfl rfl hs ?_
      rintro u9 L9 ⟨o1, m1, h1, w1, rfl, rfl⟩
      repeat' (first | (show AL _ _ _ _ _ _ _ _; first | refine so0 ?_) | (show AW _ _ _ _ _ _; first | (show AW _ _ (.region _ _ _) _ _ _; refine sc0 ?_; intro O1) | (refine sc0 ?_; try intro Q1)) | (show (_ → _) ∧ _; refine ⟨fun h => ?_, fun h => ?_⟩) | fail)
      refine al_nil ?_
      dsimp (config := { zetaDelta := true }) only [thenA, Ah, jumpA, Ao]
      refine A2 (L' := [(i, .cells [tvT tw o1 m1, .int .i64 (rdN r 8).2.e]), (j, .cells _), (tw, .cells (l.map bT))]) Ac hs (.refl _) rfl ⟨o1, m1, _, h1, by rw [hF]; exact w1, by rw [hF]; exact ⟨_, _, _, _, _, rfl, .nil 1, .nil 1, .nil 1, .nil 1, .nil 1, rfl⟩, rfl, by rw [hF] <;> rfl⟩
    · refine Ad (N := 107) (rs := []) hG Try.func61 rfl rfl rfl rfl rfl ?_
      repeat' (first | (show AL _ _ _ _ _ _ _ _; first | refine so0 ?_) | (show AW _ _ _ _ _ _; first | (show AW _ _ (.region _ _ _) _ _ _; refine sc0 ?_; intro O1) | (refine sc0 ?_; try intro Q1)) | (show (_ → _) ∧ _; refine ⟨fun h => ?_, fun h => ?_⟩) | fail)
      refine al_on (v2_number (r := r) (n := 8) h0 w0 (by omega) hl i tw) rfl rfl rfl rfl rfl rfl hs ?_
      rintro u9 L9 ⟨o1, m1, h1, w1, rfl, rfl⟩
      repeat' (first | (show AL _ _ _ _ _ _ _ _; first | refine so0 ?_) | (show AW _ _ _ _ _ _; first | (show AW _ _ (.region _ _ _) _ _ _; refine sc0 ?_; intro O1) | (refine sc0 ?_; try intro Q1)) | (show (_ → _) ∧ _; refine ⟨fun h => ?_, fun h => ?_⟩) | fail)
      refine al_nil ?_
      dsimp (config := { zetaDelta := true }) only [thenA, Ah, jumpA, Ao]
      refine A2 (L' := [(i, .cells [tvT tw o1 m1, .int .i64 (rdN r 8).2.e]), (j, .cells _), (tw, .cells (l.map bT))]) Ac hs (.refl _) rfl ⟨o1, m1, _, h1, by rw [hF]; exact w1, by rw [hF]; exact ⟨_, _, _, _, _, rfl, .nil 1, .nil 1, .nil 1, .nil 1, .nil 1, rfl⟩, rfl, by rw [hF] <;> rfl⟩
    · refine Ad (N := 107) (rs := []) hG Try.func61 rfl rfl rfl rfl rfl ?_
      repeat' (first | (show AL _ _ _ _ _ _ _ _; first | refine so0 ?_) | (show AW _ _ _ _ _ _; first | (show AW _ _ (.region _ _ _) _ _ _; refine sc0 ?_; intro O1) | (refine sc0 ?_; try intro Q1)) | (show (_ → _) ∧ _; refine ⟨fun h => ?_, fun h => ?_⟩) | fail)
      refine al_on (v2_number (r := r) (n := 8) h0 w0 (by omega) hl i tw) rfl rfl rfl rfl rfl rfl hs ?_
      rintro u9 L9 ⟨o1, m1, h1, w1, rfl, rfl⟩
      repeat' (first | (show AL _ _ _ _ _ _ _ _; first | refine so0 ?_) | (show AW _ _ _ _ _ _; first | (show AW _ _ (.region _ _ _) _ _ _; refine sc0 ?_; intro O1) | (refine sc0 ?_; try intro Q1)) | (show (_ → _) ∧ _; refine ⟨fun h => ?_, fun h => ?_⟩) | fail)
      refine al_nil ?_
      dsimp (config := { zetaDelta := true }) only [thenA, Ah, jumpA, Ao]
      refine A2 (L' := [(i, .cells [tvT tw o1 m1, .int .i64 (rdN r 8).2.e]), (j, .cells _), (tw, .cells (l.map bT))]) Ac hs (.refl _) rfl ⟨o1, m1, _, h1, by rw [hF]; exact w1, by rw [hF]; exact ⟨_, _, _, _, _, rfl, .nil 1, .nil 1, .nil 1, .nil 1, .nil 1, rfl⟩, rfl, by rw [hF] <;> rfl⟩
    · refine Ad (N := 107) (rs := []) hG Try.func61 rfl rfl rfl rfl rfl ?_
      repeat' (first | (show AL _ _ _ _ _ _ _ _; first | refine so0 ?_) | (show AW _ _ _ _ _ _; first | (show AW _ _ (.region _ _ _) _ _ _; refine sc0 ?_; intro O1) | (refine sc0 ?_; try intro Q1)) | (show (_ → _) ∧ _; refine ⟨fun h => ?_, fun h => ?_⟩) | fail)
      refine al_on (v2_number (r := r) (n := 8) h0 w0 (by omega) hl i tw) rfl rfl rfl rfl rfl rfl hs ?_
      rintro u9 L9 ⟨o1, m1, h1, w1, rfl, rfl⟩
      repeat' (first | (show AL _ _ _ _ _ _ _ _; first | refine so0 ?_) | (show AW _ _ _ _ _ _; first | (show AW _ _ (.region _ _ _) _ _ _; refine sc0 ?_; intro O1) | (refine sc0 ?_; try intro Q1)) | (show (_ → _) ∧ _; refine ⟨fun h => ?_, fun h => ?_⟩) | fail)
      refine al_nil ?_
      dsimp (config := { zetaDelta := true }) only [thenA, Ah, jumpA, Ao]
      refine A2 (L' := [(i, .cells [tvT tw o1 m1, .int .i64 (rdN r 8).2.e]), (j, .cells _), (tw, .cells (l.map bT))]) Ac hs (.refl _) rfl ⟨o1, m1, _, h1, by rw [hF]; exact w1, by rw [hF]; exact ⟨_, _, _, _, _, rfl, .nil 1, .nil 1, .nil 1, .nil 1, .nil 1, rfl⟩, rfl, by rw [hF] <;> rfl⟩
  by_cases k5 : op = 8
  · have hF := by have := @Aj.eq_1 op r; rw [if_neg k0, if_neg k1, if_neg k2, if_neg k3, if_neg k4, if_pos k5] at this; exact this
    refine Ad (N := 107) (rs := []) hG Try.func61 rfl rfl rfl rfl rfl ?_
    repeat' (first | (show AL _ _ _ _ _ _ _ _; first | refine so0 ?_) | (show AW _ _ _ _ _ _; first | (show AW _ _ (.region _ _ _) _ _ _; refine sc0 ?_; intro O1) | (refine sc0 ?_; try intro Q1)) | (show (_ → _) ∧ _; refine ⟨fun h => ?_, fun h => ?_⟩) | fail)
    refine al_on (v2_number (r := r) (n := 8) h0 w0 (by omega) hl i tw) rfl rfl rfl rfl rfl rfl hs ?_
    rintro u9 L9 ⟨o1, m1, h1, w1, rfl, rfl⟩
    repeat' (first | (show AL _ _ _ _ _ _ _ _; first | refine so0 ?_) | (show AW _ _ _ _ _ _; first | (show AW _ _ (.region _ _ _) _ _ _; refine sc0 ?_; intro O1) | (refine sc0 ?_; try intro Q1)) | (show (_ → _) ∧ _; refine ⟨fun h => ?_, fun h => ?_⟩) | fail)
    refine al_on (v2_bytes (r := (rdN r 8).2) h1 w1 hl i tw) rfl rfl rfl rfl rfl rfl hs ?_
    rintro u9 L9 ⟨o2, m2, h2, w2, rfl, rfl⟩
    repeat' (first | (show AL _ _ _ _ _ _ _ _; first | refine so0 ?_) | (show AW _ _ _ _ _ _; first | (show AW _ _ (.region _ _ _) _ _ _; refine sc0 ?_; intro O1) | (refine sc0 ?_; try intro Q1)) | (show (_ → _) ∧ _; refine ⟨fun h => ?_, fun h => ?_⟩) | fail)
    refine al_nil ?_
    dsimp (config := { zetaDelta := true }) only [thenA, Ah, jumpA, Ao]
    refine A2 (L' := [(i, .cells [tvT tw o2 m2, .int .i64 (rdB (rdN r 8).2).2.e]), (j, .cells _), (tw, .cells (l.map bT))]) Ac hs (.refl _) rfl ⟨o2, m2, _, h2, by rw [hF]; exact w2, by rw [hF]; exact ⟨_, _, _, _, _, rfl, .nil 1, .nil 1, .nil 1, .refl _, .nil 1, rfl⟩, rfl, by rw [hF] <;> rfl⟩
  by_cases k6 : op = 10
  · have hF := by have := @Aj.eq_1 op r; rw [if_neg k0, if_neg k1, if_neg k2, if_neg k3, if_neg k4, if_neg k5, if_pos k6] at this; exact this
    refine Ad (N := 107) (rs := []) hG Try.func61 rfl rfl rfl rfl rfl ?_
    repeat' (first | (show AL _ _ _ _ _ _ _ _; first | refine so0 ?_) | (show AW _ _ _ _ _ _; first | (show AW _ _ (.region _ _ _) _ _ _; refine sc0 ?_; intro O1) | (refine sc0 ?_; try intro Q1)) | (show (_ → _) ∧ _; refine ⟨fun h => ?_, fun h => ?_⟩) | fail)
    refine al_on (v2_number (r := r) (n := 8) h0 w0 (by omega) hl i tw) rfl rfl rfl rfl rfl rfl hs ?_
    rintro u9 L9 ⟨o1, m1, h1, w1, rfl, rfl⟩
    repeat' (first | (show AL _ _ _ _ _ _ _ _; first | refine so0 ?_) | (show AW _ _ _ _ _ _; first | (show AW _ _ (.region _ _ _) _ _ _; refine sc0 ?_; intro O1) | (refine sc0 ?_; try intro Q1)) | (show (_ → _) ∧ _; refine ⟨fun h => ?_, fun h => ?_⟩) | fail)
    refine al_on (v2_number (r := (rdN r 8).2) (n := 8) h1 w1 (by omega) hl i tw) rfl rfl rfl rfl rfl rfl hs ?_
    rintro u9 L9 ⟨o2, m2, h2, w2, rfl, rfl⟩
    repeat' (first | (show AL _ _ _ _ _ _ _ _; first | refine so0 ?_) | (show AW _ _ _ _ _ _; first | (show AW _ _ (.region _ _ _) _ _ _; refine sc0 ?_; intro O1) | (refine sc0 ?_; try intro Q1)) | (show (_ → _) ∧ _; refine ⟨fun h => ?_, fun h => ?_⟩) | fail)
    refine al_on (v2_number (r := (rdN (rdN r 8).2 8).2) (n := 2) h2 w2 (by omega) hl i tw) rfl rfl rfl rfl rfl rfl hs ?_
    rintro u9 L9 ⟨o3, m3, h3, w3, rfl, rfl⟩
    repeat' (first | (show AL _ _ _ _ _ _ _ _; first | refine so0 ?_) | (show AW _ _ _ _ _ _; first | (show AW _ _ (.region _ _ _) _ _ _; refine sc0 ?_; intro O1) | (refine sc0 ?_; try intro Q1)) | (show (_ → _) ∧ _; refine ⟨fun h => ?_, fun h => ?_⟩) | fail)
    refine al_nil ?_
    dsimp (config := { zetaDelta := true }) only [thenA, Ah, jumpA, Ao]
    refine A2 (L' := [(i, .cells [tvT tw o3 m3, .int .i64 (rdN (rdN (rdN r 8).2 8).2 2).2.e]), (j, .cells _), (tw, .cells (l.map bT))]) Ac hs (.refl _) rfl ⟨o3, m3, _, h3, by rw [hF]; exact w3, by rw [hF]; exact ⟨_, _, _, _, _, rfl, .nil 1, .nil 1, .nil 1, .nil 1, .nil 1, rfl⟩, rfl, by rw [hF] <;> rfl⟩
  by_cases k7 : op = 1 ∨ op = 12 ∨ op = 13
  · have hF := by have := @Aj.eq_1 op r; rw [if_neg k0, if_neg k1, if_neg k2, if_neg k3, if_neg k4, if_neg k5, if_neg k6, if_pos k7] at this; exact this
    rcases k7 with rfl | rfl | rfl
    · refine Ad (N := 107) (rs := []) hG Try.func61 rfl rfl rfl rfl rfl ?_
      repeat' (first | (show AL _ _ _ _ _ _ _ _; first | refine so0 ?_) | (show AW _ _ _ _ _ _; first | (show AW _ _ (.region _ _ _) _ _ _; refine sc0 ?_; intro O1) | (refine sc0 ?_; try intro Q1)) | (show (_ → _) ∧ _; refine ⟨fun h => ?_, fun h => ?_⟩) | fail)
      refine aw_skip ?_
      dsimp (config := { zetaDelta := true }) only [thenA, Ah, jumpA, Ao]
      refine A2 (L' := [(i, .cells [tvT tw o0 m0, .int .i64 r.e]), (j, .cells _), (tw, .cells (l.map bT))]) Ac hs (.refl _) rfl ⟨o0, m0, _, h0, by rw [hF]; exact w0, by rw [hF]; exact ⟨_, _, _, _, _, rfl, .nil 1, .nil 1, .nil 1, .nil 1, .nil 1, rfl⟩, rfl, by rw [hF] <;> rfl⟩
    · refine Ad (N := 107) (rs := []) hG Try.func61 rfl rfl rfl rfl rfl ?_
      repeat' (first | (show AL _ _ _ _ _ _ _ _; first | refine so0 ?_) | (show AW _ _ _ _ _ _; first | (show AW _ _ (.region _ _ _) _ _ _; refine sc0 ?_; intro O1) | (refine sc0 ?_; try intro Q1)) | (show (_ → _) ∧ _; refine ⟨fun h => ?_, fun h => ?_⟩) | fail)
      refine aw_skip ?_
      dsimp (config := { zetaDelta := true }) only [thenA, Ah, jumpA, Ao]
      refine A2 (L' := [(i, .cells [tvT tw o0 m0, .int .i64 r.e]), (j, .cells _), (tw, .cells (l.map bT))]) Ac hs (.refl _) rfl ⟨o0, m0, _, h0, by rw [hF]; exact w0, by rw [hF]; exact ⟨_, _, _, _, _, rfl, .nil 1, .nil 1, .nil 1, .nil 1, .nil 1, rfl⟩, rfl, by rw [hF] <;> rfl⟩
    · refine Ad (N := 107) (rs := []) hG Try.func61 rfl rfl rfl rfl rfl ?_
      repeat' (first | (show AL _ _ _ _ _ _ _ _; first | refine so0 ?_) | (show AW _ _ _ _ _ _; first | (show AW _ _ (.region _ _ _) _ _ _; refine sc0 ?_; intro O1) | (refine sc0 ?_; try intro Q1)) | (show (_ → _) ∧ _; refine ⟨fun h => ?_, fun h => ?_⟩) | fail)
      refine aw_skip ?_
      dsimp (config := { zetaDelta := true }) only [thenA, Ah, jumpA, Ao]
      refine A2 (L' := [(i, .cells [tvT tw o0 m0, .int .i64 r.e]), (j, .cells _), (tw, .cells (l.map bT))]) Ac hs (.refl _) rfl ⟨o0, m0, _, h0, by rw [hF]; exact w0, by rw [hF]; exact ⟨_, _, _, _, _, rfl, .nil 1, .nil 1, .nil 1, .nil 1, .nil 1, rfl⟩, rfl, by rw [hF] <;> rfl⟩
  by_cases he : r.e = 0
  · have hF := by have := @Aj.eq_1 op r; rw [if_neg k0, if_neg k1, if_neg k2, if_neg k3, if_neg k4, if_neg k5, if_neg k6, if_neg k7, if_pos he] at this; exact this
    refine Ad (N := 107) (rs := []) hG Try.func61 rfl rfl rfl rfl rfl ?_
    repeat' (first | (show AL _ _ _ _ _ _ _ _; first | refine so0 ?_) | (show AW _ _ _ _ _ _; first | (show AW _ _ (.region _ _ _) _ _ _; refine sc0 ?_; intro O1) | (refine sc0 ?_; try intro Q1)) | (show (_ → _) ∧ _; refine ⟨fun h => ?_, fun h => ?_⟩) | fail)
    refine al_nil ?_
    dsimp (config := { zetaDelta := true }) only [thenA, Ah, jumpA, Ao]
    refine A2 (L' := [(i, .cells [tvT tw o0 m0, .int .i64 2]), (j, .cells _), (tw, .cells (l.map bT))]) Ac hs (.refl _) rfl ⟨o0, m0, _, h0, by rw [hF]; exact w0, by rw [hF]; exact ⟨_, _, _, _, _, rfl, .nil 1, .nil 1, .nil 1, .nil 1, .nil 1, rfl⟩, rfl, by rw [hF] <;> rfl⟩
  · have hF := by have := @Aj.eq_1 op r; rw [if_neg k0, if_neg k1, if_neg k2, if_neg k3, if_neg k4, if_neg k5, if_neg k6, if_neg k7, if_neg he] at this; exact this
    refine Ad (N := 107) (rs := []) hG Try.func61 rfl rfl rfl rfl rfl ?_
    repeat' (first | (show AL _ _ _ _ _ _ _ _; first | refine so0 ?_) | (show AW _ _ _ _ _ _; first | (show AW _ _ (.region _ _ _) _ _ _; refine sc0 ?_; intro O1) | (refine sc0 ?_; try intro Q1)) | (show (_ → _) ∧ _; refine ⟨fun h => ?_, fun h => ?_⟩) | fail)
    refine aw_skip ?_
    dsimp (config := { zetaDelta := true }) only [thenA, Ah, jumpA, Ao]
    refine A2 (L' := [(i, .cells [tvT tw o0 m0, .int .i64 r.e]), (j, .cells _), (tw, .cells (l.map bT))]) Ac hs (.refl _) rfl ⟨o0, m0, _, h0, by rw [hF]; exact w0, by rw [hF]; exact ⟨_, _, _, _, _, rfl, .nil 1, .nil 1, .nil 1, .nil 1, .nil 1, rfl⟩, rfl, by rw [hF] <;> rfl⟩
end Go.Proofs.Ythfgocinlbogeaa
set_option maxHeartbeats 4000000
namespace Go.Proofs.Ythfgocinlbogeaa
open Go.Ts Go.Sets
set_option linter.unusedSimpArgs false
set_option linter.unusedVariables false
attribute [local irreducible] Go.Ts.AW Go.Ts.AOps Go.Ts.AL Go.Ts.AOp Go.Ts.ACalls Go.Ts.DL Go.Ts.DQ Go.Ts.DQ0 Go.Ts.EL
structure TvK where
  e : Int
  i : Nat
  p : Nat
  o : Nat
  m : Nat
set_option maxHeartbeats 9000000 in
theorem abi2_Take_v {l : List UInt8} {o m : Nat} (h : o + m ≤ l.length) (hl : l.length ≤ 4294967296) (tw : Nat) :
    OnL Try.prog 29 [tvT tw o m] [(tw, .cells (l.map bT))] (fun u L => u = .tup [(takeK (win l o m)).1.t, .int .i64 (takeK (win l o m)).2] ∧ L = [(tw, .cells (l.map bT))]) := by
  intro off
  refine Ad (N := 40) (rs := [.cell 2 48, .tmp 3]) hG Try.func29 rfl rfl rfl rfl rfl ?_
  repeat' (first | (show AL _ _ _ _ _ _ _ _; first | refine so0 ?_ | (refine sb ?_; intro i)) | (show DL _ _ _ _ _ _ _; first | refine do0 ?_) | (show AW _ _ _ _ _ _; first | (show AW _ _ (.region _ _ _) _ _ _; refine sc0 ?_; intro O1) | (refine sc0 ?_; try intro Q1)) | (show (_ → _) ∧ _; refine ⟨fun h => ?_, fun h => ?_⟩) | fail)
  refine aw_scope' 0 rfl (X := { x : TvK // takeK (win l o m) = (zeroK, x.e) }) (fun x => [(2, .ptr x.1.p 0), (4, .ptr x.1.i 0)]) (fun x => ⟨[(x.1.i, .cells [tvT tw x.1.o x.1.m, .int .i64 x.1.e]), (x.1.p, .cells (zeroKC 0)), (tw, .cells (l.map bT))], [], off, none⟩) (fun _ => 0) ?_ ?_
  · rintro ⟨⟨e, i, p, oo, mm⟩, hx⟩
    dsimp only at hx ⊢
    unfold zeroKC
    repeat' (first | (show AL _ _ _ _ _ _ _ _; first | refine so0 ?_ | (refine sb ?_; intro i)) | (show DL _ _ _ _ _ _ _; first | refine do0 ?_) | (show AW _ _ _ _ _ _; (fail_if_success show AW _ _ (.region 10 _ _) _ _ _); first | (show AW _ _ (.region _ _ _) _ _ _; refine sc0 ?_; intro O1) | (refine sc0 ?_; try intro Q1)) | (show (_ → _) ∧ _; refine ⟨fun h => ?_, fun h => ?_⟩) | fail)
    refine aw_drawE' (m := 7) [5] (fun σ => ∃ c, σ = ⟨[(i, .cells [tvT tw oo mm, .int .i64 e]), (p, .cells c), (tw, .cells (l.map bT))], [], off, none⟩) mix rfl (by repeat (first | exact Sp.zero _ | apply Sp.succ)) ?_; intro O1 F1 Z1 Q2
    repeat' (first
    | (refine' dq_cons Y Y Y (fun σ hσ K kk => ?_) ?_; (try (show Go.Ts.T; rotate_left)); (obtain ⟨R, rfl⟩ := hσ); (first
      | (show AOp _ _ ⟨_, .move _, _, _, _, _⟩ _ _ _; refine r_move hG Y Y ?_)
      | (show AOp _ _ ⟨_, .assign _, _, _, _, _⟩ _ _ _; refine r_asg hG Y Y ?_)
      | (show AOp _ _ ⟨_, .call ⟨.builtin .len, _, _⟩, _, _, _, _⟩ _ _ _; first | refine r_lenm hG Y Y Y Y ?_ | refine r_len hG Y Y Y Y Y ?_)
      | (show AOp _ _ ⟨_, .binOp _ _ _ _ _, _, _, _, _⟩ _ _ _; first | refine r_cmpT hG Y Y Y Y Y (by omega) ?_ | refine r_cmpF hG Y Y Y Y Y (by omega) ?_)
      | (show AOp _ _ ⟨_, .load _ _, _, _, _, _⟩ _ _ _; first | refine r_ld 0 hG Y Y Y Y ?_ | refine r_ld 1 hG Y Y Y Y ?_ | refine r_ld 2 hG Y Y Y Y ?_ | refine r_ld 3 hG Y Y Y Y ?_)
      | (show AOp _ _ ⟨_, .convert _ _ _, _, _, _, _⟩ _ _ _; first | refine r_cv_i64 hG Y Y Y Y Y (by omega) ?_ | refine r_cvw hG Y Y Y Y Y ?_)
      | (show AOp _ _ ⟨_, .build _ _, _, _, _, _⟩ _ _ _; refine r_build hG Y Y Y Y Y ?_)
      | (show AOp _ _ ⟨_, .box _ _, _, _, _, _⟩ _ _ _; refine r_box hG Y Y Y (fun i => ?_))
      | (show AOp _ _ ⟨_, .alloc _, _, _, _, _⟩ _ _ _; refine r_alloc hG Y Y (fun i => ?_))
      | (show AOp _ _ ⟨_, .store _ _ _, _, _, _, _⟩ _ _ _; first | refine r_st 0 hG Y Y Y Y Y Y Y ?_ | refine r_st 1 hG Y Y Y Y Y Y Y ?_ | refine r_st 2 hG Y Y Y Y Y Y Y ?_ | refine r_st 3 hG Y Y Y Y Y Y Y ?_)
      | refine r_q hG Y Y Y ?_); exact kk)
    | refine dq_d Y Y Y (fun σ hσ K kt kf => by obtain ⟨R, rfl⟩ := hσ; exact r_cmp hG Y Y Y Y Y kt kf) (fun h => ?_) (fun h => ?_)
    | refine dq_d Y Y Y (fun σ hσ K kt kf => by obtain ⟨R, rfl⟩ := hσ; exact r_str hG Y Y Y Y kt kf) (fun h => ?_) (fun h => ?_)
    | refine dq_s Y Y Y Y ?_ | refine dq_e Y ?_ | (refine dq_nil ?_; show EL _ _ _ _ _ _ _ _ _) | refine el_s ⟨_, Y⟩ Y Y Y Y ?_
    | ((first | refine el_cons ⟨_, Y⟩ Y Y Y (fun K ke => ?_) | refine el_consN ⟨_, Y⟩ Y Y Y (fun K ke => ?_)); (first
      | (show AOp _ _ ⟨_, .move _, _, _, _, _⟩ _ _ _; refine r_move hG Y Y ?_)
      | (show AOp _ _ ⟨_, .assign _, _, _, _, _⟩ _ _ _; refine r_asg hG Y Y ?_)
      | (show AOp _ _ ⟨_, .call ⟨.builtin .len, _, _⟩, _, _, _, _⟩ _ _ _; first | refine r_lenm hG Y Y Y Y ?_ | refine r_len hG Y Y Y Y Y ?_)
      | (show AOp _ _ ⟨_, .binOp _ _ _ _ _, _, _, _, _⟩ _ _ _; first | refine r_cmpT hG Y Y Y Y Y (by omega) ?_ | refine r_cmpF hG Y Y Y Y Y (by omega) ?_)
      | (show AOp _ _ ⟨_, .load _ _, _, _, _, _⟩ _ _ _; first | refine r_ld 0 hG Y Y Y Y ?_ | refine r_ld 1 hG Y Y Y Y ?_ | refine r_ld 2 hG Y Y Y Y ?_ | refine r_ld 3 hG Y Y Y Y ?_)
      | (show AOp _ _ ⟨_, .convert _ _ _, _, _, _, _⟩ _ _ _; first | refine r_cv_i64 hG Y Y Y Y Y (by omega) ?_ | refine r_cvw hG Y Y Y Y Y ?_)
      | (show AOp _ _ ⟨_, .build _ _, _, _, _, _⟩ _ _ _; refine r_build hG Y Y Y Y Y ?_)
      | (show AOp _ _ ⟨_, .box _ _, _, _, _, _⟩ _ _ _; refine r_box hG Y Y Y (fun i => ?_))
      | (show AOp _ _ ⟨_, .alloc _, _, _, _, _⟩ _ _ _; refine r_alloc hG Y Y (fun i => ?_))
      | (show AOp _ _ ⟨_, .store _ _ _, _, _, _, _⟩ _ _ _; first | refine r_st 0 hG Y Y Y Y Y Y Y ?_ | refine r_st 1 hG Y Y Y Y Y Y Y ?_ | refine r_st 2 hG Y Y Y Y Y Y Y ?_ | refine r_st 3 hG Y Y Y Y Y Y Y ?_)
      | refine r_q hG Y Y Y ?_); refine ke _ _ ?_)
    | (refine el_nil ⟨_, Y⟩ ?_; show AL _ _ _ _ _ _ _ _) | fail)
    refine el_consN ⟨_, rfl⟩ rfl rfl rfl (fun K ke => ?_)
    refine r_st 1 hG rfl rfl rfl rfl rfl rfl rfl ?_
    refine ke (.tup []) _ ?_
    refine el_nil ⟨_, rfl⟩ ?_
    show AL _ _ _ _ _ _ _ _
    repeat' (first | (show AL _ _ _ _ _ _ _ _; first | refine so0 ?_ | (refine sb ?_; intro i)) | (show DL _ _ _ _ _ _ _; first | refine do0 ?_) | (show AW _ _ _ _ _ _; first | (show AW _ _ (.region _ _ _) _ _ _; refine sc0 ?_; intro O1) | (refine sc0 ?_; try intro Q1)) | (show (_ → _) ∧ _; refine ⟨fun h => ?_, fun h => ?_⟩) | fail)
    refine ret_on (L' := [(tw, .cells (l.map bT))]) (res_cellM rfl hs (by exact rfl) (Ab rfl Ac)) hs ?_ rfl ⟨rfl, rfl⟩
    rw [hx]
    exact Wk.tupL (wk2 zeroK_wk (.refl _))
  · intro key
    have v1 : (rdN ⟨win l o m, 0⟩ 1).1 < 256 := rdN_lt _ 1
    repeat' (first | (show AL _ _ _ _ _ _ _ _; first | refine so0 ?_ | (refine sb ?_; intro i)) | (show DL _ _ _ _ _ _ _; first | refine do0 ?_) | (show AW _ _ _ _ _ _; first | (show AW _ _ (.region _ _ _) _ _ _; refine sc0 ?_; intro O1) | (refine sc0 ?_; try intro Q1)) | (show (_ → _) ∧ _; refine ⟨fun h => ?_, fun h => ?_⟩) | fail)
    refine al_on (v2_number (r := ⟨win l o m, 0⟩) (n := 1) h rfl (by omega) hl _ tw) rfl rfl rfl rfl rfl rfl hs ?_
    rintro u9 L9 ⟨o1, m1, h1, w1, rfl, rfl⟩
    by_cases he : (rdN ⟨win l o m, 0⟩ 1).2.e ≠ 0
    · have hT : takeK (win l o m) = (zeroK, (rdN ⟨win l o m, 0⟩ 1).2.e) := by rw [takeK, if_pos he]
      repeat' (first | (show AL _ _ _ _ _ _ _ _; first | refine so0 ?_ | (refine sb ?_; intro i)) | (show DL _ _ _ _ _ _ _; first | refine do0 ?_) | (show AW _ _ _ _ _ _; first | (show AW _ _ (.region _ _ _) _ _ _; refine sc0 ?_; intro O1) | (refine sc0 ?_; try intro Q1)) | (show (_ → _) ∧ _; refine ⟨fun h => ?_, fun h => ?_⟩) | fail)
      dsimp (config := { zetaDelta := true }) only [thenA, Ah, jumpA, Ao]
      refine ⟨rfl, ⟨⟨(rdN ⟨win l o m, 0⟩ 1).2.e, _, _, o1, m1⟩, hT⟩, .cons rfl (.cons rfl (.nil _)), ?_⟩
      exact pk_step hs (List.nil_sublist _)
    repeat' (first | (show AL _ _ _ _ _ _ _ _; first | refine so0 ?_ | (refine sb ?_; intro i)) | (show DL _ _ _ _ _ _ _; first | refine do0 ?_) | (show AW _ _ _ _ _ _; first | (show AW _ _ (.region _ _ _) _ _ _; refine sc0 ?_; intro O1) | (refine sc0 ?_; try intro Q1)) | (show (_ → _) ∧ _; refine ⟨fun h => ?_, fun h => ?_⟩) | fail)
    refine al_on (v2_call (r := (rdN ⟨win l o m, 0⟩ 1).2) (op := (rdN ⟨win l o m, 0⟩ 1).1) h1 w1 hl _ _ tw) rfl rfl rfl rfl rfl rfl hs ?_
    rintro u9 L9 ⟨o2, m2, ds, h2, w2, hD, rfl, rfl⟩
    obtain ⟨S, I, O, d, cc, rfl, wS, wI, wO, wd, wc, hsc⟩ := hD
    have hm2 : (Aj (rdN ⟨win l o m, 0⟩ 1).1 (rdN ⟨win l o m, 0⟩ 1).2).2.b.length = m2 := by rw [← w2, win_len h2]
    by_cases he2 : (Aj (rdN ⟨win l o m, 0⟩ 1).1 (rdN ⟨win l o m, 0⟩ 1).2).2.e ≠ 0
    · have hT : takeK (win l o m) = (zeroK, (Aj (rdN ⟨win l o m, 0⟩ 1).1 (rdN ⟨win l o m, 0⟩ 1).2).2.e) := by rw [takeK, if_neg he, if_pos he2]
      repeat' (first | (show AL _ _ _ _ _ _ _ _; first | refine so0 ?_ | (refine sb ?_; intro i)) | (show DL _ _ _ _ _ _ _; first | refine do0 ?_) | (show AW _ _ _ _ _ _; first | (show AW _ _ (.region _ _ _) _ _ _; refine sc0 ?_; intro O1) | (refine sc0 ?_; try intro Q1)) | (show (_ → _) ∧ _; refine ⟨fun h => ?_, fun h => ?_⟩) | fail)
      dsimp (config := { zetaDelta := true }) only [thenA, Ah, jumpA, Ao]
      refine ⟨rfl, ⟨⟨(Aj (rdN ⟨win l o m, 0⟩ 1).1 (rdN ⟨win l o m, 0⟩ 1).2).2.e, _, _, o2, m2⟩, hT⟩, .cons rfl (.cons rfl (.nil _)), ?_⟩
      exact pk_step hs (List.nil_sublist _)
    by_cases h0 : 0 < (Aj (rdN ⟨win l o m, 0⟩ 1).1 (rdN ⟨win l o m, 0⟩ 1).2).2.b.length
    · have hT : takeK (win l o m) = (zeroK, 2) := by rw [takeK, if_neg he, if_neg he2, if_pos h0]
      repeat' (first | (show AL _ _ _ _ _ _ _ _; first | refine so0 ?_ | (refine sb ?_; intro i)) | (show DL _ _ _ _ _ _ _; first | refine do0 ?_) | (show AW _ _ _ _ _ _; first | (show AW _ _ (.region _ _ _) _ _ _; refine sc0 ?_; intro O1) | (refine sc0 ?_; try intro Q1)) | (show (_ → _) ∧ _; refine ⟨fun h => ?_, fun h => ?_⟩) | fail)
      dsimp (config := { zetaDelta := true }) only [thenA, Ah, jumpA, Ao]
      refine ⟨rfl, ⟨⟨2, _, _, o2, m2⟩, hT⟩, .cons rfl (.cons rfl (.nil _)), ?_⟩
      exact pk_step hs (List.nil_sublist _)
    · have hT : takeK (win l o m) = ((Aj (rdN ⟨win l o m, 0⟩ 1).1 (rdN ⟨win l o m, 0⟩ 1).2).1, 0) := by rw [takeK, if_neg he, if_neg he2, if_neg h0]
      simp only [Bool.and_eq_true] at hsc
      obtain ⟨⟨⟨⟨s1, s2⟩, s3⟩, s4⟩, s5⟩ := hsc
      have hsc : (notRaw (.agg [.int .i64 (Aj (rdN ⟨win l o m, 0⟩ 1).1 (rdN ⟨win l o m, 0⟩ 1).2).1.op, .int .i64 (Aj (rdN ⟨win l o m, 0⟩ 1).1 (rdN ⟨win l o m, 0⟩ 1).2).1.kind, .int .u64 (Aj (rdN ⟨win l o m, 0⟩ 1).1 (rdN ⟨win l o m, 0⟩ 1).2).1.id, .int .u64 (Aj (rdN ⟨win l o m, 0⟩ 1).1 (rdN ⟨win l o m, 0⟩ 1).2).1.to, .int .i64 (Aj (rdN ⟨win l o m, 0⟩ 1).1 (rdN ⟨win l o m, 0⟩ 1).2).1.off, .int .i64 (Aj (rdN ⟨win l o m, 0⟩ 1).1 (rdN ⟨win l o m, 0⟩ 1).2).1.n, .int .u8 0, .nilsl, S, I, O, d, cc]) && (T.agg [.int .i64 (Aj (rdN ⟨win l o m, 0⟩ 1).1 (rdN ⟨win l o m, 0⟩ 1).2).1.op, .int .i64 (Aj (rdN ⟨win l o m, 0⟩ 1).1 (rdN ⟨win l o m, 0⟩ 1).2).1.kind, .int .u64 (Aj (rdN ⟨win l o m, 0⟩ 1).1 (rdN ⟨win l o m, 0⟩ 1).2).1.id, .int .u64 (Aj (rdN ⟨win l o m, 0⟩ 1).1 (rdN ⟨win l o m, 0⟩ 1).2).1.to, .int .i64 (Aj (rdN ⟨win l o m, 0⟩ 1).1 (rdN ⟨win l o m, 0⟩ 1).2).1.off, .int .i64 (Aj (rdN ⟨win l o m, 0⟩ 1).1 (rdN ⟨win l o m, 0⟩ 1).2).1.n, .int .u8 0, .nilsl, S, I, O, d, cc]).cells.all T.scalar) = true := by
        simp only [notRaw, T.cells, List.all_cons, List.all_nil, s1, s2, s3, s4, s5]; rfl
      repeat' (first | (show AL _ _ _ _ _ _ _ _; first | refine so0 ?_ | (refine sb ?_; intro i)) | (show DL _ _ _ _ _ _ _; first | refine do0 ?_) | (show AW _ _ _ _ _ _; first | (show AW _ _ (.region _ _ _) _ _ _; refine sc0 ?_; intro O1) | (refine sc0 ?_; try intro Q1)) | (show (_ → _) ∧ _; refine ⟨fun h => ?_, fun h => ?_⟩) | fail)
      refine Ap rfl (r_stM hG rfl rfl hs hsc rfl rfl rfl ?_)
      repeat' (first | (show AL _ _ _ _ _ _ _ _; first | refine so0 ?_ | (refine sb ?_; intro i)) | (show DL _ _ _ _ _ _ _; first | refine do0 ?_) | (show AW _ _ _ _ _ _; first | (show AW _ _ (.region _ _ _) _ _ _; refine sc0 ?_; intro O1) | (refine sc0 ?_; try intro Q1)) | (show (_ → _) ∧ _; refine ⟨fun h => ?_, fun h => ?_⟩) | fail)
      dsimp (config := { zetaDelta := true }) only [thenA, Ah, jumpA, Ao]
      refine ret_on (L' := [(tw, .cells (l.map bT))]) (res_cellM rfl hs (by exact rfl) (Ab rfl Ac)) hs ?_ rfl ⟨rfl, rfl⟩
      rw [hT]
      exact Wk.tupL (wk2 (Wk.aggL (wkc (.refl _) (wkc (.refl _) (wkc (.refl _) (wkc (.refl _) (wkc (.refl _) (wkc (.refl _) (wkc (.refl _) (wkc (.nil 2) (wkc wS (wkc wI (wkc wO (wkc wd (wkc wc trivial)))))))))))))) (.refl _))
end Go.Proofs.Ythfgocinlbogeaa
set_option maxHeartbeats 4000000
namespace Go.Ts
set_option linter.unusedVariables false
theorem aw_midQ {P : Program} {N : Nat} {Q : Exit → Env → St → Prop} {a : Env} {σ : St} {X : Type} {c d : Code} (E : X → Env) (S : X → St) (h1 : AW P N c (thenA (fun a σ => ∃ x, Knows a (E x) ∧ GStep σ (S x)) Q) a σ) (h2 : ∀ x, AW P N d Q (E x) (S x)) : AW P N c (thenA (AW P N d Q) Q) a σ := by
  refine h1.mono fun e a σ h => ?_
  cases e with
  | normal => obtain ⟨x, hk, hg⟩ := h; exact aw_forget hk (aw_ghost hg (h2 x))
  | exit id => exact h
  | goto l => exact h
  | ret => exact h
  | panic ch => exact h
  | outgrown => exact h
end Go.Ts
namespace Go.Proofs.Ythfgocinlbogeaa
open Go.Ts Go.Sets
set_option linter.unusedSimpArgs false
set_option linter.unusedVariables false
attribute [local irreducible] Go.Ts.AW Go.Ts.AOps Go.Ts.AL Go.Ts.AOp Go.Ts.ACalls Go.Ts.DL Go.Ts.DQ Go.Ts.DQ0 Go.Ts.EL
theorem d_num {r : RS} {n : Nat} (h8 : n ≤ 8) (i : Nat) : OnL Try.prog 52 [.ptr i 0, .int .i64 (n : Int)] [(i, .cells [sT r.b, .int .i64 r.e])] (fun u L => u = .int .u64 (rdN r n).1 ∧ L = [(i, .cells [sT (rdN r n).2.b, .int .i64 (rdN r n).2.e])]) := by
  intro off
  obtain ⟨b, e⟩ := r
  dsimp only
  by_cases he : e = 0
  · subst he
    have hT := takeEn b n h8
    by_cases h1 : b.length < n
    · rw [if_pos h1] at hT
      have hh : rdN ⟨b, 0⟩ n = (0, ⟨b, 3⟩) := by rw [rdN, if_pos rfl, if_pos h1]
      have hc := ref_Take_is (bytesT_s b) hT
      rw [hh]
      refine Ad (N := 37) (rs := [.tmp 4]) hG Try.func52 rfl rfl rfl rfl rfl ?_
      repeat' (first | (show AL _ _ _ _ _ _ _ _; first | refine so2 ?_ | refine sp Y Y Y Y Y Y (by apply hc <;> exact sd) ?_) | (show AW _ _ _ _ _ _; first | (show AW _ _ (.region _ _ _) _ _ _; refine sc0 ?_; intro O1) | (refine sc1 ?_; try intro Q1)) | (show (_ → _) ∧ _; refine ⟨fun h => ?_, fun h => ?_⟩) | fail)
      exact ret_on (L' := [(i, .cells [sT b, .int .i64 3])]) (Ab rfl Ac) hs (.refl _) rfl ⟨rfl, rfl⟩
    · rw [if_neg h1] at hT
      have hh : rdN ⟨b, 0⟩ n = (beV (b.take n), ⟨b.drop n, 0⟩) := by rw [rdN, if_pos rfl, if_neg h1]
      have hc := ref_Take_is (bytesT_s b) hT
      rw [hh]
      refine Ad (N := 37) (rs := [.tmp 4]) hG Try.func52 rfl rfl rfl rfl rfl ?_
      repeat' (first | (show AL _ _ _ _ _ _ _ _; first | refine so2 ?_ | refine sp Y Y Y Y Y Y (by apply hc <;> exact sd) ?_) | (show AW _ _ _ _ _ _; first | (show AW _ _ (.region _ _ _) _ _ _; refine sc0 ?_; intro O1) | (refine sc1 ?_; try intro Q1)) | (show (_ → _) ∧ _; refine ⟨fun h => ?_, fun h => ?_⟩) | fail)
      exact ret_on (L' := [(i, .cells [sT (b.drop n), .int .i64 0])]) (Ab rfl Ac) hs (.refl _) rfl ⟨rfl, rfl⟩
  · have hh : rdN ⟨b, e⟩ n = (0, ⟨b, e⟩) := by rw [rdN, if_neg he]
    rw [hh]
    refine Ad (N := 37) (rs := [.tmp 4]) hG Try.func52 rfl rfl rfl rfl rfl ?_
    repeat' (first | (show AL _ _ _ _ _ _ _ _; first | refine so2 ?_) | (show AW _ _ _ _ _ _; first | (show AW _ _ (.region _ _ _) _ _ _; refine sc0 ?_; intro O1) | (refine sc1 ?_; try intro Q1)) | (show (_ → _) ∧ _; refine ⟨fun h => ?_, fun h => ?_⟩) | fail)
    exact ret_on (L' := [(i, .cells [sT b, .int .i64 e])]) (Ab rfl Ac) hs (.refl _) rfl ⟨rfl, rfl⟩
theorem d_data {r : RS} (hl : r.b.length ≤ 4294967296) (i : Nat) : OnL Try.prog 55 [.ptr i 0] [(i, .cells [sT r.b, .int .i64 r.e])] (fun u L => u = sT (rdB r).1 ∧ L = [(i, .cells [sT (rdB r).2.b, .int .i64 (rdB r).2.e])]) := by
  intro off
  obtain ⟨b, e⟩ := r
  dsimp only at hl ⊢
  by_cases he : e = 0
  · subst he
    have hc := ref_TakeBytes (x := sT b) (bytesT_s b) hl
    have h3 := takeBE_3 b
    have hh : rdB ⟨b, 0⟩ = (if (Az b).2.2 = 0 then ((Az b).1, ⟨b.drop (Az b).2.1, 0⟩) else ([], ⟨b, 3⟩)) := by rw [rdB, if_pos rfl]
    have hz : (Az b).2.2 ≠ 0 → Az b = ([], 0, 3) := fun h => by
      rcases takeBE_e b with q | q
      · exact absurd q.1 h
      · exact q
    generalize Az b = t at *
    obtain ⟨s, n, e⟩ := t
    dsimp only at *
    unfold tbT at hc
    dsimp only at hc
    by_cases h1 : e = 0
    · subst h1
      rw [if_pos rfl] at hh
      rw [hh]
      refine Ad (N := 34) (rs := [.tmp 2]) hG Try.func55 rfl rfl rfl rfl rfl ?_
      repeat' (first | (show AL _ _ _ _ _ _ _ _; first | refine so2 ?_ | refine sp Y Y Y Y Y Y (by apply hc <;> exact sd) ?_) | (show AW _ _ _ _ _ _; first | (show AW _ _ (.region _ _ _) _ _ _; refine sc0 ?_; intro O1) | (refine sc1 ?_; try intro Q1)) | (show (_ → _) ∧ _; refine ⟨fun h => ?_, fun h => ?_⟩) | fail)
      exact ret_on (L' := [(i, .cells [sT (b.drop n), .int .i64 0])]) (Ab rfl Ac) hs (.refl _) rfl ⟨rfl, rfl⟩
    · have := hz h1
      injection this with e1 e2; injection e2 with e2 e3; subst e1; subst e2; subst e3
      rw [if_neg h1] at hh
      rw [hh]
      refine Ad (N := 34) (rs := [.tmp 2]) hG Try.func55 rfl rfl rfl rfl rfl ?_
      repeat' (first | (show AL _ _ _ _ _ _ _ _; first | refine so2 ?_ | refine sp Y Y Y Y Y Y (by apply hc <;> exact sd) ?_) | (show AW _ _ _ _ _ _; first | (show AW _ _ (.region _ _ _) _ _ _; refine sc0 ?_; intro O1) | (refine sc1 ?_; try intro Q1)) | (show (_ → _) ∧ _; refine ⟨fun h => ?_, fun h => ?_⟩) | fail)
      exact ret_on (L' := [(i, .cells [sT b, .int .i64 3])]) (Ab rfl Ac) hs (.refl _) rfl ⟨rfl, rfl⟩
  · have hh : rdB ⟨b, e⟩ = ([], ⟨b, e⟩) := by rw [rdB, if_neg he]
    rw [hh]
    refine Ad (N := 34) (rs := [.tmp 2]) hG Try.func55 rfl rfl rfl rfl rfl ?_
    repeat' (first | (show AL _ _ _ _ _ _ _ _; first | refine so2 ?_) | (show AW _ _ _ _ _ _; first | (show AW _ _ (.region _ _ _) _ _ _; refine sc0 ?_; intro O1) | (refine sc1 ?_; try intro Q1)) | (show (_ → _) ∧ _; refine ⟨fun h => ?_, fun h => ?_⟩) | fail)
    exact ret_on (L' := [(i, .cells [sT b, .int .i64 e])]) (Ab rfl Ac) hs (.nil 1) rfl ⟨rfl, rfl⟩
theorem d_label {r : RS} {c0 c1 c2 c3 c4 c5 c6 c7 c11 c12 : T} (hl : r.b.length ≤ 4294967296) (i j : Nat) : OnL Try.prog 53 [.ptr i 0, .ptr j 0, .bool true] [(i, .cells [sT r.b, .int .i64 r.e]), (j, .cells [c0, c1, c2, c3, c4, c5, c6, c7, .nilsl, .nilsl, .nilsl, c11, c12])] (fun u L => ∃ S I O, Wk S (cT (rdS r).1.s) ∧ Wk I (cT (rdS r).1.i) ∧ Wk O (cT (rdS r).1.o) ∧ (S.scalar && I.scalar && O.scalar) = true ∧ u = .tup [] ∧ L = [(i, .cells [sT (rdS r).2.b, .int .i64 (rdS r).2.e]), (j, .cells [c0, c1, c2, c3, c4, c5, c6, c7, S, I, O, c11, c12])]) := by
  intro off
  obtain ⟨b, e⟩ := r
  dsimp only at hl ⊢
  by_cases he : e = 0
  · subst he
    have hc := ref_TakeSets (x := sT b) (bytesT_s b) hl
    have hsm := takeS_small b
    have hh : rdS ⟨b, 0⟩ = (if (takeS b).e = 0 then (⟨(takeS b).a, (takeS b).b, (takeS b).c⟩, ⟨b.drop (takeS b).n, 0⟩) else (⟨[], [], []⟩, ⟨b, (takeS b).e⟩)) := by rw [rdS, if_pos rfl]
    have hz := takeS_no (s := b)
    generalize takeS b = t at *
    obtain ⟨ta, tb, tc, n, e⟩ := t
    unfold tsT at hc
    dsimp only at *
    by_cases h1 : e = 0
    · subst h1
      rw [if_pos rfl] at hh
      rw [hh]
      have hn := hsm.2.2.2
      refine Ad (N := 52) (rs := []) hG Try.func53 rfl rfl rfl rfl rfl ?_
      repeat' (first | (show AL _ _ _ _ _ _ _ _; first | refine so2 ?_ | refine sp Y Y Y Y Y Y (by apply hc <;> exact sd) ?_) | (show AW _ _ _ _ _ _; first | (show AW _ _ (.region _ _ _) _ _ _; refine sc0 ?_; intro O1) | (refine sc1 ?_; try intro Q1)) | (show (_ → _) ∧ _; refine ⟨fun h => ?_, fun h => ?_⟩) | fail)
      refine al_nil ?_
      exact A2 (L' := [(i, .cells [sT (b.drop n), .int .i64 0]), (j, .cells _)]) Ac hs (.refl _) rfl ⟨_, _, _, .refl _, .refl _, .refl _, rfl, rfl, rfl⟩
    · rw [if_neg h1] at hh
      rw [hh]
      obtain ⟨rfl, rfl, rfl, rfl⟩ := hz h1
      refine Ad (N := 52) (rs := []) hG Try.func53 rfl rfl rfl rfl rfl ?_
      repeat' (first | (show AL _ _ _ _ _ _ _ _; first | refine so2 ?_ | refine sp Y Y Y Y Y Y (by apply hc <;> exact sd) ?_) | (show AW _ _ _ _ _ _; first | (show AW _ _ (.region _ _ _) _ _ _; refine sc0 ?_; intro O1) | (refine sc1 ?_; try intro Q1)) | (show (_ → _) ∧ _; refine ⟨fun h => ?_, fun h => ?_⟩) | fail)
      refine al_nil ?_
      exact A2 (L' := [(i, .cells [sT b, .int .i64 e]), (j, .cells _)]) Ac hs (.refl _) rfl ⟨_, _, _, .refl _, .refl _, .refl _, rfl, rfl, rfl⟩
  · have hh : rdS ⟨b, e⟩ = (⟨[], [], []⟩, ⟨b, e⟩) := by rw [rdS, if_neg he]
    rw [hh]
    refine Ad (N := 52) (rs := []) hG Try.func53 rfl rfl rfl rfl rfl ?_
    repeat' (first | (show AL _ _ _ _ _ _ _ _; first | refine so2 ?_) | (show AW _ _ _ _ _ _; first | (show AW _ _ (.region _ _ _) _ _ _; refine sc0 ?_; intro O1) | (refine sc1 ?_; try intro Q1)) | (show (_ → _) ∧ _; refine ⟨fun h => ?_, fun h => ?_⟩) | fail)
    exact ret_on (L' := [(i, .cells [sT b, .int .i64 e]), (j, .cells _)]) Ac hs (.refl _) rfl ⟨_, _, _, .nil 1, .nil 1, .nil 1, rfl, rfl, rfl⟩
def thingF (k : Nat) (r : RS) : (Nat × List UInt8 × List UInt16) × RS := if k = 1 then (((rdN r 2).1, [], []), (rdN r 2).2) else if k = 2 then ((0, (rdB r).1, []), (rdB r).2) else if k = 3 then ((0, [], (rdC r).1), (rdC r).2) else ((0, [], []), r)
theorem d_thing {r : RS} {k : Nat} (hk : k < 256) {c0 c2 c3 c4 c6 c7 c8 c9 c10 : T} (hl : r.b.length ≤ 4294967296) (i j : Nat) : OnL Try.prog 54 [.ptr i 0, .ptr j 0] [(i, .cells [sT r.b, .int .i64 r.e]), (j, .cells [c0, .int .i64 (k : Int), c2, c3, c4, .int .i64 0, c6, c7, c8, c9, c10, .nilsl, .nilsl])] (fun u L => ∃ D C, Wk D (sT (thingF k r).1.2.1) ∧ Wk C (cT (thingF k r).1.2.2) ∧ (D.scalar && C.scalar) = true ∧ u = .tup [] ∧ L = [(i, .cells [sT (thingF k r).2.b, .int .i64 (thingF k r).2.e]), (j, .cells [c0, .int .i64 (k : Int), c2, c3, c4, .int .i64 ((thingF k r).1.1 : Int), c6, c7, c8, c9, c10, D, C])]) := by
  intro off
  have hv : (rdN r 2).1 < 65536 := rdN_lt r 2
  by_cases he : r.e = 0
  · by_cases k1 : k = 1
    · have hF : thingF k r = (((rdN r 2).1, [], []), (rdN r 2).2) := by rw [thingF, if_pos k1]
      rw [hF]
      dsimp only
      refine Ad (N := 55) (rs := []) hG Try.func54 rfl rfl rfl rfl rfl ?_
      repeat' (first | (show AL _ _ _ _ _ _ _ _; first | refine so0 ?_) | (show AW _ _ _ _ _ _; first | (show AW _ _ (.region _ _ _) _ _ _; refine sc0 ?_; intro O1) | (refine sc0 ?_; try intro Q1)) | (show (_ → _) ∧ _; refine ⟨fun h => ?_, fun h => ?_⟩) | fail)
      refine al_on (d_num (r := r) (n := 2) (by omega) i) rfl rfl rfl rfl rfl rfl hs ?_
      rintro u9 L9 ⟨rfl, rfl⟩
      repeat' (first | (show AL _ _ _ _ _ _ _ _; first | refine so0 ?_) | (show AW _ _ _ _ _ _; first | (show AW _ _ (.region _ _ _) _ _ _; refine sc0 ?_; intro O1) | (refine sc0 ?_; try intro Q1)) | (show (_ → _) ∧ _; refine ⟨fun h => ?_, fun h => ?_⟩) | fail)
      refine al_nil ?_
      dsimp (config := { zetaDelta := true }) only [thenA, Ah, jumpA, Ao]
      exact A2 (L' := [(i, .cells [sT (rdN r 2).2.b, .int .i64 (rdN r 2).2.e]), (j, .cells _)]) Ac hs (.refl _) rfl ⟨_, _, .nil 1, .nil 1, rfl, rfl, rfl⟩
    by_cases k2 : k = 2
    · have hF : thingF k r = ((0, (rdB r).1, []), (rdB r).2) := by rw [thingF, if_neg k1, if_pos k2]
      rw [hF]
      dsimp only
      refine Ad (N := 55) (rs := []) hG Try.func54 rfl rfl rfl rfl rfl ?_
      repeat' (first | (show AL _ _ _ _ _ _ _ _; first | refine so0 ?_) | (show AW _ _ _ _ _ _; first | (show AW _ _ (.region _ _ _) _ _ _; refine sc0 ?_; intro O1) | (refine sc0 ?_; try intro Q1)) | (show (_ → _) ∧ _; refine ⟨fun h => ?_, fun h => ?_⟩) | fail)
      refine al_on (d_data (r := r) hl i) rfl rfl rfl rfl rfl rfl hs ?_
      rintro u9 L9 ⟨rfl, rfl⟩
      repeat' (first | (show AL _ _ _ _ _ _ _ _; first | refine so0 ?_) | (show AW _ _ _ _ _ _; first | (show AW _ _ (.region _ _ _) _ _ _; refine sc0 ?_; intro O1) | (refine sc0 ?_; try intro Q1)) | (show (_ → _) ∧ _; refine ⟨fun h => ?_, fun h => ?_⟩) | fail)
      refine al_nil ?_
      dsimp (config := { zetaDelta := true }) only [thenA, Ah, jumpA, Ao]
      exact A2 (L' := [(i, .cells [sT (rdB r).2.b, .int .i64 (rdB r).2.e]), (j, .cells _)]) Ac hs (.refl _) rfl ⟨_, _, .refl _, .nil 1, rfl, rfl, rfl⟩
    by_cases k3 : k = 3
    · obtain ⟨b, e⟩ := r
      dsimp only at he hl hv ⊢
      subst he
      have hF : thingF k ⟨b, 0⟩ = ((0, [], (rdC ⟨b, 0⟩).1), (rdC ⟨b, 0⟩).2) := by rw [thingF, if_neg k1, if_neg k2, if_pos k3]
      have hc := ref_TakeSet (x := sT b) (bytesT_s b) hl
      have h3 := takeC_3 b
      have hh : rdC ⟨b, 0⟩ = (if (Ag b).2.2 = 0 then ((Ag b).1, ⟨b.drop (Ag b).2.1, 0⟩) else ([], ⟨b, (Ag b).2.2⟩)) := by rw [rdC, if_pos rfl]
      have hz : (Ag b).2.2 ≠ 0 → (Ag b).1 = [] := takeC_no
      generalize Ag b = t at *
      obtain ⟨s, n, e⟩ := t
      unfold tcT at hc
      dsimp only at *
      by_cases h1 : e = 0
      · subst h1
        rw [if_pos rfl] at hh
        rw [hF, hh]
        dsimp only
        refine Ad (N := 55) (rs := []) hG Try.func54 rfl rfl rfl rfl rfl ?_
        repeat' (first | (show AL _ _ _ _ _ _ _ _; first | refine so2 ?_ | refine sp Y Y Y Y Y Y (by apply hc <;> exact sd) ?_) | (show AW _ _ _ _ _ _; first | (show AW _ _ (.region _ _ _) _ _ _; refine sc0 ?_; intro O1) | (refine sc1 ?_; try intro Q1)) | (show (_ → _) ∧ _; refine ⟨fun h => ?_, fun h => ?_⟩) | fail)
        refine al_nil ?_
        dsimp (config := { zetaDelta := true }) only [thenA, Ah, jumpA, Ao]
        exact A2 (L' := [(i, .cells [sT (b.drop n), .int .i64 0]), (j, .cells _)]) Ac hs (.refl _) rfl ⟨_, _, .nil 1, .refl _, rfl, rfl, rfl⟩
      · rw [if_neg h1] at hh
        rw [hF, hh]
        dsimp only
        obtain rfl := hz h1
        obtain rfl : n = 0 := by omega
        refine Ad (N := 55) (rs := []) hG Try.func54 rfl rfl rfl rfl rfl ?_
        repeat' (first | (show AL _ _ _ _ _ _ _ _; first | refine so2 ?_ | refine sp Y Y Y Y Y Y (by apply hc <;> exact sd) ?_) | (show AW _ _ _ _ _ _; first | (show AW _ _ (.region _ _ _) _ _ _; refine sc0 ?_; intro O1) | (refine sc1 ?_; try intro Q1)) | (show (_ → _) ∧ _; refine ⟨fun h => ?_, fun h => ?_⟩) | fail)
        refine al_nil ?_
        dsimp (config := { zetaDelta := true }) only [thenA, Ah, jumpA, Ao]
        exact A2 (L' := [(i, .cells [sT b, .int .i64 e]), (j, .cells _)]) Ac hs (.refl _) rfl ⟨_, _, .nil 1, .refl _, rfl, rfl, rfl⟩
    · have hF : thingF k r = ((0, [], []), r) := by rw [thingF, if_neg k1, if_neg k2, if_neg k3]
      rw [hF]
      dsimp only
      refine Ad (N := 55) (rs := []) hG Try.func54 rfl rfl rfl rfl rfl ?_
      repeat' (first | (show AL _ _ _ _ _ _ _ _; first | refine so0 ?_) | (show AW _ _ _ _ _ _; first | (show AW _ _ (.region _ _ _) _ _ _; refine sc0 ?_; intro O1) | (refine sc0 ?_; try intro Q1)) | (show (_ → _) ∧ _; refine ⟨fun h => ?_, fun h => ?_⟩) | fail)
      refine aw_skip ?_
      dsimp (config := { zetaDelta := true }) only [thenA, Ah, jumpA, Ao]
      exact A2 (L' := [(i, .cells [sT r.b, .int .i64 r.e]), (j, .cells _)]) Ac hs (.refl _) rfl ⟨_, _, .nil 1, .nil 1, rfl, rfl, rfl⟩
  · have hF : thingF k r = ((0, [], []), r) := by
      unfold thingF
      rw [rdN, if_neg he, rdB, if_neg he, rdC, if_neg he]
      (repeat' split) <;> rfl
    rw [hF]
    dsimp only
    refine Ad (N := 55) (rs := []) hG Try.func54 rfl rfl rfl rfl rfl ?_
    repeat' (first | (show AL _ _ _ _ _ _ _ _; first | refine so0 ?_) | (show AW _ _ _ _ _ _; first | (show AW _ _ (.region _ _ _) _ _ _; refine sc0 ?_; intro O1) | (refine sc0 ?_; try intro Q1)) | (show (_ → _) ∧ _; refine ⟨fun h => ?_, fun h => ?_⟩) | fail)
    exact ret_on (L' := [(i, .cells [sT r.b, .int .i64 r.e]), (j, .cells _)]) Ac hs (.refl _) rfl ⟨_, _, .nil 1, .nil 1, rfl, rfl, rfl⟩
end Go.Proofs.Ythfgocinlbogeaa
