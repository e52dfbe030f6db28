/- Part of the proof of the law WalkAll: the texts WC, UK, UD, UE, UF. No conditions. -/
import Derived.Test.YtmckbfdklcmogaaWalkAllC
import Derived.Sort.LotC
set_option linter.unusedSimpArgs false
set_option linter.unusedVariables false
namespace Go.Ts
section
variable {P : Program} {G : Nat → Option TI} {N : Nat} {σ : St} {a : Env} {K : Env → St → Prop} {d : Tmp} {ty : TypeId} {pos : String} {af : Array Edge} {gd : Option (Nat × Bool)}
def kvT (p : Nat × Int) : T × T := (.int .u64 (p.1 : Int), .int .i64 p.2)
def kfind (k : Nat) : List (Nat × Int) → Nat → Option (Nat × Int)
  | [], _ => none
  | p :: m, i => if k = p.1 then some (i, p.2) else kfind k m (i + 1)
def klook (m : List (Nat × Int)) (k : Nat) : Int := ((kfind k m 0).map (·.2)).getD 0
def khas (m : List (Nat × Int)) (k : Nat) : Bool := (kfind k m 0).isSome
def kset (m : List (Nat × Int)) (k : Nat) (v : Int) : List (Nat × Int) := match kfind k m 0 with
  | some (p, _) => m.set p (k, v)
  | none => m ++ [(k, v)]
theorem findX_kv (k : Nat) : ∀ (m : List (Nat × Int)) (i : Nat), findX .u64 (k : Int) (m.map kvT) i = some ((kfind k m i).map fun p => (p.1, .int .i64 p.2))
  | [], i => rfl
  | p :: m, i => by
    have ih := findX_kv k m (i + 1)
    simp only [List.map_cons, kvT, findX, decide_true, cond_true, kfind]
    by_cases h : k = p.1
    · have h2 : ((k : Nat) : Int) = ((p.1 : Nat) : Int) := by omega
      rw [if_pos h, decide_eq_true h2]; rfl
    · have h2 : ¬ ((k : Nat) : Int) = ((p.1 : Nat) : Int) := by omega
      rw [if_neg h, decide_eq_false h2]; exact ih
theorem found_kv (m : List (Nat × Int)) (k : Nat) : foundX (.int .i64 0) ((kfind k m 0).map fun p => (p.1, .int .i64 p.2)) = .int .i64 (klook m k) := by
  unfold klook; cases kfind k m 0 <;> rfl
theorem mapSet_kv (m : List (Nat × Int)) (k : Nat) (v : Int) : mapSet .u64 (k : Int) (.int .i64 v) (m.map kvT) ((kfind k m 0).map fun p => (p.1, .int .i64 p.2)) = (kset m k v).map kvT := by
  unfold kset
  cases kfind k m 0 with
  | none => simp [mapSet, kvT]
  | some p => obtain ⟨p, w⟩ := p; simp [mapSet, kvT, List.map_set]
theorem Bz {t kt et : TypeId} {x y : Operand} {ti tk te : TI} {k i n : Nat} {m : List (Nat × Int)} (hG : Fits P G) (hx : Bj a x = some (.map (some i))) (hy : Bj a y = some (.int .u64 ((k : Nat) : Int))) (hob : σ.L[n]? = some (i, .map (m.map kvT)))
    (ht : G t = some ti) (htd : ti.d = .map kt et) (hk : G kt = some tk) (hkd : tk.d = .int .u64) (he : G et = some te) (hz : te.tree = .int .i64 0) (hd : Bt N (some d) = true)
    (kk : K (put a (some d) (.int .i64 (klook m k))) σ) : AOp P N ⟨some d, .lookup t x y false, ty, pos, af, gd⟩ a σ K := by
  refine aop_lookup hG rfl ht htd hk hkd he hx hy (List.mem_of_getElem? hob) (findX_kv k m 0) hd ?_
  rw [hz, found_kv]; exact kk
theorem r_lookF {t kt et : TypeId} {x y : Operand} {ti tk te : TI} {k : Nat} {m : List (Nat × Int)} (hG : Fits P G) (hx : Bj a x = some (.mro ((m.map kvT).map Prod.fst) ((m.map kvT).map Prod.snd))) (hy : Bj a y = some (.int .u64 ((k : Nat) : Int)))
    (ht : G t = some ti) (htd : ti.d = .map kt et) (hk : G kt = some tk) (hkd : tk.d = .int .u64) (he : G et = some te) (hz : te.tree = .int .i64 0) (hd : Bt N (some d) = true)
    (kk : K (put a (some d) (.int .i64 (klook m k))) σ) : AOp P N ⟨some d, .lookup t x y false, ty, pos, af, gd⟩ a σ K := by
  refine aop_lookupF hG rfl ht htd hk hkd he hx hy (findX_kv k m 0) hd ?_
  rw [hz, found_kv]; exact kk
theorem Cq {t kt et : TypeId} {x y : Operand} {ti tk te : TI} {k : Nat} {m : List (Nat × Int)} (hG : Fits P G) (hx : Bj a x = some (.mro ((m.map kvT).map Prod.fst) ((m.map kvT).map Prod.snd))) (hy : Bj a y = some (.int .u64 ((k : Nat) : Int)))
    (ht : G t = some ti) (htd : ti.d = .map kt et) (hk : G kt = some tk) (hkd : tk.d = .int .u64) (he : G et = some te) (hz : te.tree = .int .i64 0) (hd : Bt N (some d) = true)
    (kk : K (put a (some d) (.tup [.int .i64 (klook m k), .bool (khas m k)])) σ) : AOp P N ⟨some d, .lookup t x y true, ty, pos, af, gd⟩ a σ K := by
  refine aop_lookupF hG rfl ht htd hk hkd he hx hy (findX_kv k m 0) hd ?_
  rw [hz, found_kv, Option.isSome_map]; exact kk
theorem B7 {t kt et : TypeId} {mo x y : Operand} {ti tk : TI} {k i : Nat} {v : Int} {m : List (Nat × Int)} (n : Nat) (hG : Fits P G) (hm : Bj a mo = some (.map (some i))) (hx : Bj a x = some (.int .u64 ((k : Nat) : Int))) (hy : Bj a y = some (.int .i64 v)) (hob : σ.L[n]? = some (i, .map (m.map kvT)))
    (ht : G t = some ti) (htd : ti.d = .map kt et) (hk : G kt = some tk) (hkd : tk.d = .int .u64) (kk : K (put a none (.tup [])) (σ.set n i (.map ((kset m k v).map kvT)))) : AOp P N ⟨none, .mapUpdate t mo x y, ty, pos, af, gd⟩ a σ K := by
  refine aop_mapUpdate hG rfl ht htd hk hkd hm hx hy hob (findX_kv k m 0) rfl ?_
  rw [mapSet_kv]; exact kk
end
end Go.Ts
namespace Go.Proofs.Ytmckbfdklcmogaa
open Go.Ts
set_option linter.unusedSimpArgs false
set_option linter.unusedVariables false
attribute [local irreducible] Go.Ts.AW Go.Ts.AOps Go.Ts.AL Go.Ts.AOp Go.Ts.ACalls Go.Ts.DL Go.Ts.DQ0 Go.Ts.EL
structure OB where
  id : Nat
  kind : Int
  c2 : T
  c3 : T
  c4 : T
  c5 : T
  c6 : T
  c7 : T
  c8 : T
  c9 : T
  c10 : T
  c11 : T
  c12 : T
  hid : id < 18446744073709551616
  hs : [c2, c3, c4, c5, c6, c7, c8, c9, c10, c11, c12].all T.scalar = true
instance : Inhabited OB := ⟨⟨0, 0, .nilsl, .nilsl, .nilsl, .nilsl, .nilsl, .nilsl, .nilsl, .nilsl, .nilsl, .nilsl, .nilsl, by decide, rfl⟩⟩
def oT (o : OB) : T := .agg [.int .u64 (o.id : Int), .int .i64 o.kind, o.c2, o.c3, o.c4, o.c5, o.c6, o.c7, o.c8, o.c9, o.c10, o.c11, o.c12]
instance : Enc oT 13 := ⟨fun x c h => by
  simp only [oT, T.cells] at h
  rcases List.mem_cons.1 h with rfl | h
  · rfl
  · rcases List.mem_cons.1 h with rfl | h
    · rfl
    · exact List.all_eq_true.1 x.hs c h, fun x => rfl⟩
structure SIX (a b : List Nat) where
  i : Nat
  hi : i ≤ a.length
  hp : ∀ j, j < i → a.getD j default = b.getD j default
theorem ref_SameIDs {x y : T} {a b : List Nat} (hx : idsT x = some a) (hy : idsT y = some b) (hl : a.length ≤ 4294967296) (hm : b.length ≤ 4294967296) : Ts.Pure Try.prog 9 [x, y] (.bool (decide (a = b))) := by
  refine Pure.weak (us := [.sl 1 .no (a.map mT), .sl 1 .no (b.map mT)]) ?_ (wk2 (idsT_wk hx) (idsT_wk hy))
  intro off
  refine Br (N := 26) (rs := [.tmp 4]) hG Try.func9 rfl rfl rfl rfl rfl ?_
  by_cases hlen : a.length = b.length
  · repeat' (first
    | ((first | (show AL _ _ _ _ _ _ _ _; refine Ag Y ?_) | (show DL _ _ _ _ _ _ _; refine' A8 Y Y (fun K kk => ?_) ?_; try (show Go.Ts.T; rotate_left))); (first
      | refine Aq hG Y Y ?_
      | refine A5 hG Y Y ?_
      | (show AOp _ _ ⟨_, .call ⟨.builtin .len, _, _⟩, _, _, _, _⟩ _ _ _; first | refine Bh hG Y Y Y Y ?_ | refine Bq hG Y Y Y Y Y ?_)
      | (show AOp _ _ ⟨_, .binOp .add _ _ _ _, _, _, _, _⟩ _ _ _; first | refine Ac hG Y Y Y Y Y (by omega) ?_ | refine Ac (m := 1) hG Y Y Y Y Y (by omega) ?_ | refine Ab hG Y Y Y Y Y (by omega) ?_)
      | (show AOp _ _ ⟨_, .binOp _ _ _ _ _, _, _, _, _⟩ _ _ _; first | refine At hG Y Y Y Y Y (by omega) ?_ | refine Au hG Y Y Y Y Y (by omega) ?_ | ((fail_if_success have := kk); refine Am hG Y Y Y Y Y (fun h => ?_) (fun h => ?_)))
      | (show AOp _ _ ⟨_, .load _ _, _, _, _, _⟩ _ _ _; first | refine Ak (α := UInt16) 0 hG Y Y Y Y (by omega) Y ?_ | refine Ak (α := UInt16) 1 hG Y Y Y Y (by omega) Y ?_ | refine Ay hG Y Y Y ?_ | refine Bg 0 hG Y Y Y Y ?_)
      | (show AOp _ _ ⟨_, .indexAddr _ _ _, _, _, _, _⟩ _ _ _; first | refine A1 hG Y Y Y Y Y Y Y (by omega) ?_ | refine A0 hG Y Y Y Y Y Y Y (by omega) ?_ | refine Az hG Y Y Y Y Y Y Y (by omega) ?_ | refine A9 hG Y Y ?_)
      | refine r_q hG Y Y Y ?_); try exact kk)
    | (show AL _ _ _ _ _ _ _ _; first | refine Bk Y Y Y ?_ | (refine Ar ?_; first | show AW _ _ _ _ _ _ | show ∃ x', _ < _ ∧ _)) | (show AW _ _ (.seq _ _) _ _ _; refine Ai ?_; intro Q1) | (show AW _ _ (.region _ _ false) _ _ _; refine Ad ?_; intro O1) | (show AW _ _ (.cond _ _ _) _ _ _; first | refine Ao Y ?_ | refine Ap Y ?_ | refine Ba Y (fun h => ?_) (fun h => ?_)) | (show AW _ _ (.skip) _ _ _; refine Aj ?_; first | show AW _ _ _ _ _ _ | show ∃ x', _ < _ ∧ _) | (show AW _ _ (.block _ _) _ _ _; refine Ae ?_; intro Q1) | (show AW _ _ (.exit _) _ _ _; refine Al ?_; first | show AW _ _ _ _ _ _ | show ∃ x', _ < _ ∧ _) | (show AW _ _ (.ret) _ _ _; refine Aw ?_; try dsimp only [Ax, Aa, A2, Af])
    | (show DL _ _ _ _ _ _ _; refine Bx Y Y (fun K kt kf => Am hG Y Y Y Y Y kt kf) (fun h => ?_) (fun h => ?_))
    | (show DL _ _ _ _ _ _ _; refine By Y Y Y ?_) | (show DL _ _ _ _ _ _ _; refine Be ?_; first | show AW _ _ _ _ _ _ | show ∃ x', _ < _ ∧ _) | (show AW _ _ (.region _ _ true) _ _ _; refine A3 mix (by kernel_rfl) ?_; intro O1) | fail)
    refine Ch (X := SIX a b) (fun x => [(0, .sl 1 .no (a.map mT)), (1, .sl 1 .no (b.map mT)), (5, .int .i64 (x.i : Int))]) (fun x => ⟨[], [], off, none⟩) (fun x => a.length - x.i) ⟨0, Nat.zero_le _, fun j hj => by omega⟩ (by repeat (first | exact .nil _ | refine .cons rfl ?_)) (.refl _) ?_
    rintro ⟨i, hi, hp⟩
    dsimp only
    by_cases hib : i < a.length
    · by_cases heq : (((a.getD i default : Nat) : Int) = ((b.getD i default : Nat) : Int))
      · repeat' (first
    | ((first | (show AL _ _ _ _ _ _ _ _; refine Ag Y ?_) | (show DL _ _ _ _ _ _ _; refine' A8 Y Y (fun K kk => ?_) ?_; try (show Go.Ts.T; rotate_left))); (first
      | refine Aq hG Y Y ?_
      | refine A5 hG Y Y ?_
      | (show AOp _ _ ⟨_, .call ⟨.builtin .len, _, _⟩, _, _, _, _⟩ _ _ _; first | refine Bh hG Y Y Y Y ?_ | refine Bq hG Y Y Y Y Y ?_)
      | (show AOp _ _ ⟨_, .binOp .add _ _ _ _, _, _, _, _⟩ _ _ _; first | refine Ac hG Y Y Y Y Y (by omega) ?_ | refine Ac (m := 1) hG Y Y Y Y Y (by omega) ?_ | refine Ab hG Y Y Y Y Y (by omega) ?_)
      | (show AOp _ _ ⟨_, .binOp _ _ _ _ _, _, _, _, _⟩ _ _ _; first | refine At hG Y Y Y Y Y (by omega) ?_ | refine Au hG Y Y Y Y Y (by omega) ?_ | ((fail_if_success have := kk); refine Am hG Y Y Y Y Y (fun h => ?_) (fun h => ?_)))
      | (show AOp _ _ ⟨_, .load _ _, _, _, _, _⟩ _ _ _; first | refine Ak (α := UInt16) 0 hG Y Y Y Y (by omega) Y ?_ | refine Ak (α := UInt16) 1 hG Y Y Y Y (by omega) Y ?_ | refine Ay hG Y Y Y ?_ | refine Bg 0 hG Y Y Y Y ?_)
      | (show AOp _ _ ⟨_, .indexAddr _ _ _, _, _, _, _⟩ _ _ _; first | refine A1 hG Y Y Y Y Y Y Y (by omega) ?_ | refine A0 hG Y Y Y Y Y Y Y (by omega) ?_ | refine Az hG Y Y Y Y Y Y Y (by omega) ?_ | refine A9 hG Y Y ?_)
      | refine r_q hG Y Y Y ?_); try exact kk)
    | (show AL _ _ _ _ _ _ _ _; first | refine Bk Y Y Y ?_ | (refine Ar ?_; first | show AW _ _ _ _ _ _ | show ∃ x', _ < _ ∧ _)) | (show AW _ _ (.seq _ _) _ _ _; refine Ai ?_; intro Q1) | (show AW _ _ (.region _ _ false) _ _ _; refine Ad ?_; intro O1) | (show AW _ _ (.cond _ _ _) _ _ _; first | refine Ao Y ?_ | refine Ap Y ?_ | refine Ba Y (fun h => ?_) (fun h => ?_)) | (show AW _ _ (.skip) _ _ _; refine Aj ?_; first | show AW _ _ _ _ _ _ | show ∃ x', _ < _ ∧ _) | (show AW _ _ (.block _ _) _ _ _; refine Ae ?_; intro Q1) | (show AW _ _ (.exit _) _ _ _; refine Al ?_; first | show AW _ _ _ _ _ _ | show ∃ x', _ < _ ∧ _) | (show AW _ _ (.ret) _ _ _; refine Aw ?_; try dsimp only [Ax, Aa, A2, Af])
    | (show DL _ _ _ _ _ _ _; refine Bx Y Y (fun K kt kf => Am hG Y Y Y Y Y kt kf) (fun h => ?_) (fun h => ?_))
    | (show DL _ _ _ _ _ _ _; refine By Y Y Y ?_) | (show DL _ _ _ _ _ _ _; refine Be ?_; first | show AW _ _ _ _ _ _ | show ∃ x', _ < _ ∧ _) | (show AW _ _ (.region _ _ true) _ _ _; refine A3 mix (by kernel_rfl) ?_; intro O1) | fail)
        refine ⟨⟨i + 1, by omega, fun j hj => ?_⟩, by dsimp only; omega, (by repeat (first | exact .nil _ | refine .cons rfl ?_)), .refl _⟩
        by_cases hj2 : j < i
        · exact hp j hj2
        · obtain rfl : j = i := by omega
          omega
      · repeat' (first
    | ((first | (show AL _ _ _ _ _ _ _ _; refine Ag Y ?_) | (show DL _ _ _ _ _ _ _; refine' A8 Y Y (fun K kk => ?_) ?_; try (show Go.Ts.T; rotate_left))); (first
      | refine Aq hG Y Y ?_
      | refine A5 hG Y Y ?_
      | (show AOp _ _ ⟨_, .call ⟨.builtin .len, _, _⟩, _, _, _, _⟩ _ _ _; first | refine Bh hG Y Y Y Y ?_ | refine Bq hG Y Y Y Y Y ?_)
      | (show AOp _ _ ⟨_, .binOp .add _ _ _ _, _, _, _, _⟩ _ _ _; first | refine Ac hG Y Y Y Y Y (by omega) ?_ | refine Ac (m := 1) hG Y Y Y Y Y (by omega) ?_ | refine Ab hG Y Y Y Y Y (by omega) ?_)
      | (show AOp _ _ ⟨_, .binOp _ _ _ _ _, _, _, _, _⟩ _ _ _; first | refine At hG Y Y Y Y Y (by omega) ?_ | refine Au hG Y Y Y Y Y (by omega) ?_ | ((fail_if_success have := kk); refine Am hG Y Y Y Y Y (fun h => ?_) (fun h => ?_)))
      | (show AOp _ _ ⟨_, .load _ _, _, _, _, _⟩ _ _ _; first | refine Ak (α := UInt16) 0 hG Y Y Y Y (by omega) Y ?_ | refine Ak (α := UInt16) 1 hG Y Y Y Y (by omega) Y ?_ | refine Ay hG Y Y Y ?_ | refine Bg 0 hG Y Y Y Y ?_)
      | (show AOp _ _ ⟨_, .indexAddr _ _ _, _, _, _, _⟩ _ _ _; first | refine A1 hG Y Y Y Y Y Y Y (by omega) ?_ | refine A0 hG Y Y Y Y Y Y Y (by omega) ?_ | refine Az hG Y Y Y Y Y Y Y (by omega) ?_ | refine A9 hG Y Y ?_)
      | refine r_q hG Y Y Y ?_); try exact kk)
    | (show AL _ _ _ _ _ _ _ _; first | refine Bk Y Y Y ?_ | (refine Ar ?_; first | show AW _ _ _ _ _ _ | show ∃ x', _ < _ ∧ _)) | (show AW _ _ (.seq _ _) _ _ _; refine Ai ?_; intro Q1) | (show AW _ _ (.region _ _ false) _ _ _; refine Ad ?_; intro O1) | (show AW _ _ (.cond _ _ _) _ _ _; first | refine Ao Y ?_ | refine Ap Y ?_ | refine Ba Y (fun h => ?_) (fun h => ?_)) | (show AW _ _ (.skip) _ _ _; refine Aj ?_; first | show AW _ _ _ _ _ _ | show ∃ x', _ < _ ∧ _) | (show AW _ _ (.block _ _) _ _ _; refine Ae ?_; intro Q1) | (show AW _ _ (.exit _) _ _ _; refine Al ?_; first | show AW _ _ _ _ _ _ | show ∃ x', _ < _ ∧ _) | (show AW _ _ (.ret) _ _ _; refine Aw ?_; try dsimp only [Ax, Aa, A2, Af])
    | (show DL _ _ _ _ _ _ _; refine Bx Y Y (fun K kt kf => Am hG Y Y Y Y Y kt kf) (fun h => ?_) (fun h => ?_))
    | (show DL _ _ _ _ _ _ _; refine By Y Y Y ?_) | (show DL _ _ _ _ _ _ _; refine Be ?_; first | show AW _ _ _ _ _ _ | show ∃ x', _ < _ ∧ _) | (show AW _ _ (.region _ _ true) _ _ _; refine A3 mix (by kernel_rfl) ?_; intro O1) | fail)
        refine Bu (Bm rfl Bl) (.eq ?_) rfl
        rw [decide_eq_false (fun h => heq (by rw [h]))]; rfl
    · repeat' (first
    | ((first | (show AL _ _ _ _ _ _ _ _; refine Ag Y ?_) | (show DL _ _ _ _ _ _ _; refine' A8 Y Y (fun K kk => ?_) ?_; try (show Go.Ts.T; rotate_left))); (first
      | refine Aq hG Y Y ?_
      | refine A5 hG Y Y ?_
      | (show AOp _ _ ⟨_, .call ⟨.builtin .len, _, _⟩, _, _, _, _⟩ _ _ _; first | refine Bh hG Y Y Y Y ?_ | refine Bq hG Y Y Y Y Y ?_)
      | (show AOp _ _ ⟨_, .binOp .add _ _ _ _, _, _, _, _⟩ _ _ _; first | refine Ac hG Y Y Y Y Y (by omega) ?_ | refine Ac (m := 1) hG Y Y Y Y Y (by omega) ?_ | refine Ab hG Y Y Y Y Y (by omega) ?_)
      | (show AOp _ _ ⟨_, .binOp _ _ _ _ _, _, _, _, _⟩ _ _ _; first | refine At hG Y Y Y Y Y (by omega) ?_ | refine Au hG Y Y Y Y Y (by omega) ?_ | ((fail_if_success have := kk); refine Am hG Y Y Y Y Y (fun h => ?_) (fun h => ?_)))
      | (show AOp _ _ ⟨_, .load _ _, _, _, _, _⟩ _ _ _; first | refine Ak (α := UInt16) 0 hG Y Y Y Y (by omega) Y ?_ | refine Ak (α := UInt16) 1 hG Y Y Y Y (by omega) Y ?_ | refine Ay hG Y Y Y ?_ | refine Bg 0 hG Y Y Y Y ?_)
      | (show AOp _ _ ⟨_, .indexAddr _ _ _, _, _, _, _⟩ _ _ _; first | refine A1 hG Y Y Y Y Y Y Y (by omega) ?_ | refine A0 hG Y Y Y Y Y Y Y (by omega) ?_ | refine Az hG Y Y Y Y Y Y Y (by omega) ?_ | refine A9 hG Y Y ?_)
      | refine r_q hG Y Y Y ?_); try exact kk)
    | (show AL _ _ _ _ _ _ _ _; first | refine Bk Y Y Y ?_ | (refine Ar ?_; first | show AW _ _ _ _ _ _ | show ∃ x', _ < _ ∧ _)) | (show AW _ _ (.seq _ _) _ _ _; refine Ai ?_; intro Q1) | (show AW _ _ (.region _ _ false) _ _ _; refine Ad ?_; intro O1) | (show AW _ _ (.cond _ _ _) _ _ _; first | refine Ao Y ?_ | refine Ap Y ?_ | refine Ba Y (fun h => ?_) (fun h => ?_)) | (show AW _ _ (.skip) _ _ _; refine Aj ?_; first | show AW _ _ _ _ _ _ | show ∃ x', _ < _ ∧ _) | (show AW _ _ (.block _ _) _ _ _; refine Ae ?_; intro Q1) | (show AW _ _ (.exit _) _ _ _; refine Al ?_; first | show AW _ _ _ _ _ _ | show ∃ x', _ < _ ∧ _) | (show AW _ _ (.ret) _ _ _; refine Aw ?_; try dsimp only [Ax, Aa, A2, Af])
    | (show DL _ _ _ _ _ _ _; refine Bx Y Y (fun K kt kf => Am hG Y Y Y Y Y kt kf) (fun h => ?_) (fun h => ?_))
    | (show DL _ _ _ _ _ _ _; refine By Y Y Y ?_) | (show DL _ _ _ _ _ _ _; refine Be ?_; first | show AW _ _ _ _ _ _ | show ∃ x', _ < _ ∧ _) | (show AW _ _ (.region _ _ true) _ _ _; refine A3 mix (by kernel_rfl) ?_; intro O1) | fail)
      refine Bu (Bm rfl Bl) (.eq ?_) rfl
      have : a = b := List.ext_getElem hlen fun j h1 h2 => by
        have := hp j (by omega)
        simpa [List.getD_eq_getElem?_getD, List.getElem?_eq_getElem, h1, h2] using this
      rw [decide_eq_true this]; rfl
  · repeat' (first
    | ((first | (show AL _ _ _ _ _ _ _ _; refine Ag Y ?_) | (show DL _ _ _ _ _ _ _; refine' A8 Y Y (fun K kk => ?_) ?_; try (show Go.Ts.T; rotate_left))); (first
      | refine Aq hG Y Y ?_
      | refine A5 hG Y Y ?_
      | (show AOp _ _ ⟨_, .call ⟨.builtin .len, _, _⟩, _, _, _, _⟩ _ _ _; first | refine Bh hG Y Y Y Y ?_ | refine Bq hG Y Y Y Y Y ?_)
      | (show AOp _ _ ⟨_, .binOp .add _ _ _ _, _, _, _, _⟩ _ _ _; first | refine Ac hG Y Y Y Y Y (by omega) ?_ | refine Ac (m := 1) hG Y Y Y Y Y (by omega) ?_ | refine Ab hG Y Y Y Y Y (by omega) ?_)
      | (show AOp _ _ ⟨_, .binOp _ _ _ _ _, _, _, _, _⟩ _ _ _; first | refine At hG Y Y Y Y Y (by omega) ?_ | refine Au hG Y Y Y Y Y (by omega) ?_ | ((fail_if_success have := kk); refine Am hG Y Y Y Y Y (fun h => ?_) (fun h => ?_)))
      | (show AOp _ _ ⟨_, .load _ _, _, _, _, _⟩ _ _ _; first | refine Ak (α := UInt16) 0 hG Y Y Y Y (by omega) Y ?_ | refine Ak (α := UInt16) 1 hG Y Y Y Y (by omega) Y ?_ | refine Ay hG Y Y Y ?_ | refine Bg 0 hG Y Y Y Y ?_)
      | (show AOp _ _ ⟨_, .indexAddr _ _ _, _, _, _, _⟩ _ _ _; first | refine A1 hG Y Y Y Y Y Y Y (by omega) ?_ | refine A0 hG Y Y Y Y Y Y Y (by omega) ?_ | refine Az hG Y Y Y Y Y Y Y (by omega) ?_ | refine A9 hG Y Y ?_)
      | refine r_q hG Y Y Y ?_); try exact kk)
    | (show AL _ _ _ _ _ _ _ _; first | refine Bk Y Y Y ?_ | (refine Ar ?_; first | show AW _ _ _ _ _ _ | show ∃ x', _ < _ ∧ _)) | (show AW _ _ (.seq _ _) _ _ _; refine Ai ?_; intro Q1) | (show AW _ _ (.region _ _ false) _ _ _; refine Ad ?_; intro O1) | (show AW _ _ (.cond _ _ _) _ _ _; first | refine Ao Y ?_ | refine Ap Y ?_ | refine Ba Y (fun h => ?_) (fun h => ?_)) | (show AW _ _ (.skip) _ _ _; refine Aj ?_; first | show AW _ _ _ _ _ _ | show ∃ x', _ < _ ∧ _) | (show AW _ _ (.block _ _) _ _ _; refine Ae ?_; intro Q1) | (show AW _ _ (.exit _) _ _ _; refine Al ?_; first | show AW _ _ _ _ _ _ | show ∃ x', _ < _ ∧ _) | (show AW _ _ (.ret) _ _ _; refine Aw ?_; try dsimp only [Ax, Aa, A2, Af])
    | (show DL _ _ _ _ _ _ _; refine Bx Y Y (fun K kt kf => Am hG Y Y Y Y Y kt kf) (fun h => ?_) (fun h => ?_))
    | (show DL _ _ _ _ _ _ _; refine By Y Y Y ?_) | (show DL _ _ _ _ _ _ _; refine Be ?_; first | show AW _ _ _ _ _ _ | show ∃ x', _ < _ ∧ _) | (show AW _ _ (.region _ _ true) _ _ _; refine A3 mix (by kernel_rfl) ?_; intro O1) | fail)
    refine Bu (Bm rfl Bl) (.eq ?_) rfl
    rw [decide_eq_false (fun h => hlen (by rw [h]))]; rfl
end Go.Proofs.Ytmckbfdklcmogaa
namespace Go.Proofs.Ytmckbfdklcmogaa
open Go.Ts
set_option linter.unusedSimpArgs false
set_option linter.unusedVariables false
attribute [local irreducible] Go.Ts.AW Go.Ts.AOps Go.Ts.AL Go.Ts.AOp Go.Ts.ACalls Go.Ts.DL Go.Ts.DQ0 Go.Ts.EL
open Go.Sort
def brkRun (a len m : Nat) : Nat → Nat → UInt64 × Array Nat → Array Nat
  | 0, _, s => s.2
  | f + 1, p, s => brkRun a len m f (p + 1) (breakStep a len m s p)
structure BrX (a len I n : Nat) (r : Array Nat) where
  p : Nat
  s : UInt64 × Array Nat
  hn : s.2.size = n
  lo : I ≤ p
  hi : p ≤ I + 3
  e : brkRun a len (1 <<< bitsLen len) (I + 3 - p) p s = r
theorem brk_small {d : Array Nat} {a b : Nat} (h : ¬ 8 ≤ b - a) : breakPatterns d a b = d := by unfold breakPatterns; rw [if_neg h]
theorem brk_great {d : Array Nat} {a b : Nat} (h : 8 ≤ b - a) : brkRun a (b - a) (1 <<< bitsLen (b - a)) 3 (a + (b - a) / 4 * 2 - 1) (UInt64.ofNat (b - a), d) = breakPatterns d a b := by unfold breakPatterns; rw [if_pos h]; rfl
set_option maxHeartbeats 1000000 in
theorem srt_brk {d0 : Array Nat} {a b : Nat} (hab : a ≤ b) (hb : b ≤ d0.size) (hs : d0.size < 256) : OnRow Try.prog 35 mT [.int .i64 (a : Int), .int .i64 (b : Int)] d0 (.tup []) (breakPatterns d0 a b) := by
  have h56 := next_pow (x := b - a) (by omega)
  intro off i0 n cap hn
  refine Br (N := 65) (rs := []) hG Try.func35 rfl rfl rfl rfl rfl ?_
  by_cases h8 : 8 ≤ b - a
  · rw [← brk_great h8]
    have p1 := two_pow_bitsLen_le (n := b - a) (by omega)
    have p2 : 1 <<< bitsLen (b - a) = 2 ^ bitsLen (b - a) := Nat.one_shiftLeft ..
    have p3 : 0 < 2 ^ bitsLen (b - a) := Nat.two_pow_pos _
    have hM : 1 ≤ 1 <<< bitsLen (b - a) ∧ 1 <<< bitsLen (b - a) ≤ 2 * (b - a) := by omega
    clear p1 p2 p3
    obtain ⟨M, eM⟩ : ∃ M, M = 1 <<< bitsLen (b - a) := ⟨_, rfl⟩
    rw [← eM] at h56 hM ⊢
    repeat' (first
    | ((first | (show AL _ _ _ _ _ _ _ _; refine Ag Y ?_) | (show DL _ _ _ _ _ _ _; refine' A8 Y Y (fun K kk => ?_) ?_; try (show Go.Ts.T; rotate_left))); (first
      | refine Aq hG Y Y ?_
      | refine A5 hG Y Y ?_
      | (show AOp _ _ ⟨_, .binOp .add _ _ _ _, _, _, _, _⟩ _ _ _; first | refine Ac hG Y Y Y Y Y (by omega) ?_ | refine Ac (m := 1) hG Y Y Y Y Y (by omega) ?_ | refine Ab hG Y Y Y Y Y (by omega) ?_)
      | (show AOp _ _ ⟨_, .binOp .sub _ _ _ _, _, _, _, _⟩ _ _ _; first | refine Av hG Y Y Y Y (by omega) ?_ | refine Av (m := 1) hG Y Y Y Y (by omega) ?_ | refine Cg (m := 1) hG Y Y Y Y (by omega) ?_ | refine Ab hG Y Y Y Y Y (by omega) ?_ | refine r_aru64 hG Y Y Y Y Y (by omega) ?_)
      | (show AOp _ _ ⟨_, .binOp .mul _ _ _ _, _, _, _, _⟩ _ _ _; first | refine Ac hG Y Y Y Y Y (by omega) ?_ | refine Ac (m := 1) hG Y Y Y Y Y (by omega) ?_ | refine Ac (m := 2) hG Y Y Y Y Y (by omega) ?_ | refine Ac (m := 3) hG Y Y Y Y Y (by omega) ?_ | refine Ac (n := 2) hG Y Y Y Y Y (by omega) ?_ | refine Ab hG Y Y Y Y Y (by omega) ?_)
      | (show AOp _ _ ⟨_, .binOp .quo _ _ _ _, _, _, _, _⟩ _ _ _; first | refine Bf (m := 2) hG Y Y Y Y (by omega) ?_ | refine Bf (m := 4) hG Y Y Y Y (by omega) ?_ | refine Bf (m := 8) hG Y Y Y Y (by omega) ?_)
      | (show AOp _ _ ⟨_, .binOp .and _ _ _ _, _, _, _, _⟩ _ _ _; first | refine r_andU hG Y Y Y Y (by omega) ?_ | refine r_andU (m := 63) hG Y Y Y Y (by omega) ?_)
      | (show AOp _ _ ⟨_, .binOp .and _ _ _ _, _, _, _, _⟩ _ _ _; refine r_and63 hG Y Y (by omega) Y ?_)
      | (show AOp _ _ ⟨_, .binOp _ _ _ _ _, _, _, _, _⟩ _ _ _; first | refine At hG Y Y Y Y Y (by omega) ?_ | refine Au hG Y Y Y Y Y (by omega) ?_ | ((fail_if_success have := kk); refine Am hG Y Y Y Y Y (fun h => ?_) (fun h => ?_)) | refine Bw hG Y Y Y ?_)
      | (show AOp _ _ ⟨_, .load _ _, _, _, _, _⟩ _ _ _; first | refine Ak (α := Nat) 0 hG Y Y Y Y (by omega) Y ?_ | refine Ak (α := Nat) 1 hG Y Y Y Y (by omega) Y ?_ | refine Ay hG Y Y Y ?_ | refine Bg 0 hG Y Y Y Y ?_ | refine Bg 1 hG Y Y Y Y ?_)
      | (show AOp _ _ ⟨_, .indexAddr _ _ _, _, _, _, _⟩ _ _ _; first | refine A1 hG Y Y Y Y Y Y Y (by omega) ?_ | refine A0 hG Y Y Y Y Y Y Y (by omega) ?_ | refine Az hG Y Y Y Y Y Y Y (by omega) ?_ | refine A9 hG Y Y ?_)
      | (show AOp _ _ ⟨_, .convert _ _ _, _, _, _, _⟩ _ _ _; first | refine r_cv_i64 hG Y Y Y Y Y (by omega) ?_ | refine r_cv_u64 hG Y Y Y Y Y (by omega) ?_ | refine r_cvw hG Y Y Y Y Y ?_)
      | (show AOp _ _ ⟨_, .alloc _, _, _, _, _⟩ _ _ _; refine Ce hG Y Y (fun i => ?_))
      | (show AOp _ _ ⟨_, .store _ _ _, _, _, _, _⟩ _ _ _; first | refine Bc (α := Nat) 0 hG Y Y Y Ah Bb Y Y (by first | omega | (simp only [Array.size_setIfInBounds]; omega)) ?_ | refine Bc (α := Nat) 1 hG Y Y Y Ah Bb Y Y (by first | omega | (simp only [Array.size_setIfInBounds]; omega)) ?_ | refine Bv 0 hG Y Y Y Y Y Y Y ?_ | refine Bv 1 hG Y Y Y Y Y Y Y ?_)
      | (show AOp _ _ ⟨_, .call ⟨.value _, _, _⟩, _, _, _, _⟩ _ _ _; first | refine Bn Y Y Y Y Y (by first | (apply h56 <;> (first | assumption | omega | exact A4 _ _ | exact Bd _ | exact A7 _ _ | exact Bi _ | rfl | (simp; omega))) | fail) ?_ | fail)
      | refine r_q hG Y Y Y ?_); try exact kk)
    | (show AL _ _ _ _ _ _ _ _; first | refine Bk Y Y Y ?_ | (refine Ar ?_; first | show AW _ _ _ _ _ _ | show ∃ x', _ < _ ∧ _)) | (show AW _ _ (.seq _ _) _ _ _; refine Ai ?_; intro Q1) | (show AW _ _ (.region _ _ false) _ _ _; refine Ad ?_; intro O1) | (show AW _ _ (.cond _ _ _) _ _ _; first | refine Ao Y ?_ | refine Ap Y ?_ | refine Ba Y (fun h => ?_) (fun h => ?_)) | (show AW _ _ (.skip) _ _ _; refine Aj ?_; first | show AW _ _ _ _ _ _ | show ∃ x', _ < _ ∧ _) | (show AW _ _ (.block _ _) _ _ _; refine Ae ?_; intro Q1) | (show AW _ _ (.exit _) _ _ _; refine Al ?_; first | show AW _ _ _ _ _ _ | show ∃ x', _ < _ ∧ _) | (show AW _ _ (.ret) _ _ _; refine Aw ?_; try dsimp only [Ax, Aa, A2, Af])
    | (show DL _ _ _ _ _ _ _; refine Bx Y Y (fun K kt kf => Am hG Y Y Y Y Y kt kf) (fun h => ?_) (fun h => ?_))
    | (show DL _ _ _ _ _ _ _; refine By Y Y Y ?_) | (show DL _ _ _ _ _ _ _; refine Be ?_; first | show AW _ _ _ _ _ _ | show ∃ x', _ < _ ∧ _) | (show AW _ _ (.region _ _ true) _ _ _; refine A3 mix (by kernel_rfl) ?_; intro O1) | fail)
    refine Ch (X := BrX a (b - a) (a + (b - a) / 4 * 2 - 1) n (brkRun a (b - a) M 3 (a + (b - a) / 4 * 2 - 1) (UInt64.ofNat (b - a), d0))) (fun x => [(0, .aref 1 i0 0 n cap), (1, .int .i64 (a : Int)), (6, .int .i64 ((b - a : Nat) : Int)), (7, .ptr i 0), (8, .int .u64 (M : Int)), (9, .int .i64 (x.p : Int))])
      (fun x => ⟨[(i, .cells [.int .u64 (x.s.1.toNat : Int)]), (i0, .cells (rowT mT x.s.2))], [], off, none⟩) (fun x => a + (b - a) / 4 * 2 + 3 - x.p) ⟨a + (b - a) / 4 * 2 - 1, (UInt64.ofNat (b - a), d0), hn, by omega, by omega, by rw [← eM]; congr 1; omega⟩ (by repeat (first | exact .nil _ | refine .cons rfl ?_)) ?_ ?_
    · have e0 : (UInt64.ofNat (b - a)).toNat = b - a := by rw [UInt64.toNat_ofNat']; omega
      show Ts.GStep _ ⟨[(i, .cells [.int .u64 (((UInt64.ofNat (b - a)).toNat : Nat) : Int)]), (i0, .cells (rowT mT d0))], [], off, none⟩
      rw [e0]; exact .refl _
    rintro ⟨p, ⟨r, d⟩, hdn, lo, hi, he⟩
    dsimp only at he hdn ⊢
    by_cases h1 : p < a + (b - a) / 4 * 2 + 2
    · have hx := xor_next (r := r.toNat) r.toNat_lt
      rw [← xorNext_toNat] at hx
      have hr2 : (xorNext r).toNat < 18446744073709551616 := (xorNext r).toNat_lt
      have ho : (xorNext r).toNat &&& (M - 1) ≤ M - 1 := Nat.and_le_right
      have he2 : brkRun a (b - a) (1 <<< bitsLen (b - a)) (a + (b - a) / 4 * 2 - 1 + 3 - (p + 1)) (p + 1) (breakStep a (b - a) (1 <<< bitsLen (b - a)) (r, d) p) = brkRun a (b - a) M 3 (a + (b - a) / 4 * 2 - 1) (UInt64.ofNat (b - a), d0) := by
        rw [← he, show a + (b - a) / 4 * 2 - 1 + 3 - p = (a + (b - a) / 4 * 2 - 1 + 3 - (p + 1)) + 1 by omega]; rfl
      rw [show breakStep a (b - a) (1 <<< bitsLen (b - a)) (r, d) p = (xorNext r, swp d p (a + (if (xorNext r).toNat &&& (M - 1) ≥ b - a then ((xorNext r).toNat &&& (M - 1)) - (b - a) else (xorNext r).toNat &&& (M - 1)))) by rw [eM]; rfl] at he2
      repeat' (first
    | ((first | (show AL _ _ _ _ _ _ _ _; refine Ag Y ?_) | (show DL _ _ _ _ _ _ _; refine' A8 Y Y (fun K kk => ?_) ?_; try (show Go.Ts.T; rotate_left))); (first
      | refine Aq hG Y Y ?_
      | refine A5 hG Y Y ?_
      | (show AOp _ _ ⟨_, .binOp .add _ _ _ _, _, _, _, _⟩ _ _ _; first | refine Ac hG Y Y Y Y Y (by omega) ?_ | refine Ac (m := 1) hG Y Y Y Y Y (by omega) ?_ | refine Ab hG Y Y Y Y Y (by omega) ?_)
      | (show AOp _ _ ⟨_, .binOp .sub _ _ _ _, _, _, _, _⟩ _ _ _; first | refine Av hG Y Y Y Y (by omega) ?_ | refine Av (m := 1) hG Y Y Y Y (by omega) ?_ | refine Cg (m := 1) hG Y Y Y Y (by omega) ?_ | refine Ab hG Y Y Y Y Y (by omega) ?_ | refine r_aru64 hG Y Y Y Y Y (by omega) ?_)
      | (show AOp _ _ ⟨_, .binOp .mul _ _ _ _, _, _, _, _⟩ _ _ _; first | refine Ac hG Y Y Y Y Y (by omega) ?_ | refine Ac (m := 1) hG Y Y Y Y Y (by omega) ?_ | refine Ac (m := 2) hG Y Y Y Y Y (by omega) ?_ | refine Ac (m := 3) hG Y Y Y Y Y (by omega) ?_ | refine Ac (n := 2) hG Y Y Y Y Y (by omega) ?_ | refine Ab hG Y Y Y Y Y (by omega) ?_)
      | (show AOp _ _ ⟨_, .binOp .quo _ _ _ _, _, _, _, _⟩ _ _ _; first | refine Bf (m := 2) hG Y Y Y Y (by omega) ?_ | refine Bf (m := 4) hG Y Y Y Y (by omega) ?_ | refine Bf (m := 8) hG Y Y Y Y (by omega) ?_)
      | (show AOp _ _ ⟨_, .binOp .and _ _ _ _, _, _, _, _⟩ _ _ _; first | refine r_andU hG Y Y Y Y (by omega) ?_ | refine r_andU (m := 63) hG Y Y Y Y (by omega) ?_)
      | (show AOp _ _ ⟨_, .binOp .and _ _ _ _, _, _, _, _⟩ _ _ _; refine r_and63 hG Y Y (by omega) Y ?_)
      | (show AOp _ _ ⟨_, .binOp _ _ _ _ _, _, _, _, _⟩ _ _ _; first | refine At hG Y Y Y Y Y (by omega) ?_ | refine Au hG Y Y Y Y Y (by omega) ?_ | ((fail_if_success have := kk); refine Am hG Y Y Y Y Y (fun h => ?_) (fun h => ?_)) | refine Bw hG Y Y Y ?_)
      | (show AOp _ _ ⟨_, .load _ _, _, _, _, _⟩ _ _ _; first | refine Ak (α := Nat) 0 hG Y Y Y Y (by omega) Y ?_ | refine Ak (α := Nat) 1 hG Y Y Y Y (by omega) Y ?_ | refine Ay hG Y Y Y ?_ | refine Bg 0 hG Y Y Y Y ?_ | refine Bg 1 hG Y Y Y Y ?_)
      | (show AOp _ _ ⟨_, .indexAddr _ _ _, _, _, _, _⟩ _ _ _; first | refine A1 hG Y Y Y Y Y Y Y (by omega) ?_ | refine A0 hG Y Y Y Y Y Y Y (by omega) ?_ | refine Az hG Y Y Y Y Y Y Y (by omega) ?_ | refine A9 hG Y Y ?_)
      | (show AOp _ _ ⟨_, .convert _ _ _, _, _, _, _⟩ _ _ _; first | refine r_cv_i64 hG Y Y Y Y Y (by omega) ?_ | refine r_cv_u64 hG Y Y Y Y Y (by omega) ?_ | refine r_cvw hG Y Y Y Y Y ?_)
      | (show AOp _ _ ⟨_, .alloc _, _, _, _, _⟩ _ _ _; refine Ce hG Y Y (fun i => ?_))
      | (show AOp _ _ ⟨_, .store _ _ _, _, _, _, _⟩ _ _ _; first | refine Bc (α := Nat) 0 hG Y Y Y Ah Bb Y Y (by first | omega | (simp only [Array.size_setIfInBounds]; omega)) ?_ | refine Bc (α := Nat) 1 hG Y Y Y Ah Bb Y Y (by first | omega | (simp only [Array.size_setIfInBounds]; omega)) ?_ | refine Bv 0 hG Y Y Y Y Y Y Y ?_ | refine Bv 1 hG Y Y Y Y Y Y Y ?_)
      | (show AOp _ _ ⟨_, .call ⟨.value _, _, _⟩, _, _, _, _⟩ _ _ _; first | (refine r_mut Y Y Y Y Y (List.Perm.refl _) hx ?_; rintro _ _ ⟨e1, e2⟩; subst e1; subst e2) | fail)
      | refine r_q hG Y Y Y ?_); try exact kk)
    | (show AL _ _ _ _ _ _ _ _; first | refine Bk Y Y Y ?_ | (refine Ar ?_; first | show AW _ _ _ _ _ _ | show ∃ x', _ < _ ∧ _)) | (show AW _ _ (.seq _ _) _ _ _; refine Ai ?_; intro Q1) | (show AW _ _ (.region _ _ false) _ _ _; (fail_if_success show AW _ _ (.region 10 _ _) _ _ _); refine Ad ?_; intro O1) | (show AW _ _ (.cond _ _ _) _ _ _; first | refine Ao Y ?_ | refine Ap Y ?_ | refine Ba Y (fun h => ?_) (fun h => ?_)) | (show AW _ _ (.skip) _ _ _; refine Aj ?_; first | show AW _ _ _ _ _ _ | show ∃ x', _ < _ ∧ _) | (show AW _ _ (.block _ _) _ _ _; refine Ae ?_; intro Q1) | (show AW _ _ (.exit _) _ _ _; refine Al ?_; first | show AW _ _ _ _ _ _ | show ∃ x', _ < _ ∧ _) | (show AW _ _ (.ret) _ _ _; refine Aw ?_; try dsimp only [Ax, Aa, A2, Af])
    | (show DL _ _ _ _ _ _ _; refine Bx Y Y (fun K kt kf => Am hG Y Y Y Y Y kt kf) (fun h => ?_) (fun h => ?_))
    | (show DL _ _ _ _ _ _ _; refine By Y Y Y ?_) | (show DL _ _ _ _ _ _ _; refine Be ?_; first | show AW _ _ _ _ _ _ | show ∃ x', _ < _ ∧ _) | (show AW _ _ (.region _ _ true) _ _ _; (fail_if_success show AW _ _ (.region 10 _ _) _ _ _); refine A3 mix (by kernel_rfl) ?_; intro O1) | fail)
      · rw [if_pos (by omega)] at he2
        refine Co (m := 18) [17] [11, 15] (fun σ => ∃ c : Array Nat, c.size = n ∧ σ = ⟨[(i, .cells [.int .u64 ((xorNext r).toNat : Int)]), (i0, .cells (rowT mT c))], [], off, none⟩) mix Y Y (by repeat (first | exact Sp.zero _ | apply Sp.succ)) ?_; intro O1 F1 Z1 Q2; repeat' (first
    | (refine' dq0_cons Y Y Y Y (fun σ hσ K kk => ?_) ?_; (try (show Go.Ts.T; rotate_left)); (obtain ⟨c, hcn, hcs⟩ := hσ; subst hcs); (first
      | refine Aq hG Y Y ?_
      | refine A5 hG Y Y ?_
      | (show AOp _ _ ⟨_, .binOp .add _ _ _ _, _, _, _, _⟩ _ _ _; first | refine Ac hG Y Y Y Y Y (by omega) ?_ | refine Ac (m := 1) hG Y Y Y Y Y (by omega) ?_ | refine Ab hG Y Y Y Y Y (by omega) ?_)
      | (show AOp _ _ ⟨_, .binOp .sub _ _ _ _, _, _, _, _⟩ _ _ _; first | refine Av hG Y Y Y Y (by omega) ?_ | refine Av (m := 1) hG Y Y Y Y (by omega) ?_ | refine Cg (m := 1) hG Y Y Y Y (by omega) ?_ | refine Ab hG Y Y Y Y Y (by omega) ?_ | refine r_aru64 hG Y Y Y Y Y (by omega) ?_)
      | (show AOp _ _ ⟨_, .binOp .mul _ _ _ _, _, _, _, _⟩ _ _ _; first | refine Ac hG Y Y Y Y Y (by omega) ?_ | refine Ac (m := 1) hG Y Y Y Y Y (by omega) ?_ | refine Ac (m := 2) hG Y Y Y Y Y (by omega) ?_ | refine Ac (m := 3) hG Y Y Y Y Y (by omega) ?_ | refine Ac (n := 2) hG Y Y Y Y Y (by omega) ?_ | refine Ab hG Y Y Y Y Y (by omega) ?_)
      | (show AOp _ _ ⟨_, .binOp .quo _ _ _ _, _, _, _, _⟩ _ _ _; first | refine Bf (m := 2) hG Y Y Y Y (by omega) ?_ | refine Bf (m := 4) hG Y Y Y Y (by omega) ?_ | refine Bf (m := 8) hG Y Y Y Y (by omega) ?_)
      | (show AOp _ _ ⟨_, .binOp .and _ _ _ _, _, _, _, _⟩ _ _ _; first | refine r_andU hG Y Y Y Y (by omega) ?_ | refine r_andU (m := 63) hG Y Y Y Y (by omega) ?_)
      | (show AOp _ _ ⟨_, .binOp .and _ _ _ _, _, _, _, _⟩ _ _ _; refine r_and63 hG Y Y (by omega) Y ?_)
      | (show AOp _ _ ⟨_, .binOp _ _ _ _ _, _, _, _, _⟩ _ _ _; first | refine At hG Y Y Y Y Y (by omega) ?_ | refine Au hG Y Y Y Y Y (by omega) ?_ | refine Bw hG Y Y Y ?_)
      | (show AOp _ _ ⟨_, .load _ _, _, _, _, _⟩ _ _ _; first | refine Ak (α := Nat) 0 hG Y Y Y Y (by omega) Y ?_ | refine Ak (α := Nat) 1 hG Y Y Y Y (by omega) Y ?_ | refine Ay hG Y Y Y ?_ | refine Bg 0 hG Y Y Y Y ?_ | refine Bg 1 hG Y Y Y Y ?_)
      | (show AOp _ _ ⟨_, .indexAddr _ _ _, _, _, _, _⟩ _ _ _; first | refine A1 hG Y Y Y Y Y Y Y (by omega) ?_ | refine A0 hG Y Y Y Y Y Y Y (by omega) ?_ | refine Az hG Y Y Y Y Y Y Y (by omega) ?_ | refine A9 hG Y Y ?_)
      | (show AOp _ _ ⟨_, .convert _ _ _, _, _, _, _⟩ _ _ _; first | refine r_cv_i64 hG Y Y Y Y Y (by omega) ?_ | refine r_cv_u64 hG Y Y Y Y Y (by omega) ?_ | refine r_cvw hG Y Y Y Y Y ?_)
      | (show AOp _ _ ⟨_, .alloc _, _, _, _, _⟩ _ _ _; refine Ce hG Y Y (fun i => ?_))
      | (show AOp _ _ ⟨_, .store _ _ _, _, _, _, _⟩ _ _ _; first | refine Bc (α := Nat) 0 hG Y Y Y Ah Bb Y Y (by first | omega | (simp only [Array.size_setIfInBounds]; omega)) ?_ | refine Bc (α := Nat) 1 hG Y Y Y Ah Bb Y Y (by first | omega | (simp only [Array.size_setIfInBounds]; omega)) ?_ | refine Bv 0 hG Y Y Y Y Y Y Y ?_ | refine Bv 1 hG Y Y Y Y Y Y Y ?_)
      | refine r_q hG Y Y Y ?_); exact kk)
    | (refine' Cn Y Y Y Y (fun K kk => ?_) ?_; (try (show Go.Ts.T; rotate_left)); (first | refine Ak 0 hG Y Y Y Y (by omega) Y ?_ | refine Ak 1 hG Y Y Y Y (by omega) Y ?_); exact kk)
    | refine dq0_e Y ?_ | (refine dq0_nil ?_; show EL _ _ _ _ _ _ _ _ _)
    | (refine Cf ⟨_, (by first | assumption | (simp only [Array.size_setIfInBounds]; omega)), Y⟩ Y Y Y (fun K ke => ?_); (first | refine Bc (α := Nat) 0 hG Y Y Y Ah Bb Y Y (by first | omega | (simp only [Array.size_setIfInBounds]; omega)) ?_ | refine Bc (α := Nat) 1 hG Y Y Y Ah Bb Y Y (by first | omega | (simp only [Array.size_setIfInBounds]; omega)) ?_); refine ke (.tup []) _ ?_)
    | (refine el_nil ⟨_, (by first | assumption | (simp only [Array.size_setIfInBounds]; omega)), Y⟩ ?_; show AL _ _ _ _ _ _ _ _) | fail)
        repeat' (first
    | ((first | (show AL _ _ _ _ _ _ _ _; refine Ag Y ?_) | (show DL _ _ _ _ _ _ _; refine' A8 Y Y (fun K kk => ?_) ?_; try (show Go.Ts.T; rotate_left))); (first
      | refine Aq hG Y Y ?_
      | refine A5 hG Y Y ?_
      | (show AOp _ _ ⟨_, .binOp .add _ _ _ _, _, _, _, _⟩ _ _ _; first | refine Ac hG Y Y Y Y Y (by omega) ?_ | refine Ac (m := 1) hG Y Y Y Y Y (by omega) ?_ | refine Ab hG Y Y Y Y Y (by omega) ?_)
      | (show AOp _ _ ⟨_, .binOp .sub _ _ _ _, _, _, _, _⟩ _ _ _; first | refine Av hG Y Y Y Y (by omega) ?_ | refine Av (m := 1) hG Y Y Y Y (by omega) ?_ | refine Cg (m := 1) hG Y Y Y Y (by omega) ?_ | refine Ab hG Y Y Y Y Y (by omega) ?_ | refine r_aru64 hG Y Y Y Y Y (by omega) ?_)
      | (show AOp _ _ ⟨_, .binOp .mul _ _ _ _, _, _, _, _⟩ _ _ _; first | refine Ac hG Y Y Y Y Y (by omega) ?_ | refine Ac (m := 1) hG Y Y Y Y Y (by omega) ?_ | refine Ac (m := 2) hG Y Y Y Y Y (by omega) ?_ | refine Ac (m := 3) hG Y Y Y Y Y (by omega) ?_ | refine Ac (n := 2) hG Y Y Y Y Y (by omega) ?_ | refine Ab hG Y Y Y Y Y (by omega) ?_)
      | (show AOp _ _ ⟨_, .binOp .quo _ _ _ _, _, _, _, _⟩ _ _ _; first | refine Bf (m := 2) hG Y Y Y Y (by omega) ?_ | refine Bf (m := 4) hG Y Y Y Y (by omega) ?_ | refine Bf (m := 8) hG Y Y Y Y (by omega) ?_)
      | (show AOp _ _ ⟨_, .binOp .and _ _ _ _, _, _, _, _⟩ _ _ _; first | refine r_andU hG Y Y Y Y (by omega) ?_ | refine r_andU (m := 63) hG Y Y Y Y (by omega) ?_)
      | (show AOp _ _ ⟨_, .binOp .and _ _ _ _, _, _, _, _⟩ _ _ _; refine r_and63 hG Y Y (by omega) Y ?_)
      | (show AOp _ _ ⟨_, .binOp _ _ _ _ _, _, _, _, _⟩ _ _ _; first | refine At hG Y Y Y Y Y (by omega) ?_ | refine Au hG Y Y Y Y Y (by omega) ?_ | ((fail_if_success have := kk); refine Am hG Y Y Y Y Y (fun h => ?_) (fun h => ?_)) | refine Bw hG Y Y Y ?_)
      | (show AOp _ _ ⟨_, .load _ _, _, _, _, _⟩ _ _ _; first | refine Ak (α := Nat) 0 hG Y Y Y Y (by omega) Y ?_ | refine Ak (α := Nat) 1 hG Y Y Y Y (by omega) Y ?_ | refine Ay hG Y Y Y ?_ | refine Bg 0 hG Y Y Y Y ?_ | refine Bg 1 hG Y Y Y Y ?_)
      | (show AOp _ _ ⟨_, .indexAddr _ _ _, _, _, _, _⟩ _ _ _; first | refine A1 hG Y Y Y Y Y Y Y (by omega) ?_ | refine A0 hG Y Y Y Y Y Y Y (by omega) ?_ | refine Az hG Y Y Y Y Y Y Y (by omega) ?_ | refine A9 hG Y Y ?_)
      | (show AOp _ _ ⟨_, .convert _ _ _, _, _, _, _⟩ _ _ _; first | refine r_cv_i64 hG Y Y Y Y Y (by omega) ?_ | refine r_cv_u64 hG Y Y Y Y Y (by omega) ?_ | refine r_cvw hG Y Y Y Y Y ?_)
      | (show AOp _ _ ⟨_, .alloc _, _, _, _, _⟩ _ _ _; refine Ce hG Y Y (fun i => ?_))
      | (show AOp _ _ ⟨_, .store _ _ _, _, _, _, _⟩ _ _ _; first | refine Bc (α := Nat) 0 hG Y Y Y Ah Bb Y Y (by first | omega | (simp only [Array.size_setIfInBounds]; omega)) ?_ | refine Bc (α := Nat) 1 hG Y Y Y Ah Bb Y Y (by first | omega | (simp only [Array.size_setIfInBounds]; omega)) ?_ | refine Bv 0 hG Y Y Y Y Y Y Y ?_ | refine Bv 1 hG Y Y Y Y Y Y Y ?_)
      | refine r_q hG Y Y Y ?_); try exact kk)
    | (show AL _ _ _ _ _ _ _ _; first | refine Bk Y Y Y ?_ | (refine Ar ?_; first | show AW _ _ _ _ _ _ | show ∃ x', _ < _ ∧ _)) | (show AW _ _ (.seq _ _) _ _ _; refine Ai ?_; intro Q1) | (show AW _ _ (.region _ _ false) _ _ _; refine Ad ?_; intro O1) | (show AW _ _ (.cond _ _ _) _ _ _; first | refine Ao Y ?_ | refine Ap Y ?_ | refine Ba Y (fun h => ?_) (fun h => ?_)) | (show AW _ _ (.skip) _ _ _; refine Aj ?_; first | show AW _ _ _ _ _ _ | show ∃ x', _ < _ ∧ _) | (show AW _ _ (.block _ _) _ _ _; refine Ae ?_; intro Q1) | (show AW _ _ (.exit _) _ _ _; refine Al ?_; first | show AW _ _ _ _ _ _ | show ∃ x', _ < _ ∧ _) | (show AW _ _ (.ret) _ _ _; refine Aw ?_; try dsimp only [Ax, Aa, A2, Af])
    | (show DL _ _ _ _ _ _ _; refine Bx Y Y (fun K kt kf => Am hG Y Y Y Y Y kt kf) (fun h => ?_) (fun h => ?_))
    | (show DL _ _ _ _ _ _ _; refine By Y Y Y ?_) | (show DL _ _ _ _ _ _ _; refine Be ?_; first | show AW _ _ _ _ _ _ | show ∃ x', _ < _ ∧ _) | (show AW _ _ (.region _ _ true) _ _ _; refine A3 mix (by kernel_rfl) ?_; intro O1) | fail)
        exact ⟨⟨p + 1, (xorNext r, swp d p (a + (((xorNext r).toNat &&& (M - 1)) - (b - a)))), by rw [size_swp]; exact hdn, by omega, by omega, he2⟩, by dsimp only; omega, (by repeat (first | exact .nil _ | refine .cons rfl ?_)), .refl _⟩
      · rw [if_neg (by omega)] at he2
        refine Co (m := 18) [17] [11, 15] (fun σ => ∃ c : Array Nat, c.size = n ∧ σ = ⟨[(i, .cells [.int .u64 ((xorNext r).toNat : Int)]), (i0, .cells (rowT mT c))], [], off, none⟩) mix Y Y (by repeat (first | exact Sp.zero _ | apply Sp.succ)) ?_; intro O1 F1 Z1 Q2; repeat' (first
    | (refine' dq0_cons Y Y Y Y (fun σ hσ K kk => ?_) ?_; (try (show Go.Ts.T; rotate_left)); (obtain ⟨c, hcn, hcs⟩ := hσ; subst hcs); (first
      | refine Aq hG Y Y ?_
      | refine A5 hG Y Y ?_
      | (show AOp _ _ ⟨_, .binOp .add _ _ _ _, _, _, _, _⟩ _ _ _; first | refine Ac hG Y Y Y Y Y (by omega) ?_ | refine Ac (m := 1) hG Y Y Y Y Y (by omega) ?_ | refine Ab hG Y Y Y Y Y (by omega) ?_)
      | (show AOp _ _ ⟨_, .binOp .sub _ _ _ _, _, _, _, _⟩ _ _ _; first | refine Av hG Y Y Y Y (by omega) ?_ | refine Av (m := 1) hG Y Y Y Y (by omega) ?_ | refine Cg (m := 1) hG Y Y Y Y (by omega) ?_ | refine Ab hG Y Y Y Y Y (by omega) ?_ | refine r_aru64 hG Y Y Y Y Y (by omega) ?_)
      | (show AOp _ _ ⟨_, .binOp .mul _ _ _ _, _, _, _, _⟩ _ _ _; first | refine Ac hG Y Y Y Y Y (by omega) ?_ | refine Ac (m := 1) hG Y Y Y Y Y (by omega) ?_ | refine Ac (m := 2) hG Y Y Y Y Y (by omega) ?_ | refine Ac (m := 3) hG Y Y Y Y Y (by omega) ?_ | refine Ac (n := 2) hG Y Y Y Y Y (by omega) ?_ | refine Ab hG Y Y Y Y Y (by omega) ?_)
      | (show AOp _ _ ⟨_, .binOp .quo _ _ _ _, _, _, _, _⟩ _ _ _; first | refine Bf (m := 2) hG Y Y Y Y (by omega) ?_ | refine Bf (m := 4) hG Y Y Y Y (by omega) ?_ | refine Bf (m := 8) hG Y Y Y Y (by omega) ?_)
      | (show AOp _ _ ⟨_, .binOp .and _ _ _ _, _, _, _, _⟩ _ _ _; first | refine r_andU hG Y Y Y Y (by omega) ?_ | refine r_andU (m := 63) hG Y Y Y Y (by omega) ?_)
      | (show AOp _ _ ⟨_, .binOp .and _ _ _ _, _, _, _, _⟩ _ _ _; refine r_and63 hG Y Y (by omega) Y ?_)
      | (show AOp _ _ ⟨_, .binOp _ _ _ _ _, _, _, _, _⟩ _ _ _; first | refine At hG Y Y Y Y Y (by omega) ?_ | refine Au hG Y Y Y Y Y (by omega) ?_ | refine Bw hG Y Y Y ?_)
      | (show AOp _ _ ⟨_, .load _ _, _, _, _, _⟩ _ _ _; first | refine Ak (α := Nat) 0 hG Y Y Y Y (by omega) Y ?_ | refine Ak (α := Nat) 1 hG Y Y Y Y (by omega) Y ?_ | refine Ay hG Y Y Y ?_ | refine Bg 0 hG Y Y Y Y ?_ | refine Bg 1 hG Y Y Y Y ?_)
      | (show AOp _ _ ⟨_, .indexAddr _ _ _, _, _, _, _⟩ _ _ _; first | refine A1 hG Y Y Y Y Y Y Y (by omega) ?_ | refine A0 hG Y Y Y Y Y Y Y (by omega) ?_ | refine Az hG Y Y Y Y Y Y Y (by omega) ?_ | refine A9 hG Y Y ?_)
      | (show AOp _ _ ⟨_, .convert _ _ _, _, _, _, _⟩ _ _ _; first | refine r_cv_i64 hG Y Y Y Y Y (by omega) ?_ | refine r_cv_u64 hG Y Y Y Y Y (by omega) ?_ | refine r_cvw hG Y Y Y Y Y ?_)
      | (show AOp _ _ ⟨_, .alloc _, _, _, _, _⟩ _ _ _; refine Ce hG Y Y (fun i => ?_))
      | (show AOp _ _ ⟨_, .store _ _ _, _, _, _, _⟩ _ _ _; first | refine Bc (α := Nat) 0 hG Y Y Y Ah Bb Y Y (by first | omega | (simp only [Array.size_setIfInBounds]; omega)) ?_ | refine Bc (α := Nat) 1 hG Y Y Y Ah Bb Y Y (by first | omega | (simp only [Array.size_setIfInBounds]; omega)) ?_ | refine Bv 0 hG Y Y Y Y Y Y Y ?_ | refine Bv 1 hG Y Y Y Y Y Y Y ?_)
      | refine r_q hG Y Y Y ?_); exact kk)
    | (refine' Cn Y Y Y Y (fun K kk => ?_) ?_; (try (show Go.Ts.T; rotate_left)); (first | refine Ak 0 hG Y Y Y Y (by omega) Y ?_ | refine Ak 1 hG Y Y Y Y (by omega) Y ?_); exact kk)
    | refine dq0_e Y ?_ | (refine dq0_nil ?_; show EL _ _ _ _ _ _ _ _ _)
    | (refine Cf ⟨_, (by first | assumption | (simp only [Array.size_setIfInBounds]; omega)), Y⟩ Y Y Y (fun K ke => ?_); (first | refine Bc (α := Nat) 0 hG Y Y Y Ah Bb Y Y (by first | omega | (simp only [Array.size_setIfInBounds]; omega)) ?_ | refine Bc (α := Nat) 1 hG Y Y Y Ah Bb Y Y (by first | omega | (simp only [Array.size_setIfInBounds]; omega)) ?_); refine ke (.tup []) _ ?_)
    | (refine el_nil ⟨_, (by first | assumption | (simp only [Array.size_setIfInBounds]; omega)), Y⟩ ?_; show AL _ _ _ _ _ _ _ _) | fail)
        repeat' (first
    | ((first | (show AL _ _ _ _ _ _ _ _; refine Ag Y ?_) | (show DL _ _ _ _ _ _ _; refine' A8 Y Y (fun K kk => ?_) ?_; try (show Go.Ts.T; rotate_left))); (first
      | refine Aq hG Y Y ?_
      | refine A5 hG Y Y ?_
      | (show AOp _ _ ⟨_, .binOp .add _ _ _ _, _, _, _, _⟩ _ _ _; first | refine Ac hG Y Y Y Y Y (by omega) ?_ | refine Ac (m := 1) hG Y Y Y Y Y (by omega) ?_ | refine Ab hG Y Y Y Y Y (by omega) ?_)
      | (show AOp _ _ ⟨_, .binOp .sub _ _ _ _, _, _, _, _⟩ _ _ _; first | refine Av hG Y Y Y Y (by omega) ?_ | refine Av (m := 1) hG Y Y Y Y (by omega) ?_ | refine Cg (m := 1) hG Y Y Y Y (by omega) ?_ | refine Ab hG Y Y Y Y Y (by omega) ?_ | refine r_aru64 hG Y Y Y Y Y (by omega) ?_)
      | (show AOp _ _ ⟨_, .binOp .mul _ _ _ _, _, _, _, _⟩ _ _ _; first | refine Ac hG Y Y Y Y Y (by omega) ?_ | refine Ac (m := 1) hG Y Y Y Y Y (by omega) ?_ | refine Ac (m := 2) hG Y Y Y Y Y (by omega) ?_ | refine Ac (m := 3) hG Y Y Y Y Y (by omega) ?_ | refine Ac (n := 2) hG Y Y Y Y Y (by omega) ?_ | refine Ab hG Y Y Y Y Y (by omega) ?_)
      | (show AOp _ _ ⟨_, .binOp .quo _ _ _ _, _, _, _, _⟩ _ _ _; first | refine Bf (m := 2) hG Y Y Y Y (by omega) ?_ | refine Bf (m := 4) hG Y Y Y Y (by omega) ?_ | refine Bf (m := 8) hG Y Y Y Y (by omega) ?_)
      | (show AOp _ _ ⟨_, .binOp .and _ _ _ _, _, _, _, _⟩ _ _ _; first | refine r_andU hG Y Y Y Y (by omega) ?_ | refine r_andU (m := 63) hG Y Y Y Y (by omega) ?_)
      | (show AOp _ _ ⟨_, .binOp .and _ _ _ _, _, _, _, _⟩ _ _ _; refine r_and63 hG Y Y (by omega) Y ?_)
      | (show AOp _ _ ⟨_, .binOp _ _ _ _ _, _, _, _, _⟩ _ _ _; first | refine At hG Y Y Y Y Y (by omega) ?_ | refine Au hG Y Y Y Y Y (by omega) ?_ | ((fail_if_success have := kk); refine Am hG Y Y Y Y Y (fun h => ?_) (fun h => ?_)) | refine Bw hG Y Y Y ?_)
      | (show AOp _ _ ⟨_, .load _ _, _, _, _, _⟩ _ _ _; first | refine Ak (α := Nat) 0 hG Y Y Y Y (by omega) Y ?_ | refine Ak (α := Nat) 1 hG Y Y Y Y (by omega) Y ?_ | refine Ay hG Y Y Y ?_ | refine Bg 0 hG Y Y Y Y ?_ | refine Bg 1 hG Y Y Y Y ?_)
      | (show AOp _ _ ⟨_, .indexAddr _ _ _, _, _, _, _⟩ _ _ _; first | refine A1 hG Y Y Y Y Y Y Y (by omega) ?_ | refine A0 hG Y Y Y Y Y Y Y (by omega) ?_ | refine Az hG Y Y Y Y Y Y Y (by omega) ?_ | refine A9 hG Y Y ?_)
      | (show AOp _ _ ⟨_, .convert _ _ _, _, _, _, _⟩ _ _ _; first | refine r_cv_i64 hG Y Y Y Y Y (by omega) ?_ | refine r_cv_u64 hG Y Y Y Y Y (by omega) ?_ | refine r_cvw hG Y Y Y Y Y ?_)
      | (show AOp _ _ ⟨_, .alloc _, _, _, _, _⟩ _ _ _; refine Ce hG Y Y (fun i => ?_))
      | (show AOp _ _ ⟨_, .store _ _ _, _, _, _, _⟩ _ _ _; first | refine Bc (α := Nat) 0 hG Y Y Y Ah Bb Y Y (by first | omega | (simp only [Array.size_setIfInBounds]; omega)) ?_ | refine Bc (α := Nat) 1 hG Y Y Y Ah Bb Y Y (by first | omega | (simp only [Array.size_setIfInBounds]; omega)) ?_ | refine Bv 0 hG Y Y Y Y Y Y Y ?_ | refine Bv 1 hG Y Y Y Y Y Y Y ?_)
      | refine r_q hG Y Y Y ?_); try exact kk)
    | (show AL _ _ _ _ _ _ _ _; first | refine Bk Y Y Y ?_ | (refine Ar ?_; first | show AW _ _ _ _ _ _ | show ∃ x', _ < _ ∧ _)) | (show AW _ _ (.seq _ _) _ _ _; refine Ai ?_; intro Q1) | (show AW _ _ (.region _ _ false) _ _ _; refine Ad ?_; intro O1) | (show AW _ _ (.cond _ _ _) _ _ _; first | refine Ao Y ?_ | refine Ap Y ?_ | refine Ba Y (fun h => ?_) (fun h => ?_)) | (show AW _ _ (.skip) _ _ _; refine Aj ?_; first | show AW _ _ _ _ _ _ | show ∃ x', _ < _ ∧ _) | (show AW _ _ (.block _ _) _ _ _; refine Ae ?_; intro Q1) | (show AW _ _ (.exit _) _ _ _; refine Al ?_; first | show AW _ _ _ _ _ _ | show ∃ x', _ < _ ∧ _) | (show AW _ _ (.ret) _ _ _; refine Aw ?_; try dsimp only [Ax, Aa, A2, Af])
    | (show DL _ _ _ _ _ _ _; refine Bx Y Y (fun K kt kf => Am hG Y Y Y Y Y kt kf) (fun h => ?_) (fun h => ?_))
    | (show DL _ _ _ _ _ _ _; refine By Y Y Y ?_) | (show DL _ _ _ _ _ _ _; refine Be ?_; first | show AW _ _ _ _ _ _ | show ∃ x', _ < _ ∧ _) | (show AW _ _ (.region _ _ true) _ _ _; refine A3 mix (by kernel_rfl) ?_; intro O1) | fail)
        exact ⟨⟨p + 1, (xorNext r, swp d p (a + ((xorNext r).toNat &&& (M - 1)))), by rw [size_swp]; exact hdn, by omega, by omega, he2⟩, by dsimp only; omega, (by repeat (first | exact .nil _ | refine .cons rfl ?_)), .refl _⟩
    · have hd : brkRun a (b - a) M 3 (a + (b - a) / 4 * 2 - 1) (UInt64.ofNat (b - a), d0) = d := by rw [← he, show a + (b - a) / 4 * 2 - 1 + 3 - p = 0 by omega]; rfl
      repeat' (first
    | ((first | (show AL _ _ _ _ _ _ _ _; refine Ag Y ?_) | (show DL _ _ _ _ _ _ _; refine' A8 Y Y (fun K kk => ?_) ?_; try (show Go.Ts.T; rotate_left))); (first
      | refine Aq hG Y Y ?_
      | refine A5 hG Y Y ?_
      | (show AOp _ _ ⟨_, .binOp .add _ _ _ _, _, _, _, _⟩ _ _ _; first | refine Ac hG Y Y Y Y Y (by omega) ?_ | refine Ac (m := 1) hG Y Y Y Y Y (by omega) ?_ | refine Ab hG Y Y Y Y Y (by omega) ?_)
      | (show AOp _ _ ⟨_, .binOp .sub _ _ _ _, _, _, _, _⟩ _ _ _; first | refine Av hG Y Y Y Y (by omega) ?_ | refine Av (m := 1) hG Y Y Y Y (by omega) ?_ | refine Cg (m := 1) hG Y Y Y Y (by omega) ?_ | refine Ab hG Y Y Y Y Y (by omega) ?_ | refine r_aru64 hG Y Y Y Y Y (by omega) ?_)
      | (show AOp _ _ ⟨_, .binOp .mul _ _ _ _, _, _, _, _⟩ _ _ _; first | refine Ac hG Y Y Y Y Y (by omega) ?_ | refine Ac (m := 1) hG Y Y Y Y Y (by omega) ?_ | refine Ac (m := 2) hG Y Y Y Y Y (by omega) ?_ | refine Ac (m := 3) hG Y Y Y Y Y (by omega) ?_ | refine Ac (n := 2) hG Y Y Y Y Y (by omega) ?_ | refine Ab hG Y Y Y Y Y (by omega) ?_)
      | (show AOp _ _ ⟨_, .binOp .quo _ _ _ _, _, _, _, _⟩ _ _ _; first | refine Bf (m := 2) hG Y Y Y Y (by omega) ?_ | refine Bf (m := 4) hG Y Y Y Y (by omega) ?_ | refine Bf (m := 8) hG Y Y Y Y (by omega) ?_)
      | (show AOp _ _ ⟨_, .binOp .and _ _ _ _, _, _, _, _⟩ _ _ _; first | refine r_andU hG Y Y Y Y (by omega) ?_ | refine r_andU (m := 63) hG Y Y Y Y (by omega) ?_)
      | (show AOp _ _ ⟨_, .binOp .and _ _ _ _, _, _, _, _⟩ _ _ _; refine r_and63 hG Y Y (by omega) Y ?_)
      | (show AOp _ _ ⟨_, .binOp _ _ _ _ _, _, _, _, _⟩ _ _ _; first | refine At hG Y Y Y Y Y (by omega) ?_ | refine Au hG Y Y Y Y Y (by omega) ?_ | ((fail_if_success have := kk); refine Am hG Y Y Y Y Y (fun h => ?_) (fun h => ?_)) | refine Bw hG Y Y Y ?_)
      | (show AOp _ _ ⟨_, .load _ _, _, _, _, _⟩ _ _ _; first | refine Ak (α := Nat) 0 hG Y Y Y Y (by omega) Y ?_ | refine Ak (α := Nat) 1 hG Y Y Y Y (by omega) Y ?_ | refine Ay hG Y Y Y ?_ | refine Bg 0 hG Y Y Y Y ?_ | refine Bg 1 hG Y Y Y Y ?_)
      | (show AOp _ _ ⟨_, .indexAddr _ _ _, _, _, _, _⟩ _ _ _; first | refine A1 hG Y Y Y Y Y Y Y (by omega) ?_ | refine A0 hG Y Y Y Y Y Y Y (by omega) ?_ | refine Az hG Y Y Y Y Y Y Y (by omega) ?_ | refine A9 hG Y Y ?_)
      | (show AOp _ _ ⟨_, .convert _ _ _, _, _, _, _⟩ _ _ _; first | refine r_cv_i64 hG Y Y Y Y Y (by omega) ?_ | refine r_cv_u64 hG Y Y Y Y Y (by omega) ?_ | refine r_cvw hG Y Y Y Y Y ?_)
      | (show AOp _ _ ⟨_, .alloc _, _, _, _, _⟩ _ _ _; refine Ce hG Y Y (fun i => ?_))
      | (show AOp _ _ ⟨_, .store _ _ _, _, _, _, _⟩ _ _ _; first | refine Bc (α := Nat) 0 hG Y Y Y Ah Bb Y Y (by first | omega | (simp only [Array.size_setIfInBounds]; omega)) ?_ | refine Bc (α := Nat) 1 hG Y Y Y Ah Bb Y Y (by first | omega | (simp only [Array.size_setIfInBounds]; omega)) ?_ | refine Bv 0 hG Y Y Y Y Y Y Y ?_ | refine Bv 1 hG Y Y Y Y Y Y Y ?_)
      | refine r_q hG Y Y Y ?_); try exact kk)
    | (show AL _ _ _ _ _ _ _ _; first | refine Bk Y Y Y ?_ | (refine Ar ?_; first | show AW _ _ _ _ _ _ | show ∃ x', _ < _ ∧ _)) | (show AW _ _ (.seq _ _) _ _ _; refine Ai ?_; intro Q1) | (show AW _ _ (.region _ _ false) _ _ _; refine Ad ?_; intro O1) | (show AW _ _ (.cond _ _ _) _ _ _; first | refine Ao Y ?_ | refine Ap Y ?_ | refine Ba Y (fun h => ?_) (fun h => ?_)) | (show AW _ _ (.skip) _ _ _; refine Aj ?_; first | show AW _ _ _ _ _ _ | show ∃ x', _ < _ ∧ _) | (show AW _ _ (.block _ _) _ _ _; refine Ae ?_; intro Q1) | (show AW _ _ (.exit _) _ _ _; refine Al ?_; first | show AW _ _ _ _ _ _ | show ∃ x', _ < _ ∧ _) | (show AW _ _ (.ret) _ _ _; refine Aw ?_; try dsimp only [Ax, Aa, A2, Af])
    | (show DL _ _ _ _ _ _ _; refine Bx Y Y (fun K kt kf => Am hG Y Y Y Y Y kt kf) (fun h => ?_) (fun h => ?_))
    | (show DL _ _ _ _ _ _ _; refine By Y Y Y ?_) | (show DL _ _ _ _ _ _ _; refine Be ?_; first | show AW _ _ _ _ _ _ | show ∃ x', _ < _ ∧ _) | (show AW _ _ (.region _ _ true) _ _ _; refine A3 mix (by kernel_rfl) ?_; intro O1) | fail)
      refine Al ?_
      dsimp (config := { zetaDelta := true }) only [Ax, Aa]
      rw [hd]
      refine ret_rowE 1 Bl ?_ (.refl _) ?_ <;> rfl
  · rw [brk_small h8]
    repeat' (first
    | ((first | (show AL _ _ _ _ _ _ _ _; refine Ag Y ?_) | (show DL _ _ _ _ _ _ _; refine' A8 Y Y (fun K kk => ?_) ?_; try (show Go.Ts.T; rotate_left))); (first
      | refine Aq hG Y Y ?_
      | refine A5 hG Y Y ?_
      | (show AOp _ _ ⟨_, .binOp .add _ _ _ _, _, _, _, _⟩ _ _ _; first | refine Ac hG Y Y Y Y Y (by omega) ?_ | refine Ac (m := 1) hG Y Y Y Y Y (by omega) ?_ | refine Ab hG Y Y Y Y Y (by omega) ?_)
      | (show AOp _ _ ⟨_, .binOp .sub _ _ _ _, _, _, _, _⟩ _ _ _; first | refine Av hG Y Y Y Y (by omega) ?_ | refine Av (m := 1) hG Y Y Y Y (by omega) ?_ | refine Cg (m := 1) hG Y Y Y Y (by omega) ?_ | refine Ab hG Y Y Y Y Y (by omega) ?_ | refine r_aru64 hG Y Y Y Y Y (by omega) ?_)
      | (show AOp _ _ ⟨_, .binOp .mul _ _ _ _, _, _, _, _⟩ _ _ _; first | refine Ac hG Y Y Y Y Y (by omega) ?_ | refine Ac (m := 1) hG Y Y Y Y Y (by omega) ?_ | refine Ac (m := 2) hG Y Y Y Y Y (by omega) ?_ | refine Ac (m := 3) hG Y Y Y Y Y (by omega) ?_ | refine Ac (n := 2) hG Y Y Y Y Y (by omega) ?_ | refine Ab hG Y Y Y Y Y (by omega) ?_)
      | (show AOp _ _ ⟨_, .binOp .quo _ _ _ _, _, _, _, _⟩ _ _ _; first | refine Bf (m := 2) hG Y Y Y Y (by omega) ?_ | refine Bf (m := 4) hG Y Y Y Y (by omega) ?_ | refine Bf (m := 8) hG Y Y Y Y (by omega) ?_)
      | (show AOp _ _ ⟨_, .binOp .and _ _ _ _, _, _, _, _⟩ _ _ _; first | refine r_andU hG Y Y Y Y (by omega) ?_ | refine r_andU (m := 63) hG Y Y Y Y (by omega) ?_)
      | (show AOp _ _ ⟨_, .binOp .and _ _ _ _, _, _, _, _⟩ _ _ _; refine r_and63 hG Y Y (by omega) Y ?_)
      | (show AOp _ _ ⟨_, .binOp _ _ _ _ _, _, _, _, _⟩ _ _ _; first | refine At hG Y Y Y Y Y (by omega) ?_ | refine Au hG Y Y Y Y Y (by omega) ?_ | ((fail_if_success have := kk); refine Am hG Y Y Y Y Y (fun h => ?_) (fun h => ?_)) | refine Bw hG Y Y Y ?_)
      | (show AOp _ _ ⟨_, .load _ _, _, _, _, _⟩ _ _ _; first | refine Ak (α := Nat) 0 hG Y Y Y Y (by omega) Y ?_ | refine Ak (α := Nat) 1 hG Y Y Y Y (by omega) Y ?_ | refine Ay hG Y Y Y ?_ | refine Bg 0 hG Y Y Y Y ?_ | refine Bg 1 hG Y Y Y Y ?_)
      | (show AOp _ _ ⟨_, .indexAddr _ _ _, _, _, _, _⟩ _ _ _; first | refine A1 hG Y Y Y Y Y Y Y (by omega) ?_ | refine A0 hG Y Y Y Y Y Y Y (by omega) ?_ | refine Az hG Y Y Y Y Y Y Y (by omega) ?_ | refine A9 hG Y Y ?_)
      | (show AOp _ _ ⟨_, .convert _ _ _, _, _, _, _⟩ _ _ _; first | refine r_cv_i64 hG Y Y Y Y Y (by omega) ?_ | refine r_cv_u64 hG Y Y Y Y Y (by omega) ?_ | refine r_cvw hG Y Y Y Y Y ?_)
      | (show AOp _ _ ⟨_, .alloc _, _, _, _, _⟩ _ _ _; refine Ce hG Y Y (fun i => ?_))
      | (show AOp _ _ ⟨_, .store _ _ _, _, _, _, _⟩ _ _ _; first | refine Bc (α := Nat) 0 hG Y Y Y Ah Bb Y Y (by first | omega | (simp only [Array.size_setIfInBounds]; omega)) ?_ | refine Bc (α := Nat) 1 hG Y Y Y Ah Bb Y Y (by first | omega | (simp only [Array.size_setIfInBounds]; omega)) ?_ | refine Bv 0 hG Y Y Y Y Y Y Y ?_ | refine Bv 1 hG Y Y Y Y Y Y Y ?_)
      | refine r_q hG Y Y Y ?_); try exact kk)
    | (show AL _ _ _ _ _ _ _ _; first | refine Bk Y Y Y ?_ | (refine Ar ?_; first | show AW _ _ _ _ _ _ | show ∃ x', _ < _ ∧ _)) | (show AW _ _ (.seq _ _) _ _ _; refine Ai ?_; intro Q1) | (show AW _ _ (.region _ _ false) _ _ _; refine Ad ?_; intro O1) | (show AW _ _ (.cond _ _ _) _ _ _; first | refine Ao Y ?_ | refine Ap Y ?_ | refine Ba Y (fun h => ?_) (fun h => ?_)) | (show AW _ _ (.skip) _ _ _; refine Aj ?_; first | show AW _ _ _ _ _ _ | show ∃ x', _ < _ ∧ _) | (show AW _ _ (.block _ _) _ _ _; refine Ae ?_; intro Q1) | (show AW _ _ (.exit _) _ _ _; refine Al ?_; first | show AW _ _ _ _ _ _ | show ∃ x', _ < _ ∧ _) | (show AW _ _ (.ret) _ _ _; refine Aw ?_; try dsimp only [Ax, Aa, A2, Af])
    | (show DL _ _ _ _ _ _ _; refine Bx Y Y (fun K kt kf => Am hG Y Y Y Y Y kt kf) (fun h => ?_) (fun h => ?_))
    | (show DL _ _ _ _ _ _ _; refine By Y Y Y ?_) | (show DL _ _ _ _ _ _ _; refine Be ?_; first | show AW _ _ _ _ _ _ | show ∃ x', _ < _ ∧ _) | (show AW _ _ (.region _ _ true) _ _ _; refine A3 mix (by kernel_rfl) ?_; intro O1) | fail)
    refine Aj ?_
    refine ret_rowE 0 Bl ?_ (.refl _) ?_ <;> rfl
end Go.Proofs.Ytmckbfdklcmogaa
namespace Go.Proofs.Ytmckbfdklcmogaa
open Go.Ts
set_option linter.unusedSimpArgs false
set_option linter.unusedVariables false
attribute [local irreducible] Go.Ts.AW Go.Ts.AOps Go.Ts.AL Go.Ts.AOp Go.Ts.ACalls Go.Ts.DL Go.Ts.DQ0 Go.Ts.EL
open Go.Sort in
structure SiX (hi first lo n : Nat) (d0 : Array Nat) where
  r : Nat
  d : Array Nat
  hn : d.size = n
  hb : r ≤ 4294967296
  hr : siftDown ltQ hi first r d = siftDown ltQ hi first lo d0
open Go.Sort in
theorem srt_sift {d0 : Array Nat} {lo hi first : Nat} (hab : first + hi ≤ d0.size) (hs : d0.size ≤ 4294967296) (hlo : lo ≤ 4294967296) : OnRow Try.prog 44 mT [.int .i64 (lo : Int), .int .i64 (hi : Int), .int .i64 (first : Int)] d0 (.tup []) (siftDown ltQ hi first lo d0) := by
  intro off i n cap hn
  refine Br (N := 76) (rs := []) hG Try.func44 rfl rfl rfl rfl rfl ?_
  repeat' (first
    | ((first | (show AL _ _ _ _ _ _ _ _; refine Ag Y ?_) | (show DL _ _ _ _ _ _ _; refine' A8 Y Y (fun K kk => ?_) ?_; try (show Go.Ts.T; rotate_left))); (first
      | refine Aq hG Y Y ?_
      | refine A5 hG Y Y ?_
      | (show AOp _ _ ⟨_, .binOp .add _ _ _ _, _, _, _, _⟩ _ _ _; first | refine Ac hG Y Y Y Y Y (by omega) ?_ | refine Ac (m := 1) hG Y Y Y Y Y (by omega) ?_ | refine Ab hG Y Y Y Y Y (by omega) ?_)
      | (show AOp _ _ ⟨_, .binOp .mul _ _ _ _, _, _, _, _⟩ _ _ _; first | refine Ac hG Y Y Y Y Y (by omega) ?_ | refine Ac (m := 1) hG Y Y Y Y Y (by omega) ?_ | refine Ac (m := 2) hG Y Y Y Y Y (by omega) ?_ | refine Ac (m := 3) hG Y Y Y Y Y (by omega) ?_ | refine Ac (n := 2) hG Y Y Y Y Y (by omega) ?_ | refine Ab hG Y Y Y Y Y (by omega) ?_)
      | (show AOp _ _ ⟨_, .binOp _ _ _ _ _, _, _, _, _⟩ _ _ _; first | refine At hG Y Y Y Y Y (by omega) ?_ | refine Au hG Y Y Y Y Y (by omega) ?_ | ((fail_if_success have := kk); refine Am hG Y Y Y Y Y (fun h => ?_) (fun h => ?_)))
      | (show AOp _ _ ⟨_, .load _ _, _, _, _, _⟩ _ _ _; first | refine Ak (α := Nat) 0 hG Y Y Y Y (by omega) Y ?_ | refine Ay hG Y Y Y ?_ | refine Bg 0 hG Y Y Y Y ?_)
      | (show AOp _ _ ⟨_, .indexAddr _ _ _, _, _, _, _⟩ _ _ _; first | refine A1 hG Y Y Y Y Y Y Y (by omega) ?_ | refine A0 hG Y Y Y Y Y Y Y (by omega) ?_ | refine Az hG Y Y Y Y Y Y Y (by omega) ?_ | refine A9 hG Y Y ?_)
      | refine A6 hG Y Y Y ?_
      | refine Bs hG Y Y Y ?_
      | (show AOp _ _ ⟨_, .store _ _ _, _, _, _, _⟩ _ _ _; first | refine Bc (α := Nat) 0 hG Y Y Y Ah Bb Y Y (by first | omega | (simp only [Array.size_setIfInBounds]; omega)) ?_ | refine Bv 0 hG Y Y Y Y Y Y Y ?_)
      | refine r_q hG Y Y Y ?_); try exact kk)
    | (show AL _ _ _ _ _ _ _ _; first | refine Bk Y Y Y ?_ | (refine Ar ?_; first | show AW _ _ _ _ _ _ | show ∃ x', _ < _ ∧ _)) | (show AW _ _ (.seq _ _) _ _ _; refine Ai ?_; intro Q1) | (show AW _ _ (.region _ _ false) _ _ _; refine Ad ?_; intro O1) | (show AW _ _ (.cond _ _ _) _ _ _; first | refine Ao Y ?_ | refine Ap Y ?_ | refine Ba Y (fun h => ?_) (fun h => ?_)) | (show AW _ _ (.skip) _ _ _; refine Aj ?_; first | show AW _ _ _ _ _ _ | show ∃ x', _ < _ ∧ _) | (show AW _ _ (.block _ _) _ _ _; refine Ae ?_; intro Q1) | (show AW _ _ (.exit _) _ _ _; refine Al ?_; first | show AW _ _ _ _ _ _ | show ∃ x', _ < _ ∧ _) | (show AW _ _ (.ret) _ _ _; refine Aw ?_; try dsimp only [Ax, Aa, A2, Af])
    | (show DL _ _ _ _ _ _ _; refine Bx Y Y (fun K kt kf => Am hG Y Y Y Y Y kt kf) (fun h => ?_) (fun h => ?_))
    | (show DL _ _ _ _ _ _ _; refine By Y Y Y ?_) | (show DL _ _ _ _ _ _ _; refine Be ?_; first | show AW _ _ _ _ _ _ | show ∃ x', _ < _ ∧ _) | (show AW _ _ (.region _ _ true) _ _ _; refine A3 mix (by kernel_rfl) ?_; intro O1) | fail)
  refine Ch (X := SiX hi first lo n d0) (fun x => [(0, .aref 1 i 0 n cap), (1, .int .i64 (lo : Int)), (2, .int .i64 (hi : Int)), (3, .int .i64 (first : Int)), (8, .int .i64 (x.r : Int))]) (fun x => ⟨[(i, .cells (rowT mT x.d))], [], off, none⟩) (fun x => hi - x.r) ⟨lo, d0, hn, hlo, rfl⟩ (by repeat (first | exact .nil _ | refine .cons rfl ?_)) (.refl _) ?_
  rintro ⟨r, d, hdn, hb, hr⟩
  dsimp only at hr ⊢
  by_cases h1 : 2 * r + 1 ≥ hi
  · have hd : siftDown ltQ hi first lo d0 = d := by rw [← hr, siftDown, dif_pos h1]
    repeat' (first
    | ((first | (show AL _ _ _ _ _ _ _ _; refine Ag Y ?_) | (show DL _ _ _ _ _ _ _; refine' A8 Y Y (fun K kk => ?_) ?_; try (show Go.Ts.T; rotate_left))); (first
      | refine Aq hG Y Y ?_
      | refine A5 hG Y Y ?_
      | (show AOp _ _ ⟨_, .binOp .add _ _ _ _, _, _, _, _⟩ _ _ _; first | refine Ac hG Y Y Y Y Y (by omega) ?_ | refine Ac (m := 1) hG Y Y Y Y Y (by omega) ?_ | refine Ab hG Y Y Y Y Y (by omega) ?_)
      | (show AOp _ _ ⟨_, .binOp .mul _ _ _ _, _, _, _, _⟩ _ _ _; first | refine Ac hG Y Y Y Y Y (by omega) ?_ | refine Ac (m := 1) hG Y Y Y Y Y (by omega) ?_ | refine Ac (m := 2) hG Y Y Y Y Y (by omega) ?_ | refine Ac (m := 3) hG Y Y Y Y Y (by omega) ?_ | refine Ac (n := 2) hG Y Y Y Y Y (by omega) ?_ | refine Ab hG Y Y Y Y Y (by omega) ?_)
      | (show AOp _ _ ⟨_, .binOp _ _ _ _ _, _, _, _, _⟩ _ _ _; first | refine At hG Y Y Y Y Y (by omega) ?_ | refine Au hG Y Y Y Y Y (by omega) ?_ | ((fail_if_success have := kk); refine Am hG Y Y Y Y Y (fun h => ?_) (fun h => ?_)))
      | (show AOp _ _ ⟨_, .load _ _, _, _, _, _⟩ _ _ _; first | refine Ak (α := Nat) 0 hG Y Y Y Y (by omega) Y ?_ | refine Ay hG Y Y Y ?_ | refine Bg 0 hG Y Y Y Y ?_)
      | (show AOp _ _ ⟨_, .indexAddr _ _ _, _, _, _, _⟩ _ _ _; first | refine A1 hG Y Y Y Y Y Y Y (by omega) ?_ | refine A0 hG Y Y Y Y Y Y Y (by omega) ?_ | refine Az hG Y Y Y Y Y Y Y (by omega) ?_ | refine A9 hG Y Y ?_)
      | refine A6 hG Y Y Y ?_
      | refine Bs hG Y Y Y ?_
      | (show AOp _ _ ⟨_, .store _ _ _, _, _, _, _⟩ _ _ _; first | refine Bc (α := Nat) 0 hG Y Y Y Ah Bb Y Y (by first | omega | (simp only [Array.size_setIfInBounds]; omega)) ?_ | refine Bv 0 hG Y Y Y Y Y Y Y ?_)
      | refine r_q hG Y Y Y ?_); try exact kk)
    | (show AL _ _ _ _ _ _ _ _; first | refine Bk Y Y Y ?_ | (refine Ar ?_; first | show AW _ _ _ _ _ _ | show ∃ x', _ < _ ∧ _)) | (show AW _ _ (.seq _ _) _ _ _; refine Ai ?_; intro Q1) | (show AW _ _ (.region _ _ false) _ _ _; refine Ad ?_; intro O1) | (show AW _ _ (.cond _ _ _) _ _ _; first | refine Ao Y ?_ | refine Ap Y ?_ | refine Ba Y (fun h => ?_) (fun h => ?_)) | (show AW _ _ (.skip) _ _ _; refine Aj ?_; first | show AW _ _ _ _ _ _ | show ∃ x', _ < _ ∧ _) | (show AW _ _ (.block _ _) _ _ _; refine Ae ?_; intro Q1) | (show AW _ _ (.exit _) _ _ _; refine Al ?_; first | show AW _ _ _ _ _ _ | show ∃ x', _ < _ ∧ _) | (show AW _ _ (.ret) _ _ _; refine Aw ?_; try dsimp only [Ax, Aa, A2, Af])
    | (show DL _ _ _ _ _ _ _; refine Bx Y Y (fun K kt kf => Am hG Y Y Y Y Y kt kf) (fun h => ?_) (fun h => ?_))
    | (show DL _ _ _ _ _ _ _; refine By Y Y Y ?_) | (show DL _ _ _ _ _ _ _; refine Be ?_; first | show AW _ _ _ _ _ _ | show ∃ x', _ < _ ∧ _) | (show AW _ _ (.region _ _ true) _ _ _; refine A3 mix (by kernel_rfl) ?_; intro O1) | fail)
    refine Al ?_
    dsimp (config := { zetaDelta := true }) only [Ax, Aa]
    rw [hd]
    refine ret_rowE 0 Bl ?_ (.refl _) ?_ <;> rfl
  · rw [siftDown, dif_neg h1] at hr
    repeat' (first
    | ((first | (show AL _ _ _ _ _ _ _ _; refine Ag Y ?_) | (show DL _ _ _ _ _ _ _; refine' A8 Y Y (fun K kk => ?_) ?_; try (show Go.Ts.T; rotate_left))); (first
      | refine Aq hG Y Y ?_
      | refine A5 hG Y Y ?_
      | (show AOp _ _ ⟨_, .binOp .add _ _ _ _, _, _, _, _⟩ _ _ _; first | refine Ac hG Y Y Y Y Y (by omega) ?_ | refine Ac (m := 1) hG Y Y Y Y Y (by omega) ?_ | refine Ab hG Y Y Y Y Y (by omega) ?_)
      | (show AOp _ _ ⟨_, .binOp .mul _ _ _ _, _, _, _, _⟩ _ _ _; first | refine Ac hG Y Y Y Y Y (by omega) ?_ | refine Ac (m := 1) hG Y Y Y Y Y (by omega) ?_ | refine Ac (m := 2) hG Y Y Y Y Y (by omega) ?_ | refine Ac (m := 3) hG Y Y Y Y Y (by omega) ?_ | refine Ac (n := 2) hG Y Y Y Y Y (by omega) ?_ | refine Ab hG Y Y Y Y Y (by omega) ?_)
      | (show AOp _ _ ⟨_, .binOp _ _ _ _ _, _, _, _, _⟩ _ _ _; first | refine At hG Y Y Y Y Y (by omega) ?_ | refine Au hG Y Y Y Y Y (by omega) ?_ | ((fail_if_success have := kk); refine Am hG Y Y Y Y Y (fun h => ?_) (fun h => ?_)))
      | (show AOp _ _ ⟨_, .load _ _, _, _, _, _⟩ _ _ _; first | refine Ak (α := Nat) 0 hG Y Y Y Y (by omega) Y ?_ | refine Ay hG Y Y Y ?_ | refine Bg 0 hG Y Y Y Y ?_)
      | (show AOp _ _ ⟨_, .indexAddr _ _ _, _, _, _, _⟩ _ _ _; first | refine A1 hG Y Y Y Y Y Y Y (by omega) ?_ | refine A0 hG Y Y Y Y Y Y Y (by omega) ?_ | refine Az hG Y Y Y Y Y Y Y (by omega) ?_ | refine A9 hG Y Y ?_)
      | refine A6 hG Y Y Y ?_
      | refine Bs hG Y Y Y ?_
      | (show AOp _ _ ⟨_, .store _ _ _, _, _, _, _⟩ _ _ _; first | refine Bc (α := Nat) 0 hG Y Y Y Ah Bb Y Y (by first | omega | (simp only [Array.size_setIfInBounds]; omega)) ?_ | refine Bv 0 hG Y Y Y Y Y Y Y ?_)
      | (show AOp _ _ ⟨_, .call ⟨.value _, _, _⟩, _, _, _, _⟩ _ _ _; first | refine Bn Y Y Y Y Y (by first | (apply Cr <;> (first | assumption | omega | exact A4 _ _ | exact Bd _ | exact A7 _ _ | exact Bi _ | rfl | (simp; omega))) | fail) ?_ | fail)
      | refine r_q hG Y Y Y ?_); try exact kk)
    | (show AL _ _ _ _ _ _ _ _; first | refine Bk Y Y Y ?_ | (refine Ar ?_; first | show AW _ _ _ _ _ _ | show ∃ x', _ < _ ∧ _)) | (show AW _ _ (.seq _ _) _ _ _; refine Ai ?_; intro Q1) | (show AW _ _ (.region _ _ false) _ _ _; (fail_if_success show AW _ _ (.region 6 _ _) _ _ _); refine Ad ?_; intro O1) | (show AW _ _ (.cond _ _ _) _ _ _; first | refine Ao Y ?_ | refine Ap Y ?_ | refine Ba Y (fun h => ?_) (fun h => ?_)) | (show AW _ _ (.skip) _ _ _; refine Aj ?_; first | show AW _ _ _ _ _ _ | show ∃ x', _ < _ ∧ _) | (show AW _ _ (.block _ _) _ _ _; refine Ae ?_; intro Q1) | (show AW _ _ (.exit _) _ _ _; refine Al ?_; first | show AW _ _ _ _ _ _ | show ∃ x', _ < _ ∧ _) | (show AW _ _ (.ret) _ _ _; refine Aw ?_; try dsimp only [Ax, Aa, A2, Af])
    | (show DL _ _ _ _ _ _ _; refine Bx Y Y (fun K kt kf => Am hG Y Y Y Y Y kt kf) (fun h => ?_) (fun h => ?_))
    | (show DL _ _ _ _ _ _ _; refine By Y Y Y ?_) | (show DL _ _ _ _ _ _ _; refine Be ?_; first | show AW _ _ _ _ _ _ | show ∃ x', _ < _ ∧ _) | (show AW _ _ (.region _ _ true) _ _ _; (fail_if_success show AW _ _ (.region 6 _ _) _ _ _); refine A3 mix (by kernel_rfl) ?_; intro O1) | fail)
    · have hl : ltQ d[first + (2 * r + 1)]! d[first + (2 * r + 1) + 1]! = true := by assumption
      have h2 : (!ltQ d[first + r]! d[first + (2 * r + 2)]!) = true := h
      rw [if_pos (by simp [hl]; omega), if_pos h2] at hr
      dsimp (config := { zetaDelta := true }) only [Ax, Aa]
      rw [← hr]
      refine ret_row 0 Bl ?_ (.refl _) ?_ <;> rfl
    · have hl : ltQ d[first + (2 * r + 1)]! d[first + (2 * r + 1) + 1]! = true := by assumption
      have h2 : (!ltQ d[first + r]! d[first + (2 * r + 2)]!) = false := h
      rw [if_pos (by simp [hl]; omega), if_neg (by rw [h2]; simp), dif_pos (by omega)] at hr
      refine Co (m := 22) [21] [13, 19] (fun σ => ∃ c : Array Nat, c.size = n ∧ σ = ⟨[(i, .cells (rowT mT c))], [], off, none⟩) mix Y Y (by repeat (first | exact Sp.zero _ | apply Sp.succ)) ?_; intro O1 F1 Z1 Q2; repeat' (first
    | (refine' dq0_cons Y Y Y Y (fun σ hσ K kk => ?_) ?_; (try (show Go.Ts.T; rotate_left)); (obtain ⟨c, hcn, hcs⟩ := hσ; subst hcs); (first
      | refine Aq hG Y Y ?_
      | refine A5 hG Y Y ?_
      | (show AOp _ _ ⟨_, .binOp .add _ _ _ _, _, _, _, _⟩ _ _ _; first | refine Ac hG Y Y Y Y Y (by omega) ?_ | refine Ac (m := 1) hG Y Y Y Y Y (by omega) ?_ | refine Ab hG Y Y Y Y Y (by omega) ?_)
      | (show AOp _ _ ⟨_, .binOp .mul _ _ _ _, _, _, _, _⟩ _ _ _; first | refine Ac hG Y Y Y Y Y (by omega) ?_ | refine Ac (m := 1) hG Y Y Y Y Y (by omega) ?_ | refine Ac (m := 2) hG Y Y Y Y Y (by omega) ?_ | refine Ac (m := 3) hG Y Y Y Y Y (by omega) ?_ | refine Ac (n := 2) hG Y Y Y Y Y (by omega) ?_ | refine Ab hG Y Y Y Y Y (by omega) ?_)
      | (show AOp _ _ ⟨_, .binOp _ _ _ _ _, _, _, _, _⟩ _ _ _; first | refine At hG Y Y Y Y Y (by omega) ?_ | refine Au hG Y Y Y Y Y (by omega) ?_)
      | (show AOp _ _ ⟨_, .load _ _, _, _, _, _⟩ _ _ _; first | refine Ak (α := Nat) 0 hG Y Y Y Y (by omega) Y ?_ | refine Ak (α := Nat) 1 hG Y Y Y Y (by omega) Y ?_ | refine Ay hG Y Y Y ?_ | refine Bg 0 hG Y Y Y Y ?_)
      | (show AOp _ _ ⟨_, .indexAddr _ _ _, _, _, _, _⟩ _ _ _; first | refine A1 hG Y Y Y Y Y Y Y (by omega) ?_ | refine A0 hG Y Y Y Y Y Y Y (by omega) ?_ | refine Az hG Y Y Y Y Y Y Y (by omega) ?_ | refine A9 hG Y Y ?_)
      | refine A6 hG Y Y Y ?_
      | refine Bs hG Y Y Y ?_
      | (show AOp _ _ ⟨_, .store _ _ _, _, _, _, _⟩ _ _ _; first | refine Bc (α := Nat) 0 hG Y Y Y Ah Bb Y Y (by first | omega | (simp only [Array.size_setIfInBounds]; omega)) ?_ | refine Bc (α := Nat) 1 hG Y Y Y Ah Bb Y Y (by first | omega | (simp only [Array.size_setIfInBounds]; omega)) ?_ | refine Bv 0 hG Y Y Y Y Y Y Y ?_)
      | refine r_q hG Y Y Y ?_); exact kk)
    | (refine' Cn Y Y Y Y (fun K kk => ?_) ?_; (try (show Go.Ts.T; rotate_left)); (first | refine Ak 0 hG Y Y Y Y (by omega) Y ?_ | refine Ak 1 hG Y Y Y Y (by omega) Y ?_); exact kk)
    | refine dq0_e Y ?_ | (refine dq0_nil ?_; show EL _ _ _ _ _ _ _ _ _)
    | (refine Cf ⟨_, (by first | assumption | (simp only [Array.size_setIfInBounds]; omega)), Y⟩ Y Y Y (fun K ke => ?_); (first | refine Bc (α := Nat) 0 hG Y Y Y Ah Bb Y Y (by first | omega | (simp only [Array.size_setIfInBounds]; omega)) ?_ | refine Bc (α := Nat) 1 hG Y Y Y Ah Bb Y Y (by first | omega | (simp only [Array.size_setIfInBounds]; omega)) ?_); refine ke (.tup []) _ ?_)
    | (refine el_nil ⟨_, (by first | assumption | (simp only [Array.size_setIfInBounds]; omega)), Y⟩ ?_; show AL _ _ _ _ _ _ _ _) | fail)
      repeat' (first
    | ((first | (show AL _ _ _ _ _ _ _ _; refine Ag Y ?_) | (show DL _ _ _ _ _ _ _; refine' A8 Y Y (fun K kk => ?_) ?_; try (show Go.Ts.T; rotate_left))); (first
      | refine Aq hG Y Y ?_
      | refine A5 hG Y Y ?_
      | (show AOp _ _ ⟨_, .binOp .add _ _ _ _, _, _, _, _⟩ _ _ _; first | refine Ac hG Y Y Y Y Y (by omega) ?_ | refine Ac (m := 1) hG Y Y Y Y Y (by omega) ?_ | refine Ab hG Y Y Y Y Y (by omega) ?_)
      | (show AOp _ _ ⟨_, .binOp .mul _ _ _ _, _, _, _, _⟩ _ _ _; first | refine Ac hG Y Y Y Y Y (by omega) ?_ | refine Ac (m := 1) hG Y Y Y Y Y (by omega) ?_ | refine Ac (m := 2) hG Y Y Y Y Y (by omega) ?_ | refine Ac (m := 3) hG Y Y Y Y Y (by omega) ?_ | refine Ac (n := 2) hG Y Y Y Y Y (by omega) ?_ | refine Ab hG Y Y Y Y Y (by omega) ?_)
      | (show AOp _ _ ⟨_, .binOp _ _ _ _ _, _, _, _, _⟩ _ _ _; first | refine At hG Y Y Y Y Y (by omega) ?_ | refine Au hG Y Y Y Y Y (by omega) ?_ | ((fail_if_success have := kk); refine Am hG Y Y Y Y Y (fun h => ?_) (fun h => ?_)))
      | (show AOp _ _ ⟨_, .load _ _, _, _, _, _⟩ _ _ _; first | refine Ak (α := Nat) 0 hG Y Y Y Y (by omega) Y ?_ | refine Ay hG Y Y Y ?_ | refine Bg 0 hG Y Y Y Y ?_)
      | (show AOp _ _ ⟨_, .indexAddr _ _ _, _, _, _, _⟩ _ _ _; first | refine A1 hG Y Y Y Y Y Y Y (by omega) ?_ | refine A0 hG Y Y Y Y Y Y Y (by omega) ?_ | refine Az hG Y Y Y Y Y Y Y (by omega) ?_ | refine A9 hG Y Y ?_)
      | refine A6 hG Y Y Y ?_
      | refine Bs hG Y Y Y ?_
      | (show AOp _ _ ⟨_, .store _ _ _, _, _, _, _⟩ _ _ _; first | refine Bc (α := Nat) 0 hG Y Y Y Ah Bb Y Y (by first | omega | (simp only [Array.size_setIfInBounds]; omega)) ?_ | refine Bv 0 hG Y Y Y Y Y Y Y ?_)
      | refine r_q hG Y Y Y ?_); try exact kk)
    | (show AL _ _ _ _ _ _ _ _; first | refine Bk Y Y Y ?_ | (refine Ar ?_; first | show AW _ _ _ _ _ _ | show ∃ x', _ < _ ∧ _)) | (show AW _ _ (.seq _ _) _ _ _; refine Ai ?_; intro Q1) | (show AW _ _ (.region _ _ false) _ _ _; refine Ad ?_; intro O1) | (show AW _ _ (.cond _ _ _) _ _ _; first | refine Ao Y ?_ | refine Ap Y ?_ | refine Ba Y (fun h => ?_) (fun h => ?_)) | (show AW _ _ (.skip) _ _ _; refine Aj ?_; first | show AW _ _ _ _ _ _ | show ∃ x', _ < _ ∧ _) | (show AW _ _ (.block _ _) _ _ _; refine Ae ?_; intro Q1) | (show AW _ _ (.exit _) _ _ _; refine Al ?_; first | show AW _ _ _ _ _ _ | show ∃ x', _ < _ ∧ _) | (show AW _ _ (.ret) _ _ _; refine Aw ?_; try dsimp only [Ax, Aa, A2, Af])
    | (show DL _ _ _ _ _ _ _; refine Bx Y Y (fun K kt kf => Am hG Y Y Y Y Y kt kf) (fun h => ?_) (fun h => ?_))
    | (show DL _ _ _ _ _ _ _; refine By Y Y Y ?_) | (show DL _ _ _ _ _ _ _; refine Be ?_; first | show AW _ _ _ _ _ _ | show ∃ x', _ < _ ∧ _) | (show AW _ _ (.region _ _ true) _ _ _; refine A3 mix (by kernel_rfl) ?_; intro O1) | fail)
      exact ⟨⟨2 * r + 2, swp d (first + r) (first + (2 * r + 2)), by rw [size_swp]; exact hdn, by omega, hr⟩, by dsimp only; omega, (by repeat (first | exact .nil _ | refine .cons rfl ?_)), .refl _⟩
    · have hl : ltQ d[first + (2 * r + 1)]! d[first + (2 * r + 1) + 1]! = false := by assumption
      rw [if_neg (by simp [hl]), if_pos h] at hr
      dsimp (config := { zetaDelta := true }) only [Ax, Aa]
      rw [← hr]
      refine ret_row 0 Bl ?_ (.refl _) ?_ <;> rfl
    · have hl : ltQ d[first + (2 * r + 1)]! d[first + (2 * r + 1) + 1]! = false := by assumption
      rw [if_neg (by simp [hl]), if_neg (by rw [h]; simp)] at hr
      refine Co (m := 22) [21] [13, 19] (fun σ => ∃ c : Array Nat, c.size = n ∧ σ = ⟨[(i, .cells (rowT mT c))], [], off, none⟩) mix Y Y (by repeat (first | exact Sp.zero _ | apply Sp.succ)) ?_; intro O1 F1 Z1 Q2; repeat' (first
    | (refine' dq0_cons Y Y Y Y (fun σ hσ K kk => ?_) ?_; (try (show Go.Ts.T; rotate_left)); (obtain ⟨c, hcn, hcs⟩ := hσ; subst hcs); (first
      | refine Aq hG Y Y ?_
      | refine A5 hG Y Y ?_
      | (show AOp _ _ ⟨_, .binOp .add _ _ _ _, _, _, _, _⟩ _ _ _; first | refine Ac hG Y Y Y Y Y (by omega) ?_ | refine Ac (m := 1) hG Y Y Y Y Y (by omega) ?_ | refine Ab hG Y Y Y Y Y (by omega) ?_)
      | (show AOp _ _ ⟨_, .binOp .mul _ _ _ _, _, _, _, _⟩ _ _ _; first | refine Ac hG Y Y Y Y Y (by omega) ?_ | refine Ac (m := 1) hG Y Y Y Y Y (by omega) ?_ | refine Ac (m := 2) hG Y Y Y Y Y (by omega) ?_ | refine Ac (m := 3) hG Y Y Y Y Y (by omega) ?_ | refine Ac (n := 2) hG Y Y Y Y Y (by omega) ?_ | refine Ab hG Y Y Y Y Y (by omega) ?_)
      | (show AOp _ _ ⟨_, .binOp _ _ _ _ _, _, _, _, _⟩ _ _ _; first | refine At hG Y Y Y Y Y (by omega) ?_ | refine Au hG Y Y Y Y Y (by omega) ?_)
      | (show AOp _ _ ⟨_, .load _ _, _, _, _, _⟩ _ _ _; first | refine Ak (α := Nat) 0 hG Y Y Y Y (by omega) Y ?_ | refine Ak (α := Nat) 1 hG Y Y Y Y (by omega) Y ?_ | refine Ay hG Y Y Y ?_ | refine Bg 0 hG Y Y Y Y ?_)
      | (show AOp _ _ ⟨_, .indexAddr _ _ _, _, _, _, _⟩ _ _ _; first | refine A1 hG Y Y Y Y Y Y Y (by omega) ?_ | refine A0 hG Y Y Y Y Y Y Y (by omega) ?_ | refine Az hG Y Y Y Y Y Y Y (by omega) ?_ | refine A9 hG Y Y ?_)
      | refine A6 hG Y Y Y ?_
      | refine Bs hG Y Y Y ?_
      | (show AOp _ _ ⟨_, .store _ _ _, _, _, _, _⟩ _ _ _; first | refine Bc (α := Nat) 0 hG Y Y Y Ah Bb Y Y (by first | omega | (simp only [Array.size_setIfInBounds]; omega)) ?_ | refine Bc (α := Nat) 1 hG Y Y Y Ah Bb Y Y (by first | omega | (simp only [Array.size_setIfInBounds]; omega)) ?_ | refine Bv 0 hG Y Y Y Y Y Y Y ?_)
      | refine r_q hG Y Y Y ?_); exact kk)
    | (refine' Cn Y Y Y Y (fun K kk => ?_) ?_; (try (show Go.Ts.T; rotate_left)); (first | refine Ak 0 hG Y Y Y Y (by omega) Y ?_ | refine Ak 1 hG Y Y Y Y (by omega) Y ?_); exact kk)
    | refine dq0_e Y ?_ | (refine dq0_nil ?_; show EL _ _ _ _ _ _ _ _ _)
    | (refine Cf ⟨_, (by first | assumption | (simp only [Array.size_setIfInBounds]; omega)), Y⟩ Y Y Y (fun K ke => ?_); (first | refine Bc (α := Nat) 0 hG Y Y Y Ah Bb Y Y (by first | omega | (simp only [Array.size_setIfInBounds]; omega)) ?_ | refine Bc (α := Nat) 1 hG Y Y Y Ah Bb Y Y (by first | omega | (simp only [Array.size_setIfInBounds]; omega)) ?_); refine ke (.tup []) _ ?_)
    | (refine el_nil ⟨_, (by first | assumption | (simp only [Array.size_setIfInBounds]; omega)), Y⟩ ?_; show AL _ _ _ _ _ _ _ _) | fail)
      repeat' (first
    | ((first | (show AL _ _ _ _ _ _ _ _; refine Ag Y ?_) | (show DL _ _ _ _ _ _ _; refine' A8 Y Y (fun K kk => ?_) ?_; try (show Go.Ts.T; rotate_left))); (first
      | refine Aq hG Y Y ?_
      | refine A5 hG Y Y ?_
      | (show AOp _ _ ⟨_, .binOp .add _ _ _ _, _, _, _, _⟩ _ _ _; first | refine Ac hG Y Y Y Y Y (by omega) ?_ | refine Ac (m := 1) hG Y Y Y Y Y (by omega) ?_ | refine Ab hG Y Y Y Y Y (by omega) ?_)
      | (show AOp _ _ ⟨_, .binOp .mul _ _ _ _, _, _, _, _⟩ _ _ _; first | refine Ac hG Y Y Y Y Y (by omega) ?_ | refine Ac (m := 1) hG Y Y Y Y Y (by omega) ?_ | refine Ac (m := 2) hG Y Y Y Y Y (by omega) ?_ | refine Ac (m := 3) hG Y Y Y Y Y (by omega) ?_ | refine Ac (n := 2) hG Y Y Y Y Y (by omega) ?_ | refine Ab hG Y Y Y Y Y (by omega) ?_)
      | (show AOp _ _ ⟨_, .binOp _ _ _ _ _, _, _, _, _⟩ _ _ _; first | refine At hG Y Y Y Y Y (by omega) ?_ | refine Au hG Y Y Y Y Y (by omega) ?_ | ((fail_if_success have := kk); refine Am hG Y Y Y Y Y (fun h => ?_) (fun h => ?_)))
      | (show AOp _ _ ⟨_, .load _ _, _, _, _, _⟩ _ _ _; first | refine Ak (α := Nat) 0 hG Y Y Y Y (by omega) Y ?_ | refine Ay hG Y Y Y ?_ | refine Bg 0 hG Y Y Y Y ?_)
      | (show AOp _ _ ⟨_, .indexAddr _ _ _, _, _, _, _⟩ _ _ _; first | refine A1 hG Y Y Y Y Y Y Y (by omega) ?_ | refine A0 hG Y Y Y Y Y Y Y (by omega) ?_ | refine Az hG Y Y Y Y Y Y Y (by omega) ?_ | refine A9 hG Y Y ?_)
      | refine A6 hG Y Y Y ?_
      | refine Bs hG Y Y Y ?_
      | (show AOp _ _ ⟨_, .store _ _ _, _, _, _, _⟩ _ _ _; first | refine Bc (α := Nat) 0 hG Y Y Y Ah Bb Y Y (by first | omega | (simp only [Array.size_setIfInBounds]; omega)) ?_ | refine Bv 0 hG Y Y Y Y Y Y Y ?_)
      | refine r_q hG Y Y Y ?_); try exact kk)
    | (show AL _ _ _ _ _ _ _ _; first | refine Bk Y Y Y ?_ | (refine Ar ?_; first | show AW _ _ _ _ _ _ | show ∃ x', _ < _ ∧ _)) | (show AW _ _ (.seq _ _) _ _ _; refine Ai ?_; intro Q1) | (show AW _ _ (.region _ _ false) _ _ _; refine Ad ?_; intro O1) | (show AW _ _ (.cond _ _ _) _ _ _; first | refine Ao Y ?_ | refine Ap Y ?_ | refine Ba Y (fun h => ?_) (fun h => ?_)) | (show AW _ _ (.skip) _ _ _; refine Aj ?_; first | show AW _ _ _ _ _ _ | show ∃ x', _ < _ ∧ _) | (show AW _ _ (.block _ _) _ _ _; refine Ae ?_; intro Q1) | (show AW _ _ (.exit _) _ _ _; refine Al ?_; first | show AW _ _ _ _ _ _ | show ∃ x', _ < _ ∧ _) | (show AW _ _ (.ret) _ _ _; refine Aw ?_; try dsimp only [Ax, Aa, A2, Af])
    | (show DL _ _ _ _ _ _ _; refine Bx Y Y (fun K kt kf => Am hG Y Y Y Y Y kt kf) (fun h => ?_) (fun h => ?_))
    | (show DL _ _ _ _ _ _ _; refine By Y Y Y ?_) | (show DL _ _ _ _ _ _ _; refine Be ?_; first | show AW _ _ _ _ _ _ | show ∃ x', _ < _ ∧ _) | (show AW _ _ (.region _ _ true) _ _ _; refine A3 mix (by kernel_rfl) ?_; intro O1) | fail)
      exact ⟨⟨2 * r + 1, swp d (first + r) (first + (2 * r + 1)), by rw [size_swp]; exact hdn, by omega, hr⟩, by dsimp only; omega, (by repeat (first | exact .nil _ | refine .cons rfl ?_)), .refl _⟩
    · rw [if_neg (by simp; omega), if_pos h] at hr
      dsimp (config := { zetaDelta := true }) only [Ax, Aa]
      rw [← hr]
      refine ret_row 0 Bl ?_ (.refl _) ?_ <;> rfl
    · rw [if_neg (by simp; omega), if_neg (by rw [h]; simp)] at hr
      refine Co (m := 22) [21] [13, 19] (fun σ => ∃ c : Array Nat, c.size = n ∧ σ = ⟨[(i, .cells (rowT mT c))], [], off, none⟩) mix Y Y (by repeat (first | exact Sp.zero _ | apply Sp.succ)) ?_; intro O1 F1 Z1 Q2; repeat' (first
    | (refine' dq0_cons Y Y Y Y (fun σ hσ K kk => ?_) ?_; (try (show Go.Ts.T; rotate_left)); (obtain ⟨c, hcn, hcs⟩ := hσ; subst hcs); (first
      | refine Aq hG Y Y ?_
      | refine A5 hG Y Y ?_
      | (show AOp _ _ ⟨_, .binOp .add _ _ _ _, _, _, _, _⟩ _ _ _; first | refine Ac hG Y Y Y Y Y (by omega) ?_ | refine Ac (m := 1) hG Y Y Y Y Y (by omega) ?_ | refine Ab hG Y Y Y Y Y (by omega) ?_)
      | (show AOp _ _ ⟨_, .binOp .mul _ _ _ _, _, _, _, _⟩ _ _ _; first | refine Ac hG Y Y Y Y Y (by omega) ?_ | refine Ac (m := 1) hG Y Y Y Y Y (by omega) ?_ | refine Ac (m := 2) hG Y Y Y Y Y (by omega) ?_ | refine Ac (m := 3) hG Y Y Y Y Y (by omega) ?_ | refine Ac (n := 2) hG Y Y Y Y Y (by omega) ?_ | refine Ab hG Y Y Y Y Y (by omega) ?_)
      | (show AOp _ _ ⟨_, .binOp _ _ _ _ _, _, _, _, _⟩ _ _ _; first | refine At hG Y Y Y Y Y (by omega) ?_ | refine Au hG Y Y Y Y Y (by omega) ?_)
      | (show AOp _ _ ⟨_, .load _ _, _, _, _, _⟩ _ _ _; first | refine Ak (α := Nat) 0 hG Y Y Y Y (by omega) Y ?_ | refine Ak (α := Nat) 1 hG Y Y Y Y (by omega) Y ?_ | refine Ay hG Y Y Y ?_ | refine Bg 0 hG Y Y Y Y ?_)
      | (show AOp _ _ ⟨_, .indexAddr _ _ _, _, _, _, _⟩ _ _ _; first | refine A1 hG Y Y Y Y Y Y Y (by omega) ?_ | refine A0 hG Y Y Y Y Y Y Y (by omega) ?_ | refine Az hG Y Y Y Y Y Y Y (by omega) ?_ | refine A9 hG Y Y ?_)
      | refine A6 hG Y Y Y ?_
      | refine Bs hG Y Y Y ?_
      | (show AOp _ _ ⟨_, .store _ _ _, _, _, _, _⟩ _ _ _; first | refine Bc (α := Nat) 0 hG Y Y Y Ah Bb Y Y (by first | omega | (simp only [Array.size_setIfInBounds]; omega)) ?_ | refine Bc (α := Nat) 1 hG Y Y Y Ah Bb Y Y (by first | omega | (simp only [Array.size_setIfInBounds]; omega)) ?_ | refine Bv 0 hG Y Y Y Y Y Y Y ?_)
      | refine r_q hG Y Y Y ?_); exact kk)
    | (refine' Cn Y Y Y Y (fun K kk => ?_) ?_; (try (show Go.Ts.T; rotate_left)); (first | refine Ak 0 hG Y Y Y Y (by omega) Y ?_ | refine Ak 1 hG Y Y Y Y (by omega) Y ?_); exact kk)
    | refine dq0_e Y ?_ | (refine dq0_nil ?_; show EL _ _ _ _ _ _ _ _ _)
    | (refine Cf ⟨_, (by first | assumption | (simp only [Array.size_setIfInBounds]; omega)), Y⟩ Y Y Y (fun K ke => ?_); (first | refine Bc (α := Nat) 0 hG Y Y Y Ah Bb Y Y (by first | omega | (simp only [Array.size_setIfInBounds]; omega)) ?_ | refine Bc (α := Nat) 1 hG Y Y Y Ah Bb Y Y (by first | omega | (simp only [Array.size_setIfInBounds]; omega)) ?_); refine ke (.tup []) _ ?_)
    | (refine el_nil ⟨_, (by first | assumption | (simp only [Array.size_setIfInBounds]; omega)), Y⟩ ?_; show AL _ _ _ _ _ _ _ _) | fail)
      repeat' (first
    | ((first | (show AL _ _ _ _ _ _ _ _; refine Ag Y ?_) | (show DL _ _ _ _ _ _ _; refine' A8 Y Y (fun K kk => ?_) ?_; try (show Go.Ts.T; rotate_left))); (first
      | refine Aq hG Y Y ?_
      | refine A5 hG Y Y ?_
      | (show AOp _ _ ⟨_, .binOp .add _ _ _ _, _, _, _, _⟩ _ _ _; first | refine Ac hG Y Y Y Y Y (by omega) ?_ | refine Ac (m := 1) hG Y Y Y Y Y (by omega) ?_ | refine Ab hG Y Y Y Y Y (by omega) ?_)
      | (show AOp _ _ ⟨_, .binOp .mul _ _ _ _, _, _, _, _⟩ _ _ _; first | refine Ac hG Y Y Y Y Y (by omega) ?_ | refine Ac (m := 1) hG Y Y Y Y Y (by omega) ?_ | refine Ac (m := 2) hG Y Y Y Y Y (by omega) ?_ | refine Ac (m := 3) hG Y Y Y Y Y (by omega) ?_ | refine Ac (n := 2) hG Y Y Y Y Y (by omega) ?_ | refine Ab hG Y Y Y Y Y (by omega) ?_)
      | (show AOp _ _ ⟨_, .binOp _ _ _ _ _, _, _, _, _⟩ _ _ _; first | refine At hG Y Y Y Y Y (by omega) ?_ | refine Au hG Y Y Y Y Y (by omega) ?_ | ((fail_if_success have := kk); refine Am hG Y Y Y Y Y (fun h => ?_) (fun h => ?_)))
      | (show AOp _ _ ⟨_, .load _ _, _, _, _, _⟩ _ _ _; first | refine Ak (α := Nat) 0 hG Y Y Y Y (by omega) Y ?_ | refine Ay hG Y Y Y ?_ | refine Bg 0 hG Y Y Y Y ?_)
      | (show AOp _ _ ⟨_, .indexAddr _ _ _, _, _, _, _⟩ _ _ _; first | refine A1 hG Y Y Y Y Y Y Y (by omega) ?_ | refine A0 hG Y Y Y Y Y Y Y (by omega) ?_ | refine Az hG Y Y Y Y Y Y Y (by omega) ?_ | refine A9 hG Y Y ?_)
      | refine A6 hG Y Y Y ?_
      | refine Bs hG Y Y Y ?_
      | (show AOp _ _ ⟨_, .store _ _ _, _, _, _, _⟩ _ _ _; first | refine Bc (α := Nat) 0 hG Y Y Y Ah Bb Y Y (by first | omega | (simp only [Array.size_setIfInBounds]; omega)) ?_ | refine Bv 0 hG Y Y Y Y Y Y Y ?_)
      | refine r_q hG Y Y Y ?_); try exact kk)
    | (show AL _ _ _ _ _ _ _ _; first | refine Bk Y Y Y ?_ | (refine Ar ?_; first | show AW _ _ _ _ _ _ | show ∃ x', _ < _ ∧ _)) | (show AW _ _ (.seq _ _) _ _ _; refine Ai ?_; intro Q1) | (show AW _ _ (.region _ _ false) _ _ _; refine Ad ?_; intro O1) | (show AW _ _ (.cond _ _ _) _ _ _; first | refine Ao Y ?_ | refine Ap Y ?_ | refine Ba Y (fun h => ?_) (fun h => ?_)) | (show AW _ _ (.skip) _ _ _; refine Aj ?_; first | show AW _ _ _ _ _ _ | show ∃ x', _ < _ ∧ _) | (show AW _ _ (.block _ _) _ _ _; refine Ae ?_; intro Q1) | (show AW _ _ (.exit _) _ _ _; refine Al ?_; first | show AW _ _ _ _ _ _ | show ∃ x', _ < _ ∧ _) | (show AW _ _ (.ret) _ _ _; refine Aw ?_; try dsimp only [Ax, Aa, A2, Af])
    | (show DL _ _ _ _ _ _ _; refine Bx Y Y (fun K kt kf => Am hG Y Y Y Y Y kt kf) (fun h => ?_) (fun h => ?_))
    | (show DL _ _ _ _ _ _ _; refine By Y Y Y ?_) | (show DL _ _ _ _ _ _ _; refine Be ?_; first | show AW _ _ _ _ _ _ | show ∃ x', _ < _ ∧ _) | (show AW _ _ (.region _ _ true) _ _ _; refine A3 mix (by kernel_rfl) ?_; intro O1) | fail)
      exact ⟨⟨2 * r + 1, swp d (first + r) (first + (2 * r + 1)), by rw [size_swp]; exact hdn, by omega, hr⟩, by dsimp only; omega, (by repeat (first | exact .nil _ | refine .cons rfl ?_)), .refl _⟩
open Go.Sort in
structure ReX (a b n : Nat) (d0 : Array Nat) where
  i : Nat
  j : Nat
  d : Array Nat
  hn : d.size = n
  hj : j < n
  hr : reverseLoop i j d = reverseRange d0 a b
open Go.Sort in
theorem srt_rev {d0 : Array Nat} {a b : Nat} (hab : a < b) (hb : b ≤ d0.size) (hs : d0.size ≤ 4294967296) : OnRow Try.prog 37 mT [.int .i64 (a : Int), .int .i64 (b : Int)] d0 (.tup []) (reverseRange d0 a b) := by
  intro off i n cap hn
  refine Br (N := 32) (rs := []) hG Try.func37 rfl rfl rfl rfl rfl ?_
  repeat' (first
    | ((first | (show AL _ _ _ _ _ _ _ _; refine Ag Y ?_) | (show DL _ _ _ _ _ _ _; refine' A8 Y Y (fun K kk => ?_) ?_; try (show Go.Ts.T; rotate_left))); (first
      | refine Aq hG Y Y ?_
      | refine A5 hG Y Y ?_
      | (show AOp _ _ ⟨_, .binOp .add _ _ _ _, _, _, _, _⟩ _ _ _; first | refine Ac hG Y Y Y Y Y (by omega) ?_ | refine Ac (m := 1) hG Y Y Y Y Y (by omega) ?_ | refine Ab hG Y Y Y Y Y (by omega) ?_)
      | (show AOp _ _ ⟨_, .binOp .sub _ _ _ _, _, _, _, _⟩ _ _ _; first | refine Av hG Y Y Y Y (by omega) ?_ | refine Av (m := 1) hG Y Y Y Y (by omega) ?_ | refine Ab hG Y Y Y Y Y (by omega) ?_)
      | (show AOp _ _ ⟨_, .binOp _ _ _ _ _, _, _, _, _⟩ _ _ _; first | refine At hG Y Y Y Y Y (by omega) ?_ | refine Au hG Y Y Y Y Y (by omega) ?_ | ((fail_if_success have := kk); refine Am hG Y Y Y Y Y (fun h => ?_) (fun h => ?_)))
      | (show AOp _ _ ⟨_, .load _ _, _, _, _, _⟩ _ _ _; first | refine Ak (α := Nat) 0 hG Y Y Y Y (by omega) Y ?_ | refine Ay hG Y Y Y ?_ | refine Bg 0 hG Y Y Y Y ?_)
      | (show AOp _ _ ⟨_, .indexAddr _ _ _, _, _, _, _⟩ _ _ _; first | refine A1 hG Y Y Y Y Y Y Y (by omega) ?_ | refine A0 hG Y Y Y Y Y Y Y (by omega) ?_ | refine Az hG Y Y Y Y Y Y Y (by omega) ?_ | refine A9 hG Y Y ?_)
      | (show AOp _ _ ⟨_, .store _ _ _, _, _, _, _⟩ _ _ _; first | refine Bc (α := Nat) 0 hG Y Y Y Ah Bb Y Y (by first | omega | (simp only [Array.size_setIfInBounds]; omega)) ?_ | refine Bv 0 hG Y Y Y Y Y Y Y ?_)
      | refine r_q hG Y Y Y ?_); try exact kk)
    | (show AL _ _ _ _ _ _ _ _; first | refine Bk Y Y Y ?_ | (refine Ar ?_; first | show AW _ _ _ _ _ _ | show ∃ x', _ < _ ∧ _)) | (show AW _ _ (.seq _ _) _ _ _; refine Ai ?_; intro Q1) | (show AW _ _ (.region _ _ false) _ _ _; refine Ad ?_; intro O1) | (show AW _ _ (.cond _ _ _) _ _ _; first | refine Ao Y ?_ | refine Ap Y ?_ | refine Ba Y (fun h => ?_) (fun h => ?_)) | (show AW _ _ (.skip) _ _ _; refine Aj ?_; first | show AW _ _ _ _ _ _ | show ∃ x', _ < _ ∧ _) | (show AW _ _ (.block _ _) _ _ _; refine Ae ?_; intro Q1) | (show AW _ _ (.exit _) _ _ _; refine Al ?_; first | show AW _ _ _ _ _ _ | show ∃ x', _ < _ ∧ _) | (show AW _ _ (.ret) _ _ _; refine Aw ?_; try dsimp only [Ax, Aa, A2, Af])
    | (show DL _ _ _ _ _ _ _; refine Bx Y Y (fun K kt kf => Am hG Y Y Y Y Y kt kf) (fun h => ?_) (fun h => ?_))
    | (show DL _ _ _ _ _ _ _; refine By Y Y Y ?_) | (show DL _ _ _ _ _ _ _; refine Be ?_; first | show AW _ _ _ _ _ _ | show ∃ x', _ < _ ∧ _) | (show AW _ _ (.region _ _ true) _ _ _; refine A3 mix (by kernel_rfl) ?_; intro O1) | fail)
  refine Ch (X := ReX a b n d0) (fun x => [(0, .aref 1 i 0 n cap), (6, .int .i64 (x.i : Int)), (7, .int .i64 (x.j : Int))]) (fun x => ⟨[(i, .cells (rowT mT x.d))], [], off, none⟩) (fun x => x.j - x.i) ⟨a, b - 1, d0, hn, by omega, rfl⟩ (by repeat (first | exact .nil _ | refine .cons rfl ?_)) (.refl _) ?_
  rintro ⟨p, q, d, hdn, hj, hr⟩
  dsimp only at hr ⊢
  by_cases h1 : p < q
  · rw [reverseLoop, if_pos h1] at hr
    repeat' (first
    | ((first | (show AL _ _ _ _ _ _ _ _; refine Ag Y ?_) | (show DL _ _ _ _ _ _ _; refine' A8 Y Y (fun K kk => ?_) ?_; try (show Go.Ts.T; rotate_left))); (first
      | refine Aq hG Y Y ?_
      | refine A5 hG Y Y ?_
      | (show AOp _ _ ⟨_, .binOp .add _ _ _ _, _, _, _, _⟩ _ _ _; first | refine Ac hG Y Y Y Y Y (by omega) ?_ | refine Ac (m := 1) hG Y Y Y Y Y (by omega) ?_ | refine Ab hG Y Y Y Y Y (by omega) ?_)
      | (show AOp _ _ ⟨_, .binOp .sub _ _ _ _, _, _, _, _⟩ _ _ _; first | refine Av hG Y Y Y Y (by omega) ?_ | refine Av (m := 1) hG Y Y Y Y (by omega) ?_ | refine Ab hG Y Y Y Y Y (by omega) ?_)
      | (show AOp _ _ ⟨_, .binOp _ _ _ _ _, _, _, _, _⟩ _ _ _; first | refine At hG Y Y Y Y Y (by omega) ?_ | refine Au hG Y Y Y Y Y (by omega) ?_ | ((fail_if_success have := kk); refine Am hG Y Y Y Y Y (fun h => ?_) (fun h => ?_)))
      | (show AOp _ _ ⟨_, .load _ _, _, _, _, _⟩ _ _ _; first | refine Ak (α := Nat) 0 hG Y Y Y Y (by omega) Y ?_ | refine Ay hG Y Y Y ?_ | refine Bg 0 hG Y Y Y Y ?_)
      | (show AOp _ _ ⟨_, .indexAddr _ _ _, _, _, _, _⟩ _ _ _; first | refine A1 hG Y Y Y Y Y Y Y (by omega) ?_ | refine A0 hG Y Y Y Y Y Y Y (by omega) ?_ | refine Az hG Y Y Y Y Y Y Y (by omega) ?_ | refine A9 hG Y Y ?_)
      | (show AOp _ _ ⟨_, .store _ _ _, _, _, _, _⟩ _ _ _; first | refine Bc (α := Nat) 0 hG Y Y Y Ah Bb Y Y (by first | omega | (simp only [Array.size_setIfInBounds]; omega)) ?_ | refine Bv 0 hG Y Y Y Y Y Y Y ?_)
      | refine r_q hG Y Y Y ?_); try exact kk)
    | (show AL _ _ _ _ _ _ _ _; first | refine Bk Y Y Y ?_ | (refine Ar ?_; first | show AW _ _ _ _ _ _ | show ∃ x', _ < _ ∧ _)) | (show AW _ _ (.seq _ _) _ _ _; refine Ai ?_; intro Q1) | (show AW _ _ (.region _ _ false) _ _ _; (fail_if_success show AW _ _ (.region 3 _ _) _ _ _); refine Ad ?_; intro O1) | (show AW _ _ (.cond _ _ _) _ _ _; first | refine Ao Y ?_ | refine Ap Y ?_ | refine Ba Y (fun h => ?_) (fun h => ?_)) | (show AW _ _ (.skip) _ _ _; refine Aj ?_; first | show AW _ _ _ _ _ _ | show ∃ x', _ < _ ∧ _) | (show AW _ _ (.block _ _) _ _ _; refine Ae ?_; intro Q1) | (show AW _ _ (.exit _) _ _ _; refine Al ?_; first | show AW _ _ _ _ _ _ | show ∃ x', _ < _ ∧ _) | (show AW _ _ (.ret) _ _ _; refine Aw ?_; try dsimp only [Ax, Aa, A2, Af])
    | (show DL _ _ _ _ _ _ _; refine Bx Y Y (fun K kt kf => Am hG Y Y Y Y Y kt kf) (fun h => ?_) (fun h => ?_))
    | (show DL _ _ _ _ _ _ _; refine By Y Y Y ?_) | (show DL _ _ _ _ _ _ _; refine Be ?_; first | show AW _ _ _ _ _ _ | show ∃ x', _ < _ ∧ _) | (show AW _ _ (.region _ _ true) _ _ _; (fail_if_success show AW _ _ (.region 3 _ _) _ _ _); refine A3 mix (by kernel_rfl) ?_; intro O1) | fail)
    refine Co (m := 14) [13] [7, 11] (fun σ => ∃ c : Array Nat, c.size = n ∧ σ = ⟨[(i, .cells (rowT mT c))], [], off, none⟩) mix Y Y (by repeat (first | exact Sp.zero _ | apply Sp.succ)) ?_; intro O1 F1 Z1 Q2; repeat' (first
    | (refine' dq0_cons Y Y Y Y (fun σ hσ K kk => ?_) ?_; (try (show Go.Ts.T; rotate_left)); (obtain ⟨c, hcn, hcs⟩ := hσ; subst hcs); (first
      | refine Aq hG Y Y ?_
      | refine A5 hG Y Y ?_
      | (show AOp _ _ ⟨_, .binOp .add _ _ _ _, _, _, _, _⟩ _ _ _; first | refine Ac hG Y Y Y Y Y (by omega) ?_ | refine Ac (m := 1) hG Y Y Y Y Y (by omega) ?_ | refine Ab hG Y Y Y Y Y (by omega) ?_)
      | (show AOp _ _ ⟨_, .binOp .sub _ _ _ _, _, _, _, _⟩ _ _ _; first | refine Av hG Y Y Y Y (by omega) ?_ | refine Av (m := 1) hG Y Y Y Y (by omega) ?_ | refine Cg (m := 1) hG Y Y Y Y (by omega) ?_ | refine Ab hG Y Y Y Y Y (by omega) ?_)
      | (show AOp _ _ ⟨_, .binOp _ _ _ _ _, _, _, _, _⟩ _ _ _; first | refine At hG Y Y Y Y Y (by omega) ?_ | refine Au hG Y Y Y Y Y (by omega) ?_)
      | (show AOp _ _ ⟨_, .load _ _, _, _, _, _⟩ _ _ _; first | refine Ak (α := Nat) 0 hG Y Y Y Y (by omega) Y ?_ | refine Ak (α := Nat) 1 hG Y Y Y Y (by omega) Y ?_ | refine Ay hG Y Y Y ?_ | refine Bg 0 hG Y Y Y Y ?_)
      | (show AOp _ _ ⟨_, .indexAddr _ _ _, _, _, _, _⟩ _ _ _; first | refine A1 hG Y Y Y Y Y Y Y (by omega) ?_ | refine A0 hG Y Y Y Y Y Y Y (by omega) ?_ | refine Az hG Y Y Y Y Y Y Y (by omega) ?_ | refine A9 hG Y Y ?_)
      | (show AOp _ _ ⟨_, .store _ _ _, _, _, _, _⟩ _ _ _; first | refine Bc (α := Nat) 0 hG Y Y Y Ah Bb Y Y (by first | omega | (simp only [Array.size_setIfInBounds]; omega)) ?_ | refine Bc (α := Nat) 1 hG Y Y Y Ah Bb Y Y (by first | omega | (simp only [Array.size_setIfInBounds]; omega)) ?_ | refine Bv 0 hG Y Y Y Y Y Y Y ?_)
      | refine r_q hG Y Y Y ?_); exact kk)
    | (refine' Cn Y Y Y Y (fun K kk => ?_) ?_; (try (show Go.Ts.T; rotate_left)); (first | refine Ak 0 hG Y Y Y Y (by omega) Y ?_ | refine Ak 1 hG Y Y Y Y (by omega) Y ?_); exact kk)
    | refine dq0_e Y ?_ | (refine dq0_nil ?_; show EL _ _ _ _ _ _ _ _ _)
    | (refine Cf ⟨_, (by first | assumption | (simp only [Array.size_setIfInBounds]; omega)), Y⟩ Y Y Y (fun K ke => ?_); (first | refine Bc (α := Nat) 0 hG Y Y Y Ah Bb Y Y (by first | omega | (simp only [Array.size_setIfInBounds]; omega)) ?_ | refine Bc (α := Nat) 1 hG Y Y Y Ah Bb Y Y (by first | omega | (simp only [Array.size_setIfInBounds]; omega)) ?_); refine ke (.tup []) _ ?_)
    | (refine el_nil ⟨_, (by first | assumption | (simp only [Array.size_setIfInBounds]; omega)), Y⟩ ?_; show AL _ _ _ _ _ _ _ _) | fail)
    repeat' (first
    | ((first | (show AL _ _ _ _ _ _ _ _; refine Ag Y ?_) | (show DL _ _ _ _ _ _ _; refine' A8 Y Y (fun K kk => ?_) ?_; try (show Go.Ts.T; rotate_left))); (first
      | refine Aq hG Y Y ?_
      | refine A5 hG Y Y ?_
      | (show AOp _ _ ⟨_, .binOp .add _ _ _ _, _, _, _, _⟩ _ _ _; first | refine Ac hG Y Y Y Y Y (by omega) ?_ | refine Ac (m := 1) hG Y Y Y Y Y (by omega) ?_ | refine Ab hG Y Y Y Y Y (by omega) ?_)
      | (show AOp _ _ ⟨_, .binOp .sub _ _ _ _, _, _, _, _⟩ _ _ _; first | refine Av hG Y Y Y Y (by omega) ?_ | refine Av (m := 1) hG Y Y Y Y (by omega) ?_ | refine Ab hG Y Y Y Y Y (by omega) ?_)
      | (show AOp _ _ ⟨_, .binOp _ _ _ _ _, _, _, _, _⟩ _ _ _; first | refine At hG Y Y Y Y Y (by omega) ?_ | refine Au hG Y Y Y Y Y (by omega) ?_ | ((fail_if_success have := kk); refine Am hG Y Y Y Y Y (fun h => ?_) (fun h => ?_)))
      | (show AOp _ _ ⟨_, .load _ _, _, _, _, _⟩ _ _ _; first | refine Ak (α := Nat) 0 hG Y Y Y Y (by omega) Y ?_ | refine Ay hG Y Y Y ?_ | refine Bg 0 hG Y Y Y Y ?_)
      | (show AOp _ _ ⟨_, .indexAddr _ _ _, _, _, _, _⟩ _ _ _; first | refine A1 hG Y Y Y Y Y Y Y (by omega) ?_ | refine A0 hG Y Y Y Y Y Y Y (by omega) ?_ | refine Az hG Y Y Y Y Y Y Y (by omega) ?_ | refine A9 hG Y Y ?_)
      | (show AOp _ _ ⟨_, .store _ _ _, _, _, _, _⟩ _ _ _; first | refine Bc (α := Nat) 0 hG Y Y Y Ah Bb Y Y (by first | omega | (simp only [Array.size_setIfInBounds]; omega)) ?_ | refine Bv 0 hG Y Y Y Y Y Y Y ?_)
      | refine r_q hG Y Y Y ?_); try exact kk)
    | (show AL _ _ _ _ _ _ _ _; first | refine Bk Y Y Y ?_ | (refine Ar ?_; first | show AW _ _ _ _ _ _ | show ∃ x', _ < _ ∧ _)) | (show AW _ _ (.seq _ _) _ _ _; refine Ai ?_; intro Q1) | (show AW _ _ (.region _ _ false) _ _ _; refine Ad ?_; intro O1) | (show AW _ _ (.cond _ _ _) _ _ _; first | refine Ao Y ?_ | refine Ap Y ?_ | refine Ba Y (fun h => ?_) (fun h => ?_)) | (show AW _ _ (.skip) _ _ _; refine Aj ?_; first | show AW _ _ _ _ _ _ | show ∃ x', _ < _ ∧ _) | (show AW _ _ (.block _ _) _ _ _; refine Ae ?_; intro Q1) | (show AW _ _ (.exit _) _ _ _; refine Al ?_; first | show AW _ _ _ _ _ _ | show ∃ x', _ < _ ∧ _) | (show AW _ _ (.ret) _ _ _; refine Aw ?_; try dsimp only [Ax, Aa, A2, Af])
    | (show DL _ _ _ _ _ _ _; refine Bx Y Y (fun K kt kf => Am hG Y Y Y Y Y kt kf) (fun h => ?_) (fun h => ?_))
    | (show DL _ _ _ _ _ _ _; refine By Y Y Y ?_) | (show DL _ _ _ _ _ _ _; refine Be ?_; first | show AW _ _ _ _ _ _ | show ∃ x', _ < _ ∧ _) | (show AW _ _ (.region _ _ true) _ _ _; refine A3 mix (by kernel_rfl) ?_; intro O1) | fail)
    exact ⟨⟨p + 1, q - 1, swp d p q, by rw [size_swp]; exact hdn, by omega, hr⟩, by dsimp only; omega, (by repeat (first | exact .nil _ | refine .cons rfl ?_)), .refl _⟩
  · have hd : reverseRange d0 a b = d := by rw [← hr, reverseLoop, if_neg h1]
    repeat' (first
    | ((first | (show AL _ _ _ _ _ _ _ _; refine Ag Y ?_) | (show DL _ _ _ _ _ _ _; refine' A8 Y Y (fun K kk => ?_) ?_; try (show Go.Ts.T; rotate_left))); (first
      | refine Aq hG Y Y ?_
      | refine A5 hG Y Y ?_
      | (show AOp _ _ ⟨_, .binOp .add _ _ _ _, _, _, _, _⟩ _ _ _; first | refine Ac hG Y Y Y Y Y (by omega) ?_ | refine Ac (m := 1) hG Y Y Y Y Y (by omega) ?_ | refine Ab hG Y Y Y Y Y (by omega) ?_)
      | (show AOp _ _ ⟨_, .binOp .sub _ _ _ _, _, _, _, _⟩ _ _ _; first | refine Av hG Y Y Y Y (by omega) ?_ | refine Av (m := 1) hG Y Y Y Y (by omega) ?_ | refine Ab hG Y Y Y Y Y (by omega) ?_)
      | (show AOp _ _ ⟨_, .binOp _ _ _ _ _, _, _, _, _⟩ _ _ _; first | refine At hG Y Y Y Y Y (by omega) ?_ | refine Au hG Y Y Y Y Y (by omega) ?_ | ((fail_if_success have := kk); refine Am hG Y Y Y Y Y (fun h => ?_) (fun h => ?_)))
      | (show AOp _ _ ⟨_, .load _ _, _, _, _, _⟩ _ _ _; first | refine Ak (α := Nat) 0 hG Y Y Y Y (by omega) Y ?_ | refine Ay hG Y Y Y ?_ | refine Bg 0 hG Y Y Y Y ?_)
      | (show AOp _ _ ⟨_, .indexAddr _ _ _, _, _, _, _⟩ _ _ _; first | refine A1 hG Y Y Y Y Y Y Y (by omega) ?_ | refine A0 hG Y Y Y Y Y Y Y (by omega) ?_ | refine Az hG Y Y Y Y Y Y Y (by omega) ?_ | refine A9 hG Y Y ?_)
      | (show AOp _ _ ⟨_, .store _ _ _, _, _, _, _⟩ _ _ _; first | refine Bc (α := Nat) 0 hG Y Y Y Ah Bb Y Y (by first | omega | (simp only [Array.size_setIfInBounds]; omega)) ?_ | refine Bv 0 hG Y Y Y Y Y Y Y ?_)
      | refine r_q hG Y Y Y ?_); try exact kk)
    | (show AL _ _ _ _ _ _ _ _; first | refine Bk Y Y Y ?_ | (refine Ar ?_; first | show AW _ _ _ _ _ _ | show ∃ x', _ < _ ∧ _)) | (show AW _ _ (.seq _ _) _ _ _; refine Ai ?_; intro Q1) | (show AW _ _ (.region _ _ false) _ _ _; refine Ad ?_; intro O1) | (show AW _ _ (.cond _ _ _) _ _ _; first | refine Ao Y ?_ | refine Ap Y ?_ | refine Ba Y (fun h => ?_) (fun h => ?_)) | (show AW _ _ (.skip) _ _ _; refine Aj ?_; first | show AW _ _ _ _ _ _ | show ∃ x', _ < _ ∧ _) | (show AW _ _ (.block _ _) _ _ _; refine Ae ?_; intro Q1) | (show AW _ _ (.exit _) _ _ _; refine Al ?_; first | show AW _ _ _ _ _ _ | show ∃ x', _ < _ ∧ _) | (show AW _ _ (.ret) _ _ _; refine Aw ?_; try dsimp only [Ax, Aa, A2, Af])
    | (show DL _ _ _ _ _ _ _; refine Bx Y Y (fun K kt kf => Am hG Y Y Y Y Y kt kf) (fun h => ?_) (fun h => ?_))
    | (show DL _ _ _ _ _ _ _; refine By Y Y Y ?_) | (show DL _ _ _ _ _ _ _; refine Be ?_; first | show AW _ _ _ _ _ _ | show ∃ x', _ < _ ∧ _) | (show AW _ _ (.region _ _ true) _ _ _; refine A3 mix (by kernel_rfl) ?_; intro O1) | fail)
    refine Al ?_
    dsimp (config := { zetaDelta := true }) only [Ax, Aa]
    rw [hd]
    refine ret_rowE 0 Bl ?_ (.refl _) ?_ <;> rfl
end Go.Proofs.Ytmckbfdklcmogaa
namespace Go.Proofs.Ytmckbfdklcmogaa
open Go.Ts
set_option linter.unusedSimpArgs false
set_option linter.unusedVariables false
attribute [local irreducible] Go.Ts.AW Go.Ts.AOps Go.Ts.AL Go.Ts.AOp Go.Ts.ACalls Go.Ts.DL Go.Ts.DQ0 Go.Ts.EL
open Go.Sort in
structure HbX (hi a n : Nat) (d0 : Array Nat) where
  k : Nat
  z : Int
  hz : z = (k : Int) - 1
  hk : k ≤ 4294967296
  d : Array Nat
  hn : d.size = n
  hr : heapBuild ltQ hi a k d = heapBuild ltQ hi a ((hi - 1) / 2 + 1) d0
open Go.Sort in
structure HpX (hi a n : Nat) (d0 : Array Nat) where
  k : Nat
  z : Int
  hz : z = (k : Int) - 1
  hk : k ≤ hi
  d : Array Nat
  hn : d.size = n
  hr : heapPop ltQ a k d = heapPop ltQ a hi d0
open Go.Sort in
theorem sift_size (lt : Nat → Nat → Bool) (hi first : Nat) : ∀ (m root : Nat) (d : Array Nat), hi - root ≤ m → (siftDown lt hi first root d).size = d.size := by
  intro m
  induction m with
  | zero => intro root d h; rw [siftDown, dif_pos (by omega)]
  | succ m ih =>
    intro root d h
    rw [siftDown]
    split
    · rfl
    · split
      · split
        · rfl
        · split
          · rw [ih _ _ (by omega), size_swp]
          · rfl
      · split
        · rfl
        · rw [ih _ _ (by omega), size_swp]
open Go.Sort in
theorem srt_heap {d0 : Array Nat} {a b : Nat} (hab : a < b) (hb : b ≤ d0.size) (hs : d0.size ≤ 4294967296) : OnRow Try.prog 34 mT [.int .i64 (a : Int), .int .i64 (b : Int)] d0 (.tup []) (heapSort ltQ d0 a b) := by
  intro off i n cap hn
  refine Br (N := 56) (rs := []) hG Try.func34 rfl rfl rfl rfl rfl ?_
  have hh : heapSort ltQ d0 a b = heapPop ltQ a (b - a) (heapBuild ltQ (b - a) a ((b - a - 1) / 2 + 1) d0) := rfl
  rw [hh]
  obtain ⟨hi, hhi⟩ : ∃ hi, hi = b - a := ⟨_, rfl⟩
  rw [← hhi]
  repeat' (first
    | ((first | (show AL _ _ _ _ _ _ _ _; refine Ag Y ?_) | (show DL _ _ _ _ _ _ _; refine' A8 Y Y (fun K kk => ?_) ?_; try (show Go.Ts.T; rotate_left))); (first
      | refine Aq hG Y Y ?_
      | refine A5 hG Y Y ?_
      | (show AOp _ _ ⟨_, .binOp .add _ _ _ _, _, _, _, _⟩ _ _ _; first | refine Ac hG Y Y Y Y Y (by omega) ?_ | refine Ac (m := 1) hG Y Y Y Y Y (by omega) ?_ | refine Ab hG Y Y Y Y Y (by omega) ?_)
      | (show AOp _ _ ⟨_, .binOp .sub _ _ _ _, _, _, _, _⟩ _ _ _; first | refine Av hG Y Y Y Y (by omega) ?_ | refine Av (m := 1) hG Y Y Y Y (by omega) ?_ | refine Ab hG Y Y Y Y Y (by omega) ?_)
      | (show AOp _ _ ⟨_, .binOp .quo _ _ _ _, _, _, _, _⟩ _ _ _; first | refine Bf (m := 2) hG Y Y Y Y (by omega) ?_ | refine Bf (m := 4) hG Y Y Y Y (by omega) ?_ | refine Bf (m := 8) hG Y Y Y Y (by omega) ?_)
      | (show AOp _ _ ⟨_, .binOp _ _ _ _ _, _, _, _, _⟩ _ _ _; first | refine At hG Y Y Y Y Y (by omega) ?_ | refine Au hG Y Y Y Y Y (by omega) ?_ | ((fail_if_success have := kk); refine Am hG Y Y Y Y Y (fun h => ?_) (fun h => ?_)) | refine Bw hG Y Y Y ?_)
      | (show AOp _ _ ⟨_, .load _ _, _, _, _, _⟩ _ _ _; first | refine Ak (α := Nat) 0 hG Y Y Y Y (by omega) Y ?_ | refine Ay hG Y Y Y ?_ | refine Bg 0 hG Y Y Y Y ?_)
      | (show AOp _ _ ⟨_, .indexAddr _ _ _, _, _, _, _⟩ _ _ _; first | refine A1 hG Y Y Y Y Y Y Y (by omega) ?_ | refine A0 hG Y Y Y Y Y Y Y (by omega) ?_ | refine Az hG Y Y Y Y Y Y Y (by omega) ?_ | refine A9 hG Y Y ?_)
      | (show AOp _ _ ⟨_, .store _ _ _, _, _, _, _⟩ _ _ _; first | refine Bc (α := Nat) 0 hG Y Y Y Ah Bb Y Y (by first | omega | (simp only [Array.size_setIfInBounds]; omega)) ?_ | refine Bv 0 hG Y Y Y Y Y Y Y ?_)
      | refine r_q hG Y Y Y ?_); try exact kk)
    | (show AL _ _ _ _ _ _ _ _; first | refine Bk Y Y Y ?_ | (refine Ar ?_; first | show AW _ _ _ _ _ _ | show ∃ x', _ < _ ∧ _)) | (show AW _ _ (.seq _ _) _ _ _; refine Ai ?_; intro Q1) | (show AW _ _ (.region _ _ false) _ _ _; refine Ad ?_; intro O1) | (show AW _ _ (.cond _ _ _) _ _ _; first | refine Ao Y ?_ | refine Ap Y ?_ | refine Ba Y (fun h => ?_) (fun h => ?_)) | (show AW _ _ (.skip) _ _ _; refine Aj ?_; first | show AW _ _ _ _ _ _ | show ∃ x', _ < _ ∧ _) | (show AW _ _ (.block _ _) _ _ _; refine Ae ?_; intro Q1) | (show AW _ _ (.exit _) _ _ _; refine Al ?_; first | show AW _ _ _ _ _ _ | show ∃ x', _ < _ ∧ _) | (show AW _ _ (.ret) _ _ _; refine Aw ?_; try dsimp only [Ax, Aa, A2, Af])
    | (show DL _ _ _ _ _ _ _; refine Bx Y Y (fun K kt kf => Am hG Y Y Y Y Y kt kf) (fun h => ?_) (fun h => ?_))
    | (show DL _ _ _ _ _ _ _; refine By Y Y Y ?_) | (show DL _ _ _ _ _ _ _; refine Be ?_; first | show AW _ _ _ _ _ _ | show ∃ x', _ < _ ∧ _) | (show AW _ _ (.region _ _ true) _ _ _; refine A3 mix (by kernel_rfl) ?_; intro O1) | fail)
  rw [← hhi]
  refine Ch (X := HbX hi a n d0) (fun x => [(0, .aref 1 i 0 n cap), (6, .int .i64 (a : Int)), (7, .int .i64 0), (8, .int .i64 (hi : Int)), (9, .int .i64 x.z)]) (fun x => ⟨[(i, .cells (rowT mT x.d))], [], off, none⟩) (fun x => x.k) ⟨(hi - 1) / 2 + 1, (((hi - 1) / 2 : Nat) : Int), by omega, by omega, d0, hn, rfl⟩ (by repeat (first | exact .nil _ | refine .cons rfl ?_)) (.refl _) ?_
  rintro ⟨k, z, hz, hk, d, hdn, hr⟩
  dsimp only at hr ⊢
  cases k with
  | succ m =>
    obtain rfl : z = (m : Int) := by omega
    rw [heapBuild] at hr
    have hc := srt_sift (d0 := d) (lo := m) (hi := hi) (first := a) (by omega) (by omega) (by omega)
    repeat' (first
    | ((first | (show AL _ _ _ _ _ _ _ _; refine Ag Y ?_) | (show DL _ _ _ _ _ _ _; refine' A8 Y Y (fun K kk => ?_) ?_; try (show Go.Ts.T; rotate_left))); (first
      | refine Aq hG Y Y ?_
      | refine A5 hG Y Y ?_
      | (show AOp _ _ ⟨_, .binOp .add _ _ _ _, _, _, _, _⟩ _ _ _; first | refine Ac hG Y Y Y Y Y (by omega) ?_ | refine Ac (m := 1) hG Y Y Y Y Y (by omega) ?_ | refine Ab hG Y Y Y Y Y (by omega) ?_)
      | (show AOp _ _ ⟨_, .binOp .sub _ _ _ _, _, _, _, _⟩ _ _ _; first | refine Av hG Y Y Y Y (by omega) ?_ | refine Av (m := 1) hG Y Y Y Y (by omega) ?_ | refine Ab hG Y Y Y Y Y (by omega) ?_)
      | (show AOp _ _ ⟨_, .binOp .quo _ _ _ _, _, _, _, _⟩ _ _ _; first | refine Bf (m := 2) hG Y Y Y Y (by omega) ?_ | refine Bf (m := 4) hG Y Y Y Y (by omega) ?_ | refine Bf (m := 8) hG Y Y Y Y (by omega) ?_)
      | (show AOp _ _ ⟨_, .binOp _ _ _ _ _, _, _, _, _⟩ _ _ _; first | refine At hG Y Y Y Y Y (by omega) ?_ | refine Au hG Y Y Y Y Y (by omega) ?_ | ((fail_if_success have := kk); refine Am hG Y Y Y Y Y (fun h => ?_) (fun h => ?_)) | refine Bw hG Y Y Y ?_)
      | (show AOp _ _ ⟨_, .load _ _, _, _, _, _⟩ _ _ _; first | refine Ak (α := Nat) 0 hG Y Y Y Y (by omega) Y ?_ | refine Ay hG Y Y Y ?_ | refine Bg 0 hG Y Y Y Y ?_)
      | (show AOp _ _ ⟨_, .indexAddr _ _ _, _, _, _, _⟩ _ _ _; first | refine A1 hG Y Y Y Y Y Y Y (by omega) ?_ | refine A0 hG Y Y Y Y Y Y Y (by omega) ?_ | refine Az hG Y Y Y Y Y Y Y (by omega) ?_ | refine A9 hG Y Y ?_)
      | (show AOp _ _ ⟨_, .store _ _ _, _, _, _, _⟩ _ _ _; first | refine Bc (α := Nat) 0 hG Y Y Y Ah Bb Y Y (by first | omega | (simp only [Array.size_setIfInBounds]; omega)) ?_ | refine Bv 0 hG Y Y Y Y Y Y Y ?_)
      | (show AOp _ _ ⟨_, .call ⟨.value _, _, _⟩, _, _, _, _⟩ _ _ _; first | refine r_row Y Y Y Y Y (List.Perm.refl _) hc (by assumption) ?_ | fail)
      | refine r_q hG Y Y Y ?_); try exact kk)
    | (show AL _ _ _ _ _ _ _ _; first | refine Bk Y Y Y ?_ | (refine Ar ?_; first | show AW _ _ _ _ _ _ | show ∃ x', _ < _ ∧ _)) | (show AW _ _ (.seq _ _) _ _ _; refine Ai ?_; intro Q1) | (show AW _ _ (.region _ _ false) _ _ _; refine Ad ?_; intro O1) | (show AW _ _ (.cond _ _ _) _ _ _; first | refine Ao Y ?_ | refine Ap Y ?_ | refine Ba Y (fun h => ?_) (fun h => ?_)) | (show AW _ _ (.skip) _ _ _; refine Aj ?_; first | show AW _ _ _ _ _ _ | show ∃ x', _ < _ ∧ _) | (show AW _ _ (.block _ _) _ _ _; refine Ae ?_; intro Q1) | (show AW _ _ (.exit _) _ _ _; refine Al ?_; first | show AW _ _ _ _ _ _ | show ∃ x', _ < _ ∧ _) | (show AW _ _ (.ret) _ _ _; refine Aw ?_; try dsimp only [Ax, Aa, A2, Af])
    | (show DL _ _ _ _ _ _ _; refine Bx Y Y (fun K kt kf => Am hG Y Y Y Y Y kt kf) (fun h => ?_) (fun h => ?_))
    | (show DL _ _ _ _ _ _ _; refine By Y Y Y ?_) | (show DL _ _ _ _ _ _ _; refine Be ?_; first | show AW _ _ _ _ _ _ | show ∃ x', _ < _ ∧ _) | (show AW _ _ (.region _ _ true) _ _ _; refine A3 mix (by kernel_rfl) ?_; intro O1) | fail)
    exact ⟨⟨m, (m : Int) - 1, by omega, by omega, siftDown ltQ hi a m d, by rw [sift_size _ _ _ _ _ _ (Nat.le_refl _)]; exact hdn, hr⟩, by dsimp only; omega, (by repeat (first | exact .nil _ | refine .cons rfl ?_)), .refl _⟩
  | zero =>
    rw [heapBuild] at hr
    obtain rfl : z = -1 := by omega
    repeat' (first
    | ((first | (show AL _ _ _ _ _ _ _ _; refine Ag Y ?_) | (show DL _ _ _ _ _ _ _; refine' A8 Y Y (fun K kk => ?_) ?_; try (show Go.Ts.T; rotate_left))); (first
      | refine Aq hG Y Y ?_
      | refine A5 hG Y Y ?_
      | (show AOp _ _ ⟨_, .binOp .add _ _ _ _, _, _, _, _⟩ _ _ _; first | refine Ac hG Y Y Y Y Y (by omega) ?_ | refine Ac (m := 1) hG Y Y Y Y Y (by omega) ?_ | refine Ab hG Y Y Y Y Y (by omega) ?_)
      | (show AOp _ _ ⟨_, .binOp .sub _ _ _ _, _, _, _, _⟩ _ _ _; first | refine Av hG Y Y Y Y (by omega) ?_ | refine Av (m := 1) hG Y Y Y Y (by omega) ?_ | refine Ab hG Y Y Y Y Y (by omega) ?_)
      | (show AOp _ _ ⟨_, .binOp .quo _ _ _ _, _, _, _, _⟩ _ _ _; first | refine Bf (m := 2) hG Y Y Y Y (by omega) ?_ | refine Bf (m := 4) hG Y Y Y Y (by omega) ?_ | refine Bf (m := 8) hG Y Y Y Y (by omega) ?_)
      | (show AOp _ _ ⟨_, .binOp _ _ _ _ _, _, _, _, _⟩ _ _ _; first | refine At hG Y Y Y Y Y (by omega) ?_ | refine Au hG Y Y Y Y Y (by omega) ?_ | ((fail_if_success have := kk); refine Am hG Y Y Y Y Y (fun h => ?_) (fun h => ?_)) | refine Bw hG Y Y Y ?_)
      | (show AOp _ _ ⟨_, .load _ _, _, _, _, _⟩ _ _ _; first | refine Ak (α := Nat) 0 hG Y Y Y Y (by omega) Y ?_ | refine Ay hG Y Y Y ?_ | refine Bg 0 hG Y Y Y Y ?_)
      | (show AOp _ _ ⟨_, .indexAddr _ _ _, _, _, _, _⟩ _ _ _; first | refine A1 hG Y Y Y Y Y Y Y (by omega) ?_ | refine A0 hG Y Y Y Y Y Y Y (by omega) ?_ | refine Az hG Y Y Y Y Y Y Y (by omega) ?_ | refine A9 hG Y Y ?_)
      | (show AOp _ _ ⟨_, .store _ _ _, _, _, _, _⟩ _ _ _; first | refine Bc (α := Nat) 0 hG Y Y Y Ah Bb Y Y (by first | omega | (simp only [Array.size_setIfInBounds]; omega)) ?_ | refine Bv 0 hG Y Y Y Y Y Y Y ?_)
      | refine r_q hG Y Y Y ?_); try exact kk)
    | (show AL _ _ _ _ _ _ _ _; first | refine Bk Y Y Y ?_ | (refine Ar ?_; first | show AW _ _ _ _ _ _ | show ∃ x', _ < _ ∧ _)) | (show AW _ _ (.seq _ _) _ _ _; refine Ai ?_; intro Q1) | (show AW _ _ (.region _ _ false) _ _ _; refine Ad ?_; intro O1) | (show AW _ _ (.cond _ _ _) _ _ _; first | refine Ao Y ?_ | refine Ap Y ?_ | refine Ba Y (fun h => ?_) (fun h => ?_)) | (show AW _ _ (.skip) _ _ _; refine Aj ?_; first | show AW _ _ _ _ _ _ | show ∃ x', _ < _ ∧ _) | (show AW _ _ (.block _ _) _ _ _; refine Ae ?_; intro Q1) | (show AW _ _ (.exit _) _ _ _; refine Al ?_; first | show AW _ _ _ _ _ _ | show ∃ x', _ < _ ∧ _) | (show AW _ _ (.ret) _ _ _; refine Aw ?_; try dsimp only [Ax, Aa, A2, Af])
    | (show DL _ _ _ _ _ _ _; refine Bx Y Y (fun K kt kf => Am hG Y Y Y Y Y kt kf) (fun h => ?_) (fun h => ?_))
    | (show DL _ _ _ _ _ _ _; refine By Y Y Y ?_) | (show DL _ _ _ _ _ _ _; refine Be ?_; first | show AW _ _ _ _ _ _ | show ∃ x', _ < _ ∧ _) | (show AW _ _ (.region _ _ true) _ _ _; refine A3 mix (by kernel_rfl) ?_; intro O1) | fail)
    refine Ch (X := HpX hi a n d) (fun x => [(0, .aref 1 i 0 n cap), (6, .int .i64 (a : Int)), (7, .int .i64 0), (8, .int .i64 (hi : Int)), (10, .int .i64 x.z)]) (fun x => ⟨[(i, .cells (rowT mT x.d))], [], off, none⟩) (fun x => x.k) ⟨hi, ((hi - 1 : Nat) : Int), by omega, by omega, d, hdn, rfl⟩ (by repeat (first | exact .nil _ | refine .cons rfl ?_)) (.refl _) ?_
    rintro ⟨k, z, hz, hk, e, hen, hre⟩
    dsimp only at hre ⊢
    cases k with
    | succ m =>
      obtain rfl : z = (m : Int) := by omega
      rw [heapPop] at hre
      have hc := srt_sift (d0 := swp e a (a + m)) (lo := 0) (hi := m) (first := a) (by rw [size_swp]; omega) (by rw [size_swp]; omega) (by omega)
      repeat' (first
    | ((first | (show AL _ _ _ _ _ _ _ _; refine Ag Y ?_) | (show DL _ _ _ _ _ _ _; refine' A8 Y Y (fun K kk => ?_) ?_; try (show Go.Ts.T; rotate_left))); (first
      | refine Aq hG Y Y ?_
      | refine A5 hG Y Y ?_
      | (show AOp _ _ ⟨_, .binOp .add _ _ _ _, _, _, _, _⟩ _ _ _; first | refine Ac hG Y Y Y Y Y (by omega) ?_ | refine Ac (m := 1) hG Y Y Y Y Y (by omega) ?_ | refine Ab hG Y Y Y Y Y (by omega) ?_)
      | (show AOp _ _ ⟨_, .binOp .sub _ _ _ _, _, _, _, _⟩ _ _ _; first | refine Av hG Y Y Y Y (by omega) ?_ | refine Av (m := 1) hG Y Y Y Y (by omega) ?_ | refine Ab hG Y Y Y Y Y (by omega) ?_)
      | (show AOp _ _ ⟨_, .binOp .quo _ _ _ _, _, _, _, _⟩ _ _ _; first | refine Bf (m := 2) hG Y Y Y Y (by omega) ?_ | refine Bf (m := 4) hG Y Y Y Y (by omega) ?_ | refine Bf (m := 8) hG Y Y Y Y (by omega) ?_)
      | (show AOp _ _ ⟨_, .binOp _ _ _ _ _, _, _, _, _⟩ _ _ _; first | refine At hG Y Y Y Y Y (by omega) ?_ | refine Au hG Y Y Y Y Y (by omega) ?_ | ((fail_if_success have := kk); refine Am hG Y Y Y Y Y (fun h => ?_) (fun h => ?_)) | refine Bw hG Y Y Y ?_)
      | (show AOp _ _ ⟨_, .load _ _, _, _, _, _⟩ _ _ _; first | refine Ak (α := Nat) 0 hG Y Y Y Y (by omega) Y ?_ | refine Ay hG Y Y Y ?_ | refine Bg 0 hG Y Y Y Y ?_)
      | (show AOp _ _ ⟨_, .indexAddr _ _ _, _, _, _, _⟩ _ _ _; first | refine A1 hG Y Y Y Y Y Y Y (by omega) ?_ | refine A0 hG Y Y Y Y Y Y Y (by omega) ?_ | refine Az hG Y Y Y Y Y Y Y (by omega) ?_ | refine A9 hG Y Y ?_)
      | (show AOp _ _ ⟨_, .store _ _ _, _, _, _, _⟩ _ _ _; first | refine Bc (α := Nat) 0 hG Y Y Y Ah Bb Y Y (by first | omega | (simp only [Array.size_setIfInBounds]; omega)) ?_ | refine Bv 0 hG Y Y Y Y Y Y Y ?_)
      | refine r_q hG Y Y Y ?_); try exact kk)
    | (show AL _ _ _ _ _ _ _ _; first | refine Bk Y Y Y ?_ | (refine Ar ?_; first | show AW _ _ _ _ _ _ | show ∃ x', _ < _ ∧ _)) | (show AW _ _ (.seq _ _) _ _ _; refine Ai ?_; intro Q1) | (show AW _ _ (.region _ _ false) _ _ _; (fail_if_success show AW _ _ (.region 10 _ _) _ _ _); refine Ad ?_; intro O1) | (show AW _ _ (.cond _ _ _) _ _ _; first | refine Ao Y ?_ | refine Ap Y ?_ | refine Ba Y (fun h => ?_) (fun h => ?_)) | (show AW _ _ (.skip) _ _ _; refine Aj ?_; first | show AW _ _ _ _ _ _ | show ∃ x', _ < _ ∧ _) | (show AW _ _ (.block _ _) _ _ _; refine Ae ?_; intro Q1) | (show AW _ _ (.exit _) _ _ _; refine Al ?_; first | show AW _ _ _ _ _ _ | show ∃ x', _ < _ ∧ _) | (show AW _ _ (.ret) _ _ _; refine Aw ?_; try dsimp only [Ax, Aa, A2, Af])
    | (show DL _ _ _ _ _ _ _; refine Bx Y Y (fun K kt kf => Am hG Y Y Y Y Y kt kf) (fun h => ?_) (fun h => ?_))
    | (show DL _ _ _ _ _ _ _; refine By Y Y Y ?_) | (show DL _ _ _ _ _ _ _; refine Be ?_; first | show AW _ _ _ _ _ _ | show ∃ x', _ < _ ∧ _) | (show AW _ _ (.region _ _ true) _ _ _; (fail_if_success show AW _ _ (.region 10 _ _) _ _ _); refine A3 mix (by kernel_rfl) ?_; intro O1) | fail)
      refine Co (m := 18) [17] [11, 15] (fun σ => ∃ c : Array Nat, c.size = n ∧ σ = ⟨[(i, .cells (rowT mT c))], [], off, none⟩) mix Y Y (by repeat (first | exact Sp.zero _ | apply Sp.succ)) ?_; intro O1 F1 Z1 Q2; repeat' (first
    | (refine' dq0_cons Y Y Y Y (fun σ hσ K kk => ?_) ?_; (try (show Go.Ts.T; rotate_left)); (obtain ⟨c, hcn, hcs⟩ := hσ; subst hcs); (first
      | refine Aq hG Y Y ?_
      | refine A5 hG Y Y ?_
      | (show AOp _ _ ⟨_, .binOp .add _ _ _ _, _, _, _, _⟩ _ _ _; first | refine Ac hG Y Y Y Y Y (by omega) ?_ | refine Ac (m := 1) hG Y Y Y Y Y (by omega) ?_ | refine Ab hG Y Y Y Y Y (by omega) ?_)
      | (show AOp _ _ ⟨_, .binOp .sub _ _ _ _, _, _, _, _⟩ _ _ _; first | refine Av hG Y Y Y Y (by omega) ?_ | refine Av (m := 1) hG Y Y Y Y (by omega) ?_ | refine Cg (m := 1) hG Y Y Y Y (by omega) ?_ | refine Ab hG Y Y Y Y Y (by omega) ?_)
      | (show AOp _ _ ⟨_, .binOp .quo _ _ _ _, _, _, _, _⟩ _ _ _; first | refine Bf (m := 2) hG Y Y Y Y (by omega) ?_ | refine Bf (m := 4) hG Y Y Y Y (by omega) ?_ | refine Bf (m := 8) hG Y Y Y Y (by omega) ?_)
      | (show AOp _ _ ⟨_, .binOp _ _ _ _ _, _, _, _, _⟩ _ _ _; first | refine At hG Y Y Y Y Y (by omega) ?_ | refine Au hG Y Y Y Y Y (by omega) ?_ | refine Bw hG Y Y Y ?_)
      | (show AOp _ _ ⟨_, .load _ _, _, _, _, _⟩ _ _ _; first | refine Ak (α := Nat) 0 hG Y Y Y Y (by omega) Y ?_ | refine Ak (α := Nat) 1 hG Y Y Y Y (by omega) Y ?_ | refine Ay hG Y Y Y ?_ | refine Bg 0 hG Y Y Y Y ?_)
      | (show AOp _ _ ⟨_, .indexAddr _ _ _, _, _, _, _⟩ _ _ _; first | refine A1 hG Y Y Y Y Y Y Y (by omega) ?_ | refine A0 hG Y Y Y Y Y Y Y (by omega) ?_ | refine Az hG Y Y Y Y Y Y Y (by omega) ?_ | refine A9 hG Y Y ?_)
      | (show AOp _ _ ⟨_, .store _ _ _, _, _, _, _⟩ _ _ _; first | refine Bc (α := Nat) 0 hG Y Y Y Ah Bb Y Y (by first | omega | (simp only [Array.size_setIfInBounds]; omega)) ?_ | refine Bc (α := Nat) 1 hG Y Y Y Ah Bb Y Y (by first | omega | (simp only [Array.size_setIfInBounds]; omega)) ?_ | refine Bv 0 hG Y Y Y Y Y Y Y ?_)
      | refine r_q hG Y Y Y ?_); exact kk)
    | (refine' Cn Y Y Y Y (fun K kk => ?_) ?_; (try (show Go.Ts.T; rotate_left)); (first | refine Ak 0 hG Y Y Y Y (by omega) Y ?_ | refine Ak 1 hG Y Y Y Y (by omega) Y ?_); exact kk)
    | refine dq0_e Y ?_ | (refine dq0_nil ?_; show EL _ _ _ _ _ _ _ _ _)
    | (refine Cf ⟨_, (by first | assumption | (simp only [Array.size_setIfInBounds]; omega)), Y⟩ Y Y Y (fun K ke => ?_); (first | refine Bc (α := Nat) 0 hG Y Y Y Ah Bb Y Y (by first | omega | (simp only [Array.size_setIfInBounds]; omega)) ?_ | refine Bc (α := Nat) 1 hG Y Y Y Ah Bb Y Y (by first | omega | (simp only [Array.size_setIfInBounds]; omega)) ?_); refine ke (.tup []) _ ?_)
    | (refine el_nil ⟨_, (by first | assumption | (simp only [Array.size_setIfInBounds]; omega)), Y⟩ ?_; show AL _ _ _ _ _ _ _ _) | fail)
      have hsn : (swp e a (a + m)).size = n := by rw [size_swp]; exact hen
      repeat' (first
    | ((first | (show AL _ _ _ _ _ _ _ _; refine Ag Y ?_) | (show DL _ _ _ _ _ _ _; refine' A8 Y Y (fun K kk => ?_) ?_; try (show Go.Ts.T; rotate_left))); (first
      | refine Aq hG Y Y ?_
      | refine A5 hG Y Y ?_
      | (show AOp _ _ ⟨_, .binOp .add _ _ _ _, _, _, _, _⟩ _ _ _; first | refine Ac hG Y Y Y Y Y (by omega) ?_ | refine Ac (m := 1) hG Y Y Y Y Y (by omega) ?_ | refine Ab hG Y Y Y Y Y (by omega) ?_)
      | (show AOp _ _ ⟨_, .binOp .sub _ _ _ _, _, _, _, _⟩ _ _ _; first | refine Av hG Y Y Y Y (by omega) ?_ | refine Av (m := 1) hG Y Y Y Y (by omega) ?_ | refine Ab hG Y Y Y Y Y (by omega) ?_)
      | (show AOp _ _ ⟨_, .binOp .quo _ _ _ _, _, _, _, _⟩ _ _ _; first | refine Bf (m := 2) hG Y Y Y Y (by omega) ?_ | refine Bf (m := 4) hG Y Y Y Y (by omega) ?_ | refine Bf (m := 8) hG Y Y Y Y (by omega) ?_)
      | (show AOp _ _ ⟨_, .binOp _ _ _ _ _, _, _, _, _⟩ _ _ _; first | refine At hG Y Y Y Y Y (by omega) ?_ | refine Au hG Y Y Y Y Y (by omega) ?_ | ((fail_if_success have := kk); refine Am hG Y Y Y Y Y (fun h => ?_) (fun h => ?_)) | refine Bw hG Y Y Y ?_)
      | (show AOp _ _ ⟨_, .load _ _, _, _, _, _⟩ _ _ _; first | refine Ak (α := Nat) 0 hG Y Y Y Y (by omega) Y ?_ | refine Ay hG Y Y Y ?_ | refine Bg 0 hG Y Y Y Y ?_)
      | (show AOp _ _ ⟨_, .indexAddr _ _ _, _, _, _, _⟩ _ _ _; first | refine A1 hG Y Y Y Y Y Y Y (by omega) ?_ | refine A0 hG Y Y Y Y Y Y Y (by omega) ?_ | refine Az hG Y Y Y Y Y Y Y (by omega) ?_ | refine A9 hG Y Y ?_)
      | (show AOp _ _ ⟨_, .store _ _ _, _, _, _, _⟩ _ _ _; first | refine Bc (α := Nat) 0 hG Y Y Y Ah Bb Y Y (by first | omega | (simp only [Array.size_setIfInBounds]; omega)) ?_ | refine Bv 0 hG Y Y Y Y Y Y Y ?_)
      | (show AOp _ _ ⟨_, .call ⟨.value _, _, _⟩, _, _, _, _⟩ _ _ _; first | refine r_row Y Y Y Y Y (List.Perm.refl _) hc (by assumption) ?_ | fail)
      | refine r_q hG Y Y Y ?_); try exact kk)
    | (show AL _ _ _ _ _ _ _ _; first | refine Bk Y Y Y ?_ | (refine Ar ?_; first | show AW _ _ _ _ _ _ | show ∃ x', _ < _ ∧ _)) | (show AW _ _ (.seq _ _) _ _ _; refine Ai ?_; intro Q1) | (show AW _ _ (.region _ _ false) _ _ _; refine Ad ?_; intro O1) | (show AW _ _ (.cond _ _ _) _ _ _; first | refine Ao Y ?_ | refine Ap Y ?_ | refine Ba Y (fun h => ?_) (fun h => ?_)) | (show AW _ _ (.skip) _ _ _; refine Aj ?_; first | show AW _ _ _ _ _ _ | show ∃ x', _ < _ ∧ _) | (show AW _ _ (.block _ _) _ _ _; refine Ae ?_; intro Q1) | (show AW _ _ (.exit _) _ _ _; refine Al ?_; first | show AW _ _ _ _ _ _ | show ∃ x', _ < _ ∧ _) | (show AW _ _ (.ret) _ _ _; refine Aw ?_; try dsimp only [Ax, Aa, A2, Af])
    | (show DL _ _ _ _ _ _ _; refine Bx Y Y (fun K kt kf => Am hG Y Y Y Y Y kt kf) (fun h => ?_) (fun h => ?_))
    | (show DL _ _ _ _ _ _ _; refine By Y Y Y ?_) | (show DL _ _ _ _ _ _ _; refine Be ?_; first | show AW _ _ _ _ _ _ | show ∃ x', _ < _ ∧ _) | (show AW _ _ (.region _ _ true) _ _ _; refine A3 mix (by kernel_rfl) ?_; intro O1) | fail)
      exact ⟨⟨m, (m : Int) - 1, by omega, by omega, siftDown ltQ m a 0 (swp e a (a + m)), by rw [sift_size _ _ _ _ _ _ (Nat.le_refl _)]; exact hsn, hre⟩, by dsimp only; omega, (by repeat (first | exact .nil _ | refine .cons rfl ?_)), .refl _⟩
    | zero =>
      rw [heapPop] at hre
      obtain rfl : z = -1 := by omega
      repeat' (first
    | ((first | (show AL _ _ _ _ _ _ _ _; refine Ag Y ?_) | (show DL _ _ _ _ _ _ _; refine' A8 Y Y (fun K kk => ?_) ?_; try (show Go.Ts.T; rotate_left))); (first
      | refine Aq hG Y Y ?_
      | refine A5 hG Y Y ?_
      | (show AOp _ _ ⟨_, .binOp .add _ _ _ _, _, _, _, _⟩ _ _ _; first | refine Ac hG Y Y Y Y Y (by omega) ?_ | refine Ac (m := 1) hG Y Y Y Y Y (by omega) ?_ | refine Ab hG Y Y Y Y Y (by omega) ?_)
      | (show AOp _ _ ⟨_, .binOp .sub _ _ _ _, _, _, _, _⟩ _ _ _; first | refine Av hG Y Y Y Y (by omega) ?_ | refine Av (m := 1) hG Y Y Y Y (by omega) ?_ | refine Ab hG Y Y Y Y Y (by omega) ?_)
      | (show AOp _ _ ⟨_, .binOp .quo _ _ _ _, _, _, _, _⟩ _ _ _; first | refine Bf (m := 2) hG Y Y Y Y (by omega) ?_ | refine Bf (m := 4) hG Y Y Y Y (by omega) ?_ | refine Bf (m := 8) hG Y Y Y Y (by omega) ?_)
      | (show AOp _ _ ⟨_, .binOp _ _ _ _ _, _, _, _, _⟩ _ _ _; first | refine At hG Y Y Y Y Y (by omega) ?_ | refine Au hG Y Y Y Y Y (by omega) ?_ | ((fail_if_success have := kk); refine Am hG Y Y Y Y Y (fun h => ?_) (fun h => ?_)) | refine Bw hG Y Y Y ?_)
      | (show AOp _ _ ⟨_, .load _ _, _, _, _, _⟩ _ _ _; first | refine Ak (α := Nat) 0 hG Y Y Y Y (by omega) Y ?_ | refine Ay hG Y Y Y ?_ | refine Bg 0 hG Y Y Y Y ?_)
      | (show AOp _ _ ⟨_, .indexAddr _ _ _, _, _, _, _⟩ _ _ _; first | refine A1 hG Y Y Y Y Y Y Y (by omega) ?_ | refine A0 hG Y Y Y Y Y Y Y (by omega) ?_ | refine Az hG Y Y Y Y Y Y Y (by omega) ?_ | refine A9 hG Y Y ?_)
      | (show AOp _ _ ⟨_, .store _ _ _, _, _, _, _⟩ _ _ _; first | refine Bc (α := Nat) 0 hG Y Y Y Ah Bb Y Y (by first | omega | (simp only [Array.size_setIfInBounds]; omega)) ?_ | refine Bv 0 hG Y Y Y Y Y Y Y ?_)
      | refine r_q hG Y Y Y ?_); try exact kk)
    | (show AL _ _ _ _ _ _ _ _; first | refine Bk Y Y Y ?_ | (refine Ar ?_; first | show AW _ _ _ _ _ _ | show ∃ x', _ < _ ∧ _)) | (show AW _ _ (.seq _ _) _ _ _; refine Ai ?_; intro Q1) | (show AW _ _ (.region _ _ false) _ _ _; refine Ad ?_; intro O1) | (show AW _ _ (.cond _ _ _) _ _ _; first | refine Ao Y ?_ | refine Ap Y ?_ | refine Ba Y (fun h => ?_) (fun h => ?_)) | (show AW _ _ (.skip) _ _ _; refine Aj ?_; first | show AW _ _ _ _ _ _ | show ∃ x', _ < _ ∧ _) | (show AW _ _ (.block _ _) _ _ _; refine Ae ?_; intro Q1) | (show AW _ _ (.exit _) _ _ _; refine Al ?_; first | show AW _ _ _ _ _ _ | show ∃ x', _ < _ ∧ _) | (show AW _ _ (.ret) _ _ _; refine Aw ?_; try dsimp only [Ax, Aa, A2, Af])
    | (show DL _ _ _ _ _ _ _; refine Bx Y Y (fun K kt kf => Am hG Y Y Y Y Y kt kf) (fun h => ?_) (fun h => ?_))
    | (show DL _ _ _ _ _ _ _; refine By Y Y Y ?_) | (show DL _ _ _ _ _ _ _; refine Be ?_; first | show AW _ _ _ _ _ _ | show ∃ x', _ < _ ∧ _) | (show AW _ _ (.region _ _ true) _ _ _; refine A3 mix (by kernel_rfl) ?_; intro O1) | fail)
      refine Al ?_
      dsimp (config := { zetaDelta := true }) only [Ax, Aa]
      rw [← hr, ← hre]
      refine ret_rowE 0 Bl ?_ (.refl _) ?_ <;> rfl
end Go.Proofs.Ytmckbfdklcmogaa
namespace Go.Ts
section
variable {P : Program} {N : Nat} {σ : St} {a : Env} {Q : Exit → Env → St → Prop}
theorem aw_loop_to (id : Nat) {c : Code} {X : Type} (E : X → Env) (S : X → St) (m : X → Nat) (x : X) (h0 : Knows a (E x)) (hs : GStep σ (S x)) (a1 : Env) (σ1 : St)
    (round : ∀ x, AW P N c (Ax (fun a' σ' => ∃ x', m x' < m x ∧ Knows a' (E x') ∧ GStep σ' (S x')) (fun e a' σ' => e = .exit id ∧ Knows a' a1 ∧ σ' = σ1)) (E x) (S x))
    (rest : ∀ a', Knows a' a1 → Q (.exit id) a' σ1) : AW P N (.loop c) Q a σ := by
  refine (Ch (Q := fun e a' σ' => e = .exit id ∧ Knows a' a1 ∧ σ' = σ1) E S m x h0 hs round).mono ?_
  rintro e a' σ' ⟨rfl, hk, rfl⟩
  exact rest a' hk
end
end Go.Ts
namespace Go.Proofs.Ytmckbfdklcmogaa
open Go.Ts
set_option linter.unusedSimpArgs false
set_option linter.unusedVariables false
attribute [local irreducible] Go.Ts.AW Go.Ts.AOps Go.Ts.AL Go.Ts.AOp Go.Ts.ACalls Go.Ts.DL Go.Ts.DQ0 Go.Ts.EL
open Go.Sort
structure UpX (P : Nat → Bool) (d : Array Nat) (J I lo n : Nat) where
  p : Nat
  hp : lo ≤ p ∧ p ≤ n
  hr : scanUp P d J p = I
structure DnX (P : Nat → Bool) (d : Array Nat) (I J' hi : Nat) where
  p : Nat
  hp : p ≤ hi
  hr : scanDown P d I p = J'
structure PlX (a b n : Nat) (R : Nat × Array Nat) where
  i : Nat
  j : Nat
  d : Array Nat
  hn : d.size = n
  hij : a < i ∧ i ≤ n ∧ j < b
  hr : partLoop ltQ a i j d = R
theorem up_le (P : Nat → Bool) (d : Array Nat) (J n : Nat) (hJ : J < n) : ∀ m i, J + 1 - i ≤ m → i ≤ n → scanUp P d J i ≤ n := by
  intro m
  induction m with
  | zero =>
    intro i h1 h2
    rw [scanUp, if_neg (by simp; omega)]; exact h2
  | succ m ih =>
    intro i h1 h2
    rw [scanUp]
    split
    · rename_i h; simp at h; exact ih _ (by omega) (by omega)
    · exact h2
theorem srt_part {d0 : Array Nat} {a b pv : Nat} (hab : a ≤ pv) (hpb : pv < b) (hb : b ≤ d0.size) (hs : d0.size ≤ 4294967296) : OnRow Try.prog 41 mT [.int .i64 (a : Int), .int .i64 (b : Int), .int .i64 (pv : Int)] d0
    (.tup [.int .i64 ((partition ltQ d0 a b pv).1 : Int), .bool (partition ltQ d0 a b pv).2.1]) (partition ltQ d0 a b pv).2.2 := by
  intro off i n cap hn
  refine Br (N := 168) (rs := [.tmp 8, .tmp 9]) hG Try.func41 rfl rfl rfl rfl rfl ?_
  repeat' (first
    | ((first | (show AL _ _ _ _ _ _ _ _; refine Ag Y ?_) | (show DL _ _ _ _ _ _ _; refine' A8 Y Y (fun K kk => ?_) ?_; try (show Go.Ts.T; rotate_left))); (first
      | refine Aq hG Y Y ?_
      | refine A5 hG Y Y ?_
      | (show AOp _ _ ⟨_, .binOp .add _ _ _ _, _, _, _, _⟩ _ _ _; first | refine Ac hG Y Y Y Y Y (by omega) ?_ | refine Ac (m := 1) hG Y Y Y Y Y (by omega) ?_ | refine Ab hG Y Y Y Y Y (by omega) ?_)
      | (show AOp _ _ ⟨_, .binOp .sub _ _ _ _, _, _, _, _⟩ _ _ _; first | refine Av hG Y Y Y Y (by omega) ?_ | refine Av (m := 1) hG Y Y Y Y (by omega) ?_ | refine Ab hG Y Y Y Y Y (by omega) ?_)
      | (show AOp _ _ ⟨_, .binOp _ _ _ _ _, _, _, _, _⟩ _ _ _; first | refine At hG Y Y Y Y Y (by omega) ?_ | refine Au hG Y Y Y Y Y (by omega) ?_ | ((fail_if_success have := kk); refine Am hG Y Y Y Y Y (fun h => ?_) (fun h => ?_)))
      | (show AOp _ _ ⟨_, .load _ _, _, _, _, _⟩ _ _ _; first | refine Ak (α := Nat) 0 hG Y Y Y Y (by omega) Y ?_ | refine Ay hG Y Y Y ?_ | refine Bg 0 hG Y Y Y Y ?_)
      | (show AOp _ _ ⟨_, .indexAddr _ _ _, _, _, _, _⟩ _ _ _; first | refine A1 hG Y Y Y Y Y Y Y (by omega) ?_ | refine A0 hG Y Y Y Y Y Y Y (by omega) ?_ | refine Az hG Y Y Y Y Y Y Y (by omega) ?_ | refine A9 hG Y Y ?_)
      | refine A6 hG Y Y Y ?_
      | refine Bs hG Y Y Y ?_
      | (show AOp _ _ ⟨_, .store _ _ _, _, _, _, _⟩ _ _ _; first | refine Bc (α := Nat) 0 hG Y Y Y Ah Bb Y Y (by first | omega | (simp only [Array.size_setIfInBounds]; omega)) ?_ | refine Bv 0 hG Y Y Y Y Y Y Y ?_)
      | refine r_q hG Y Y Y ?_); try exact kk)
    | (show AL _ _ _ _ _ _ _ _; first | refine Bk Y Y Y ?_ | (refine Ar ?_; first | show AW _ _ _ _ _ _ | show ∃ x', _ < _ ∧ _)) | (show AW _ _ (.seq _ _) _ _ _; refine Ai ?_; intro Q1) | (show AW _ _ (.region _ _ false) _ _ _; (fail_if_success show AW _ _ (.region 1 _ _) _ _ _); refine Ad ?_; intro O1) | (show AW _ _ (.cond _ _ _) _ _ _; first | refine Ao Y ?_ | refine Ap Y ?_ | refine Ba Y (fun h => ?_) (fun h => ?_)) | (show AW _ _ (.skip) _ _ _; refine Aj ?_; first | show AW _ _ _ _ _ _ | show ∃ x', _ < _ ∧ _) | (show AW _ _ (.block _ _) _ _ _; refine Ae ?_; intro Q1) | (show AW _ _ (.exit _) _ _ _; refine Al ?_; first | show AW _ _ _ _ _ _ | show ∃ x', _ < _ ∧ _) | (show AW _ _ (.ret) _ _ _; refine Aw ?_; try dsimp only [Ax, Aa, A2, Af])
    | (show DL _ _ _ _ _ _ _; refine Bx Y Y (fun K kt kf => Am hG Y Y Y Y Y kt kf) (fun h => ?_) (fun h => ?_))
    | (show DL _ _ _ _ _ _ _; refine By Y Y Y ?_) | (show DL _ _ _ _ _ _ _; refine Be ?_; first | show AW _ _ _ _ _ _ | show ∃ x', _ < _ ∧ _) | (show AW _ _ (.region _ _ true) _ _ _; (fail_if_success show AW _ _ (.region 1 _ _) _ _ _); refine A3 mix (by kernel_rfl) ?_; intro O1) | fail)
  refine Co (m := 14) [13] [7, 11] (fun σ => ∃ c : Array Nat, c.size = n ∧ σ = ⟨[(i, .cells (rowT mT c))], [], off, none⟩) mix Y Y (by repeat (first | exact Sp.zero _ | apply Sp.succ)) ?_; intro O1 F1 Z1 Q2; repeat' (first
    | (refine' dq0_cons Y Y Y Y (fun σ hσ K kk => ?_) ?_; (try (show Go.Ts.T; rotate_left)); (obtain ⟨c, hcn, hcs⟩ := hσ; subst hcs); (first
      | refine Aq hG Y Y ?_
      | refine A5 hG Y Y ?_
      | (show AOp _ _ ⟨_, .binOp .add _ _ _ _, _, _, _, _⟩ _ _ _; first | refine Ac hG Y Y Y Y Y (by omega) ?_ | refine Ac (m := 1) hG Y Y Y Y Y (by omega) ?_ | refine Ab hG Y Y Y Y Y (by omega) ?_)
      | (show AOp _ _ ⟨_, .binOp .sub _ _ _ _, _, _, _, _⟩ _ _ _; first | refine Av hG Y Y Y Y (by omega) ?_ | refine Av (m := 1) hG Y Y Y Y (by omega) ?_ | refine Cg (m := 1) hG Y Y Y Y (by omega) ?_ | refine Ab hG Y Y Y Y Y (by omega) ?_)
      | (show AOp _ _ ⟨_, .binOp _ _ _ _ _, _, _, _, _⟩ _ _ _; first | refine At hG Y Y Y Y Y (by omega) ?_ | refine Au hG Y Y Y Y Y (by omega) ?_)
      | (show AOp _ _ ⟨_, .load _ _, _, _, _, _⟩ _ _ _; first | refine Ak (α := Nat) 0 hG Y Y Y Y (by omega) Y ?_ | refine Ak (α := Nat) 1 hG Y Y Y Y (by omega) Y ?_ | refine Ay hG Y Y Y ?_ | refine Bg 0 hG Y Y Y Y ?_)
      | (show AOp _ _ ⟨_, .indexAddr _ _ _, _, _, _, _⟩ _ _ _; first | refine A1 hG Y Y Y Y Y Y Y (by omega) ?_ | refine A0 hG Y Y Y Y Y Y Y (by omega) ?_ | refine Az hG Y Y Y Y Y Y Y (by omega) ?_ | refine A9 hG Y Y ?_)
      | refine A6 hG Y Y Y ?_
      | refine Bs hG Y Y Y ?_
      | (show AOp _ _ ⟨_, .store _ _ _, _, _, _, _⟩ _ _ _; first | refine Bc (α := Nat) 0 hG Y Y Y Ah Bb Y Y (by first | omega | (simp only [Array.size_setIfInBounds]; omega)) ?_ | refine Bc (α := Nat) 1 hG Y Y Y Ah Bb Y Y (by first | omega | (simp only [Array.size_setIfInBounds]; omega)) ?_ | refine Bv 0 hG Y Y Y Y Y Y Y ?_)
      | refine r_q hG Y Y Y ?_); exact kk)
    | (refine' Cn Y Y Y Y (fun K kk => ?_) ?_; (try (show Go.Ts.T; rotate_left)); (first | refine Ak 0 hG Y Y Y Y (by omega) Y ?_ | refine Ak 1 hG Y Y Y Y (by omega) Y ?_); exact kk)
    | refine dq0_e Y ?_ | (refine dq0_nil ?_; show EL _ _ _ _ _ _ _ _ _)
    | (refine Cf ⟨_, (by first | assumption | (simp only [Array.size_setIfInBounds]; omega)), Y⟩ Y Y Y (fun K ke => ?_); (first | refine Bc (α := Nat) 0 hG Y Y Y Ah Bb Y Y (by first | omega | (simp only [Array.size_setIfInBounds]; omega)) ?_ | refine Bc (α := Nat) 1 hG Y Y Y Ah Bb Y Y (by first | omega | (simp only [Array.size_setIfInBounds]; omega)) ?_); refine ke (.tup []) _ ?_)
    | (refine el_nil ⟨_, (by first | assumption | (simp only [Array.size_setIfInBounds]; omega)), Y⟩ ?_; show AL _ _ _ _ _ _ _ _) | fail)
  obtain ⟨d, hd⟩ : ∃ d, swp d0 a pv = d := ⟨_, rfl⟩
  have hdn : d.size = n := by rw [← hd, size_swp]; exact hn
  have hp : partition ltQ d0 a b pv = (let i := scanUp (fun x => ltQ x d[a]!) d (b - 1) (a + 1); let j := scanDown (fun x => !ltQ x d[a]!) d i (b - 1); if i > j then (j, true, swp d j a) else let r := partLoop ltQ a (i + 1) (j - 1) (swp d i j); (r.1, false, swp r.2 r.1 a)) := by rw [← hd]; rfl
  repeat' (first
    | ((first | (show AL _ _ _ _ _ _ _ _; refine Ag Y ?_) | (show DL _ _ _ _ _ _ _; refine' A8 Y Y (fun K kk => ?_) ?_; try (show Go.Ts.T; rotate_left))); (first
      | refine Aq hG Y Y ?_
      | refine A5 hG Y Y ?_
      | (show AOp _ _ ⟨_, .binOp .add _ _ _ _, _, _, _, _⟩ _ _ _; first | refine Ac hG Y Y Y Y Y (by omega) ?_ | refine Ac (m := 1) hG Y Y Y Y Y (by omega) ?_ | refine Ab hG Y Y Y Y Y (by omega) ?_)
      | (show AOp _ _ ⟨_, .binOp .sub _ _ _ _, _, _, _, _⟩ _ _ _; first | refine Av hG Y Y Y Y (by omega) ?_ | refine Av (m := 1) hG Y Y Y Y (by omega) ?_ | refine Ab hG Y Y Y Y Y (by omega) ?_)
      | (show AOp _ _ ⟨_, .binOp _ _ _ _ _, _, _, _, _⟩ _ _ _; first | refine At hG Y Y Y Y Y (by omega) ?_ | refine Au hG Y Y Y Y Y (by omega) ?_ | ((fail_if_success have := kk); refine Am hG Y Y Y Y Y (fun h => ?_) (fun h => ?_)))
      | (show AOp _ _ ⟨_, .load _ _, _, _, _, _⟩ _ _ _; first | refine Ak (α := Nat) 0 hG Y Y Y Y (by omega) Y ?_ | refine Ay hG Y Y Y ?_ | refine Bg 0 hG Y Y Y Y ?_)
      | (show AOp _ _ ⟨_, .indexAddr _ _ _, _, _, _, _⟩ _ _ _; first | refine A1 hG Y Y Y Y Y Y Y (by omega) ?_ | refine A0 hG Y Y Y Y Y Y Y (by omega) ?_ | refine Az hG Y Y Y Y Y Y Y (by omega) ?_ | refine A9 hG Y Y ?_)
      | refine A6 hG Y Y Y ?_
      | refine Bs hG Y Y Y ?_
      | (show AOp _ _ ⟨_, .store _ _ _, _, _, _, _⟩ _ _ _; first | refine Bc (α := Nat) 0 hG Y Y Y Ah Bb Y Y (by first | omega | (simp only [Array.size_setIfInBounds]; omega)) ?_ | refine Bv 0 hG Y Y Y Y Y Y Y ?_)
      | refine r_q hG Y Y Y ?_); try exact kk)
    | (show AL _ _ _ _ _ _ _ _; first | refine Bk Y Y Y ?_ | (refine Ar ?_; first | show AW _ _ _ _ _ _ | show ∃ x', _ < _ ∧ _)) | (show AW _ _ (.seq _ _) _ _ _; refine Ai ?_; intro Q1) | (show AW _ _ (.region _ _ false) _ _ _; refine Ad ?_; intro O1) | (show AW _ _ (.cond _ _ _) _ _ _; first | refine Ao Y ?_ | refine Ap Y ?_ | refine Ba Y (fun h => ?_) (fun h => ?_)) | (show AW _ _ (.skip) _ _ _; refine Aj ?_; first | show AW _ _ _ _ _ _ | show ∃ x', _ < _ ∧ _) | (show AW _ _ (.block _ _) _ _ _; refine Ae ?_; intro Q1) | (show AW _ _ (.exit _) _ _ _; refine Al ?_; first | show AW _ _ _ _ _ _ | show ∃ x', _ < _ ∧ _) | (show AW _ _ (.ret) _ _ _; refine Aw ?_; try dsimp only [Ax, Aa, A2, Af])
    | (show DL _ _ _ _ _ _ _; refine Bx Y Y (fun K kt kf => Am hG Y Y Y Y Y kt kf) (fun h => ?_) (fun h => ?_))
    | (show DL _ _ _ _ _ _ _; refine By Y Y Y ?_) | (show DL _ _ _ _ _ _ _; refine Be ?_; first | show AW _ _ _ _ _ _ | show ∃ x', _ < _ ∧ _) | (show AW _ _ (.region _ _ true) _ _ _; refine A3 mix (by kernel_rfl) ?_; intro O1) | fail)
  obtain ⟨I, hI⟩ : ∃ I, scanUp (fun x => ltQ x d[a]!) d (b - 1) (a + 1) = I := ⟨_, rfl⟩
  obtain ⟨J, hJ⟩ : ∃ J, scanDown (fun x => !ltQ x d[a]!) d I (b - 1) = J := ⟨_, rfl⟩
  have gI : a + 1 ≤ I := by rw [← hI]; exact scanUp_ge _ _ _ _
  have kI : I ≤ n := by rw [← hI]; exact up_le _ _ _ _ (by omega) _ _ (Nat.le_refl _) (by omega)
  have gJ : J ≤ b - 1 := by rw [← hJ]; exact scanDown_le _ _ _ _
  show AW _ _ _ _ _ ⟨[(i, .cells (rowT mT (swp d0 a pv)))], [], off, none⟩
  rw [hd]
  refine aw_loop_to 0 (X := UpX (fun x => ltQ x d[a]!) d (b - 1) I (a + 1) n) (fun x => [(0, .aref 1 i 0 n cap), (1, .int .i64 ((a : Nat) : Int)), (10, .int .i64 ((x.p : Nat) : Int)), (11, .int .i64 (((b - 1) : Nat) : Int))]) (fun _ => ⟨[(i, .cells (rowT mT d))], [], off, none⟩) (fun x => (b - 1) + 1 - x.p) ⟨(a + 1), by omega, hI⟩ (by repeat (first | exact .nil _ | refine .cons rfl ?_)) (.refl _) [(0, .aref 1 i 0 n cap), (1, .int .i64 ((a : Nat) : Int)), (10, .int .i64 ((I : Nat) : Int)), (11, .int .i64 (((b - 1) : Nat) : Int))] (⟨[(i, .cells (rowT mT d))], [], off, none⟩) ?_ ?_
  · rintro ⟨p, hp, hr⟩
    dsimp only at hr ⊢
    by_cases hpJ : p ≤ (b - 1)
    · repeat' (first
    | ((first | (show AL _ _ _ _ _ _ _ _; refine Ag Y ?_) | (show DL _ _ _ _ _ _ _; refine' A8 Y Y (fun K kk => ?_) ?_; try (show Go.Ts.T; rotate_left))); (first
      | refine Aq hG Y Y ?_
      | refine A5 hG Y Y ?_
      | (show AOp _ _ ⟨_, .binOp .add _ _ _ _, _, _, _, _⟩ _ _ _; first | refine Ac hG Y Y Y Y Y (by omega) ?_ | refine Ac (m := 1) hG Y Y Y Y Y (by omega) ?_ | refine Ab hG Y Y Y Y Y (by omega) ?_)
      | (show AOp _ _ ⟨_, .binOp .sub _ _ _ _, _, _, _, _⟩ _ _ _; first | refine Av hG Y Y Y Y (by omega) ?_ | refine Av (m := 1) hG Y Y Y Y (by omega) ?_ | refine Ab hG Y Y Y Y Y (by omega) ?_)
      | (show AOp _ _ ⟨_, .binOp _ _ _ _ _, _, _, _, _⟩ _ _ _; first | refine At hG Y Y Y Y Y (by omega) ?_ | refine Au hG Y Y Y Y Y (by omega) ?_ | ((fail_if_success have := kk); refine Am hG Y Y Y Y Y (fun h => ?_) (fun h => ?_)))
      | (show AOp _ _ ⟨_, .load _ _, _, _, _, _⟩ _ _ _; first | refine Ak (α := Nat) 0 hG Y Y Y Y (by omega) Y ?_ | refine Ay hG Y Y Y ?_ | refine Bg 0 hG Y Y Y Y ?_)
      | (show AOp _ _ ⟨_, .indexAddr _ _ _, _, _, _, _⟩ _ _ _; first | refine A1 hG Y Y Y Y Y Y Y (by omega) ?_ | refine A0 hG Y Y Y Y Y Y Y (by omega) ?_ | refine Az hG Y Y Y Y Y Y Y (by omega) ?_ | refine A9 hG Y Y ?_)
      | refine A6 hG Y Y Y ?_
      | refine Bs hG Y Y Y ?_
      | (show AOp _ _ ⟨_, .store _ _ _, _, _, _, _⟩ _ _ _; first | refine Bc (α := Nat) 0 hG Y Y Y Ah Bb Y Y (by first | omega | (simp only [Array.size_setIfInBounds]; omega)) ?_ | refine Bv 0 hG Y Y Y Y Y Y Y ?_)
      | (show AOp _ _ ⟨_, .call ⟨.value _, _, _⟩, _, _, _, _⟩ _ _ _; first | refine Bn Y Y Y Y Y (by first | (apply Cr <;> (first | assumption | omega | exact A4 _ _ | exact Bd _ | exact A7 _ _ | exact Bi _ | rfl | (simp; omega))) | fail) ?_ | fail)
      | refine r_q hG Y Y Y ?_); try exact kk)
    | (show AL _ _ _ _ _ _ _ _; first | refine Bk Y Y Y ?_ | (refine Ar ?_; first | show AW _ _ _ _ _ _ | show ∃ x', _ < _ ∧ _)) | (show AW _ _ (.seq _ _) _ _ _; refine Ai ?_; intro Q1) | (show AW _ _ (.region _ _ false) _ _ _; refine Ad ?_; intro O1) | (show AW _ _ (.cond _ _ _) _ _ _; first | refine Ao Y ?_ | refine Ap Y ?_ | refine Ba Y (fun h => ?_) (fun h => ?_)) | (show AW _ _ (.skip) _ _ _; refine Aj ?_; first | show AW _ _ _ _ _ _ | show ∃ x', _ < _ ∧ _) | (show AW _ _ (.block _ _) _ _ _; refine Ae ?_; intro Q1) | (show AW _ _ (.exit _) _ _ _; refine Al ?_; first | show AW _ _ _ _ _ _ | show ∃ x', _ < _ ∧ _) | (show AW _ _ (.ret) _ _ _; refine Aw ?_; try dsimp only [Ax, Aa, A2, Af])
    | (show DL _ _ _ _ _ _ _; refine Bx Y Y (fun K kt kf => Am hG Y Y Y Y Y kt kf) (fun h => ?_) (fun h => ?_))
    | (show DL _ _ _ _ _ _ _; refine By Y Y Y ?_) | (show DL _ _ _ _ _ _ _; refine Be ?_; first | show AW _ _ _ _ _ _ | show ∃ x', _ < _ ∧ _) | (show AW _ _ (.region _ _ true) _ _ _; refine A3 mix (by kernel_rfl) ?_; intro O1) | fail)
      · rw [scanUp, if_pos (by simp [hpJ]; simpa using h)] at hr
        exact ⟨⟨p + 1, by omega, hr⟩, by dsimp only; omega, (by repeat (first | exact .nil _ | refine .cons rfl ?_)), .refl _⟩
      · rw [scanUp, if_neg (by simp [hpJ]; simpa using h)] at hr
        subst hr
        (refine Al ?_; show _ ∧ Knows _ _ ∧ _; exact ⟨rfl, (by repeat (first | exact .nil _ | refine .cons rfl ?_)), rfl⟩)
    · rw [scanUp, if_neg (by simp [hpJ])] at hr
      subst hr
      repeat' (first
    | ((first | (show AL _ _ _ _ _ _ _ _; refine Ag Y ?_) | (show DL _ _ _ _ _ _ _; refine' A8 Y Y (fun K kk => ?_) ?_; try (show Go.Ts.T; rotate_left))); (first
      | refine Aq hG Y Y ?_
      | refine A5 hG Y Y ?_
      | (show AOp _ _ ⟨_, .binOp .add _ _ _ _, _, _, _, _⟩ _ _ _; first | refine Ac hG Y Y Y Y Y (by omega) ?_ | refine Ac (m := 1) hG Y Y Y Y Y (by omega) ?_ | refine Ab hG Y Y Y Y Y (by omega) ?_)
      | (show AOp _ _ ⟨_, .binOp .sub _ _ _ _, _, _, _, _⟩ _ _ _; first | refine Av hG Y Y Y Y (by omega) ?_ | refine Av (m := 1) hG Y Y Y Y (by omega) ?_ | refine Ab hG Y Y Y Y Y (by omega) ?_)
      | (show AOp _ _ ⟨_, .binOp _ _ _ _ _, _, _, _, _⟩ _ _ _; first | refine At hG Y Y Y Y Y (by omega) ?_ | refine Au hG Y Y Y Y Y (by omega) ?_ | ((fail_if_success have := kk); refine Am hG Y Y Y Y Y (fun h => ?_) (fun h => ?_)))
      | (show AOp _ _ ⟨_, .load _ _, _, _, _, _⟩ _ _ _; first | refine Ak (α := Nat) 0 hG Y Y Y Y (by omega) Y ?_ | refine Ay hG Y Y Y ?_ | refine Bg 0 hG Y Y Y Y ?_)
      | (show AOp _ _ ⟨_, .indexAddr _ _ _, _, _, _, _⟩ _ _ _; first | refine A1 hG Y Y Y Y Y Y Y (by omega) ?_ | refine A0 hG Y Y Y Y Y Y Y (by omega) ?_ | refine Az hG Y Y Y Y Y Y Y (by omega) ?_ | refine A9 hG Y Y ?_)
      | refine A6 hG Y Y Y ?_
      | refine Bs hG Y Y Y ?_
      | (show AOp _ _ ⟨_, .store _ _ _, _, _, _, _⟩ _ _ _; first | refine Bc (α := Nat) 0 hG Y Y Y Ah Bb Y Y (by first | omega | (simp only [Array.size_setIfInBounds]; omega)) ?_ | refine Bv 0 hG Y Y Y Y Y Y Y ?_)
      | (show AOp _ _ ⟨_, .call ⟨.value _, _, _⟩, _, _, _, _⟩ _ _ _; first | refine Bn Y Y Y Y Y (by first | (apply Cr <;> (first | assumption | omega | exact A4 _ _ | exact Bd _ | exact A7 _ _ | exact Bi _ | rfl | (simp; omega))) | fail) ?_ | fail)
      | refine r_q hG Y Y Y ?_); try exact kk)
    | (show AL _ _ _ _ _ _ _ _; first | refine Bk Y Y Y ?_ | (refine Ar ?_; first | show AW _ _ _ _ _ _ | show ∃ x', _ < _ ∧ _)) | (show AW _ _ (.seq _ _) _ _ _; refine Ai ?_; intro Q1) | (show AW _ _ (.region _ _ false) _ _ _; refine Ad ?_; intro O1) | (show AW _ _ (.cond _ _ _) _ _ _; first | refine Ao Y ?_ | refine Ap Y ?_ | refine Ba Y (fun h => ?_) (fun h => ?_)) | (show AW _ _ (.skip) _ _ _; refine Aj ?_; first | show AW _ _ _ _ _ _ | show ∃ x', _ < _ ∧ _) | (show AW _ _ (.block _ _) _ _ _; refine Ae ?_; intro Q1) | (show AW _ _ (.exit _) _ _ _; refine Al ?_; first | show AW _ _ _ _ _ _ | show ∃ x', _ < _ ∧ _) | (show AW _ _ (.ret) _ _ _; refine Aw ?_; try dsimp only [Ax, Aa, A2, Af])
    | (show DL _ _ _ _ _ _ _; refine Bx Y Y (fun K kt kf => Am hG Y Y Y Y Y kt kf) (fun h => ?_) (fun h => ?_))
    | (show DL _ _ _ _ _ _ _; refine By Y Y Y ?_) | (show DL _ _ _ _ _ _ _; refine Be ?_; first | show AW _ _ _ _ _ _ | show ∃ x', _ < _ ∧ _) | (show AW _ _ (.region _ _ true) _ _ _; refine A3 mix (by kernel_rfl) ?_; intro O1) | fail)
      (refine Al ?_; show _ ∧ Knows _ _ ∧ _; exact ⟨rfl, (by repeat (first | exact .nil _ | refine .cons rfl ?_)), rfl⟩)
  intro a' hk
  show AW _ _ _ _ _ _
  refine aw_forget hk ?_
  repeat' (first
    | ((first | (show AL _ _ _ _ _ _ _ _; refine Ag Y ?_) | (show DL _ _ _ _ _ _ _; refine' A8 Y Y (fun K kk => ?_) ?_; try (show Go.Ts.T; rotate_left))); (first
      | refine Aq hG Y Y ?_
      | refine A5 hG Y Y ?_
      | (show AOp _ _ ⟨_, .binOp .add _ _ _ _, _, _, _, _⟩ _ _ _; first | refine Ac hG Y Y Y Y Y (by omega) ?_ | refine Ac (m := 1) hG Y Y Y Y Y (by omega) ?_ | refine Ab hG Y Y Y Y Y (by omega) ?_)
      | (show AOp _ _ ⟨_, .binOp .sub _ _ _ _, _, _, _, _⟩ _ _ _; first | refine Av hG Y Y Y Y (by omega) ?_ | refine Av (m := 1) hG Y Y Y Y (by omega) ?_ | refine Ab hG Y Y Y Y Y (by omega) ?_)
      | (show AOp _ _ ⟨_, .binOp _ _ _ _ _, _, _, _, _⟩ _ _ _; first | refine At hG Y Y Y Y Y (by omega) ?_ | refine Au hG Y Y Y Y Y (by omega) ?_ | ((fail_if_success have := kk); refine Am hG Y Y Y Y Y (fun h => ?_) (fun h => ?_)))
      | (show AOp _ _ ⟨_, .load _ _, _, _, _, _⟩ _ _ _; first | refine Ak (α := Nat) 0 hG Y Y Y Y (by omega) Y ?_ | refine Ay hG Y Y Y ?_ | refine Bg 0 hG Y Y Y Y ?_)
      | (show AOp _ _ ⟨_, .indexAddr _ _ _, _, _, _, _⟩ _ _ _; first | refine A1 hG Y Y Y Y Y Y Y (by omega) ?_ | refine A0 hG Y Y Y Y Y Y Y (by omega) ?_ | refine Az hG Y Y Y Y Y Y Y (by omega) ?_ | refine A9 hG Y Y ?_)
      | refine A6 hG Y Y Y ?_
      | refine Bs hG Y Y Y ?_
      | (show AOp _ _ ⟨_, .store _ _ _, _, _, _, _⟩ _ _ _; first | refine Bc (α := Nat) 0 hG Y Y Y Ah Bb Y Y (by first | omega | (simp only [Array.size_setIfInBounds]; omega)) ?_ | refine Bv 0 hG Y Y Y Y Y Y Y ?_)
      | refine r_q hG Y Y Y ?_); try exact kk)
    | (show AL _ _ _ _ _ _ _ _; first | refine Bk Y Y Y ?_ | (refine Ar ?_; first | show AW _ _ _ _ _ _ | show ∃ x', _ < _ ∧ _)) | (show AW _ _ (.seq _ _) _ _ _; refine Ai ?_; intro Q1) | (show AW _ _ (.region _ _ false) _ _ _; refine Ad ?_; intro O1) | (show AW _ _ (.cond _ _ _) _ _ _; first | refine Ao Y ?_ | refine Ap Y ?_ | refine Ba Y (fun h => ?_) (fun h => ?_)) | (show AW _ _ (.skip) _ _ _; refine Aj ?_; first | show AW _ _ _ _ _ _ | show ∃ x', _ < _ ∧ _) | (show AW _ _ (.block _ _) _ _ _; refine Ae ?_; intro Q1) | (show AW _ _ (.exit _) _ _ _; refine Al ?_; first | show AW _ _ _ _ _ _ | show ∃ x', _ < _ ∧ _) | (show AW _ _ (.ret) _ _ _; refine Aw ?_; try dsimp only [Ax, Aa, A2, Af])
    | (show DL _ _ _ _ _ _ _; refine Bx Y Y (fun K kt kf => Am hG Y Y Y Y Y kt kf) (fun h => ?_) (fun h => ?_))
    | (show DL _ _ _ _ _ _ _; refine By Y Y Y ?_) | (show DL _ _ _ _ _ _ _; refine Be ?_; first | show AW _ _ _ _ _ _ | show ∃ x', _ < _ ∧ _) | (show AW _ _ (.region _ _ true) _ _ _; refine A3 mix (by kernel_rfl) ?_; intro O1) | fail)
  refine aw_loop_to 2 (X := DnX (fun x => !ltQ x d[a]!) d I J (b - 1)) (fun x => [(0, .aref 1 i 0 n cap), (1, .int .i64 ((a : Nat) : Int)), (10, .int .i64 ((I : Nat) : Int)), (11, .int .i64 ((x.p : Nat) : Int))]) (fun _ => ⟨[(i, .cells (rowT mT d))], [], off, none⟩) (fun x => x.p) ⟨(b - 1), by omega, hJ⟩ (by repeat (first | exact .nil _ | refine .cons rfl ?_)) (.refl _) [(0, .aref 1 i 0 n cap), (1, .int .i64 ((a : Nat) : Int)), (10, .int .i64 ((I : Nat) : Int)), (11, .int .i64 ((J : Nat) : Int))] (⟨[(i, .cells (rowT mT d))], [], off, none⟩) ?_ ?_
  · rintro ⟨p, hp, hr⟩
    dsimp only at hr ⊢
    by_cases hpJ : I ≤ p
    · obtain ⟨m, rfl⟩ : ∃ m, p = m + 1 := ⟨p - 1, by omega⟩
      repeat' (first
    | ((first | (show AL _ _ _ _ _ _ _ _; refine Ag Y ?_) | (show DL _ _ _ _ _ _ _; refine' A8 Y Y (fun K kk => ?_) ?_; try (show Go.Ts.T; rotate_left))); (first
      | refine Aq hG Y Y ?_
      | refine A5 hG Y Y ?_
      | (show AOp _ _ ⟨_, .binOp .add _ _ _ _, _, _, _, _⟩ _ _ _; first | refine Ac hG Y Y Y Y Y (by omega) ?_ | refine Ac (m := 1) hG Y Y Y Y Y (by omega) ?_ | refine Ab hG Y Y Y Y Y (by omega) ?_)
      | (show AOp _ _ ⟨_, .binOp .sub _ _ _ _, _, _, _, _⟩ _ _ _; first | refine Av hG Y Y Y Y (by omega) ?_ | refine Av (m := 1) hG Y Y Y Y (by omega) ?_ | refine Ab hG Y Y Y Y Y (by omega) ?_)
      | (show AOp _ _ ⟨_, .binOp _ _ _ _ _, _, _, _, _⟩ _ _ _; first | refine At hG Y Y Y Y Y (by omega) ?_ | refine Au hG Y Y Y Y Y (by omega) ?_ | ((fail_if_success have := kk); refine Am hG Y Y Y Y Y (fun h => ?_) (fun h => ?_)))
      | (show AOp _ _ ⟨_, .load _ _, _, _, _, _⟩ _ _ _; first | refine Ak (α := Nat) 0 hG Y Y Y Y (by omega) Y ?_ | refine Ay hG Y Y Y ?_ | refine Bg 0 hG Y Y Y Y ?_)
      | (show AOp _ _ ⟨_, .indexAddr _ _ _, _, _, _, _⟩ _ _ _; first | refine A1 hG Y Y Y Y Y Y Y (by omega) ?_ | refine A0 hG Y Y Y Y Y Y Y (by omega) ?_ | refine Az hG Y Y Y Y Y Y Y (by omega) ?_ | refine A9 hG Y Y ?_)
      | refine A6 hG Y Y Y ?_
      | refine Bs hG Y Y Y ?_
      | (show AOp _ _ ⟨_, .store _ _ _, _, _, _, _⟩ _ _ _; first | refine Bc (α := Nat) 0 hG Y Y Y Ah Bb Y Y (by first | omega | (simp only [Array.size_setIfInBounds]; omega)) ?_ | refine Bv 0 hG Y Y Y Y Y Y Y ?_)
      | (show AOp _ _ ⟨_, .call ⟨.value _, _, _⟩, _, _, _, _⟩ _ _ _; first | refine Bn Y Y Y Y Y (by first | (apply Cr <;> (first | assumption | omega | exact A4 _ _ | exact Bd _ | exact A7 _ _ | exact Bi _ | rfl | (simp; omega))) | fail) ?_ | fail)
      | refine r_q hG Y Y Y ?_); try exact kk)
    | (show AL _ _ _ _ _ _ _ _; first | refine Bk Y Y Y ?_ | (refine Ar ?_; first | show AW _ _ _ _ _ _ | show ∃ x', _ < _ ∧ _)) | (show AW _ _ (.seq _ _) _ _ _; refine Ai ?_; intro Q1) | (show AW _ _ (.region _ _ false) _ _ _; refine Ad ?_; intro O1) | (show AW _ _ (.cond _ _ _) _ _ _; first | refine Ao Y ?_ | refine Ap Y ?_ | refine Ba Y (fun h => ?_) (fun h => ?_)) | (show AW _ _ (.skip) _ _ _; refine Aj ?_; first | show AW _ _ _ _ _ _ | show ∃ x', _ < _ ∧ _) | (show AW _ _ (.block _ _) _ _ _; refine Ae ?_; intro Q1) | (show AW _ _ (.exit _) _ _ _; refine Al ?_; first | show AW _ _ _ _ _ _ | show ∃ x', _ < _ ∧ _) | (show AW _ _ (.ret) _ _ _; refine Aw ?_; try dsimp only [Ax, Aa, A2, Af])
    | (show DL _ _ _ _ _ _ _; refine Bx Y Y (fun K kt kf => Am hG Y Y Y Y Y kt kf) (fun h => ?_) (fun h => ?_))
    | (show DL _ _ _ _ _ _ _; refine By Y Y Y ?_) | (show DL _ _ _ _ _ _ _; refine Be ?_; first | show AW _ _ _ _ _ _ | show ∃ x', _ < _ ∧ _) | (show AW _ _ (.region _ _ true) _ _ _; refine A3 mix (by kernel_rfl) ?_; intro O1) | fail)
      · rw [scanDown, if_pos (by simp [hpJ]; simpa using h)] at hr
        exact ⟨⟨m, by omega, hr⟩, by dsimp only; omega, (by repeat (first | exact .nil _ | refine .cons rfl ?_)), .refl _⟩
      · rw [scanDown, if_neg (by simp [hpJ]; simpa using h)] at hr
        subst hr
        (refine Al ?_; show _ ∧ Knows _ _ ∧ _; exact ⟨rfl, (by repeat (first | exact .nil _ | refine .cons rfl ?_)), rfl⟩)
    · have hr2 : p = J := by
        rw [← hr]
        cases p with
        | zero => rfl
        | succ m => rw [scanDown, if_neg (by simp; omega)]
      subst hr2
      repeat' (first
    | ((first | (show AL _ _ _ _ _ _ _ _; refine Ag Y ?_) | (show DL _ _ _ _ _ _ _; refine' A8 Y Y (fun K kk => ?_) ?_; try (show Go.Ts.T; rotate_left))); (first
      | refine Aq hG Y Y ?_
      | refine A5 hG Y Y ?_
      | (show AOp _ _ ⟨_, .binOp .add _ _ _ _, _, _, _, _⟩ _ _ _; first | refine Ac hG Y Y Y Y Y (by omega) ?_ | refine Ac (m := 1) hG Y Y Y Y Y (by omega) ?_ | refine Ab hG Y Y Y Y Y (by omega) ?_)
      | (show AOp _ _ ⟨_, .binOp .sub _ _ _ _, _, _, _, _⟩ _ _ _; first | refine Av hG Y Y Y Y (by omega) ?_ | refine Av (m := 1) hG Y Y Y Y (by omega) ?_ | refine Ab hG Y Y Y Y Y (by omega) ?_)
      | (show AOp _ _ ⟨_, .binOp _ _ _ _ _, _, _, _, _⟩ _ _ _; first | refine At hG Y Y Y Y Y (by omega) ?_ | refine Au hG Y Y Y Y Y (by omega) ?_ | ((fail_if_success have := kk); refine Am hG Y Y Y Y Y (fun h => ?_) (fun h => ?_)))
      | (show AOp _ _ ⟨_, .load _ _, _, _, _, _⟩ _ _ _; first | refine Ak (α := Nat) 0 hG Y Y Y Y (by omega) Y ?_ | refine Ay hG Y Y Y ?_ | refine Bg 0 hG Y Y Y Y ?_)
      | (show AOp _ _ ⟨_, .indexAddr _ _ _, _, _, _, _⟩ _ _ _; first | refine A1 hG Y Y Y Y Y Y Y (by omega) ?_ | refine A0 hG Y Y Y Y Y Y Y (by omega) ?_ | refine Az hG Y Y Y Y Y Y Y (by omega) ?_ | refine A9 hG Y Y ?_)
      | refine A6 hG Y Y Y ?_
      | refine Bs hG Y Y Y ?_
      | (show AOp _ _ ⟨_, .store _ _ _, _, _, _, _⟩ _ _ _; first | refine Bc (α := Nat) 0 hG Y Y Y Ah Bb Y Y (by first | omega | (simp only [Array.size_setIfInBounds]; omega)) ?_ | refine Bv 0 hG Y Y Y Y Y Y Y ?_)
      | (show AOp _ _ ⟨_, .call ⟨.value _, _, _⟩, _, _, _, _⟩ _ _ _; first | refine Bn Y Y Y Y Y (by first | (apply Cr <;> (first | assumption | omega | exact A4 _ _ | exact Bd _ | exact A7 _ _ | exact Bi _ | rfl | (simp; omega))) | fail) ?_ | fail)
      | refine r_q hG Y Y Y ?_); try exact kk)
    | (show AL _ _ _ _ _ _ _ _; first | refine Bk Y Y Y ?_ | (refine Ar ?_; first | show AW _ _ _ _ _ _ | show ∃ x', _ < _ ∧ _)) | (show AW _ _ (.seq _ _) _ _ _; refine Ai ?_; intro Q1) | (show AW _ _ (.region _ _ false) _ _ _; refine Ad ?_; intro O1) | (show AW _ _ (.cond _ _ _) _ _ _; first | refine Ao Y ?_ | refine Ap Y ?_ | refine Ba Y (fun h => ?_) (fun h => ?_)) | (show AW _ _ (.skip) _ _ _; refine Aj ?_; first | show AW _ _ _ _ _ _ | show ∃ x', _ < _ ∧ _) | (show AW _ _ (.block _ _) _ _ _; refine Ae ?_; intro Q1) | (show AW _ _ (.exit _) _ _ _; refine Al ?_; first | show AW _ _ _ _ _ _ | show ∃ x', _ < _ ∧ _) | (show AW _ _ (.ret) _ _ _; refine Aw ?_; try dsimp only [Ax, Aa, A2, Af])
    | (show DL _ _ _ _ _ _ _; refine Bx Y Y (fun K kt kf => Am hG Y Y Y Y Y kt kf) (fun h => ?_) (fun h => ?_))
    | (show DL _ _ _ _ _ _ _; refine By Y Y Y ?_) | (show DL _ _ _ _ _ _ _; refine Be ?_; first | show AW _ _ _ _ _ _ | show ∃ x', _ < _ ∧ _) | (show AW _ _ (.region _ _ true) _ _ _; refine A3 mix (by kernel_rfl) ?_; intro O1) | fail)
      (refine Al ?_; show _ ∧ Knows _ _ ∧ _; exact ⟨rfl, (by repeat (first | exact .nil _ | refine .cons rfl ?_)), rfl⟩)
  intro a' hk
  show AW _ _ _ _ _ _
  refine aw_forget hk ?_
  dsimp only at hp
  rw [hI, hJ] at hp
  by_cases hIJ : I > J
  · rw [if_pos hIJ] at hp
    repeat' (first
    | ((first | (show AL _ _ _ _ _ _ _ _; refine Ag Y ?_) | (show DL _ _ _ _ _ _ _; refine' A8 Y Y (fun K kk => ?_) ?_; try (show Go.Ts.T; rotate_left))); (first
      | refine Aq hG Y Y ?_
      | refine A5 hG Y Y ?_
      | (show AOp _ _ ⟨_, .binOp .add _ _ _ _, _, _, _, _⟩ _ _ _; first | refine Ac hG Y Y Y Y Y (by omega) ?_ | refine Ac (m := 1) hG Y Y Y Y Y (by omega) ?_ | refine Ab hG Y Y Y Y Y (by omega) ?_)
      | (show AOp _ _ ⟨_, .binOp .sub _ _ _ _, _, _, _, _⟩ _ _ _; first | refine Av hG Y Y Y Y (by omega) ?_ | refine Av (m := 1) hG Y Y Y Y (by omega) ?_ | refine Ab hG Y Y Y Y Y (by omega) ?_)
      | (show AOp _ _ ⟨_, .binOp _ _ _ _ _, _, _, _, _⟩ _ _ _; first | refine At hG Y Y Y Y Y (by omega) ?_ | refine Au hG Y Y Y Y Y (by omega) ?_ | ((fail_if_success have := kk); refine Am hG Y Y Y Y Y (fun h => ?_) (fun h => ?_)))
      | (show AOp _ _ ⟨_, .load _ _, _, _, _, _⟩ _ _ _; first | refine Ak (α := Nat) 0 hG Y Y Y Y (by omega) Y ?_ | refine Ay hG Y Y Y ?_ | refine Bg 0 hG Y Y Y Y ?_)
      | (show AOp _ _ ⟨_, .indexAddr _ _ _, _, _, _, _⟩ _ _ _; first | refine A1 hG Y Y Y Y Y Y Y (by omega) ?_ | refine A0 hG Y Y Y Y Y Y Y (by omega) ?_ | refine Az hG Y Y Y Y Y Y Y (by omega) ?_ | refine A9 hG Y Y ?_)
      | refine A6 hG Y Y Y ?_
      | refine Bs hG Y Y Y ?_
      | (show AOp _ _ ⟨_, .store _ _ _, _, _, _, _⟩ _ _ _; first | refine Bc (α := Nat) 0 hG Y Y Y Ah Bb Y Y (by first | omega | (simp only [Array.size_setIfInBounds]; omega)) ?_ | refine Bv 0 hG Y Y Y Y Y Y Y ?_)
      | refine r_q hG Y Y Y ?_); try exact kk)
    | (show AL _ _ _ _ _ _ _ _; first | refine Bk Y Y Y ?_ | (refine Ar ?_; first | show AW _ _ _ _ _ _ | show ∃ x', _ < _ ∧ _)) | (show AW _ _ (.seq _ _) _ _ _; refine Ai ?_; intro Q1) | (show AW _ _ (.region _ _ false) _ _ _; (fail_if_success show AW _ _ (.region 8 _ _) _ _ _); refine Ad ?_; intro O1) | (show AW _ _ (.cond _ _ _) _ _ _; first | refine Ao Y ?_ | refine Ap Y ?_ | refine Ba Y (fun h => ?_) (fun h => ?_)) | (show AW _ _ (.skip) _ _ _; refine Aj ?_; first | show AW _ _ _ _ _ _ | show ∃ x', _ < _ ∧ _) | (show AW _ _ (.block _ _) _ _ _; refine Ae ?_; intro Q1) | (show AW _ _ (.exit _) _ _ _; refine Al ?_; first | show AW _ _ _ _ _ _ | show ∃ x', _ < _ ∧ _) | (show AW _ _ (.ret) _ _ _; refine Aw ?_; try dsimp only [Ax, Aa, A2, Af])
    | (show DL _ _ _ _ _ _ _; refine Bx Y Y (fun K kt kf => Am hG Y Y Y Y Y kt kf) (fun h => ?_) (fun h => ?_))
    | (show DL _ _ _ _ _ _ _; refine By Y Y Y ?_) | (show DL _ _ _ _ _ _ _; refine Be ?_; first | show AW _ _ _ _ _ _ | show ∃ x', _ < _ ∧ _) | (show AW _ _ (.region _ _ true) _ _ _; (fail_if_success show AW _ _ (.region 8 _ _) _ _ _); refine A3 mix (by kernel_rfl) ?_; intro O1) | fail)
    refine Co (m := 14) [13] [7, 11] (fun σ => ∃ c : Array Nat, c.size = n ∧ σ = ⟨[(i, .cells (rowT mT c))], [], off, none⟩) mix Y Y (by repeat (first | exact Sp.zero _ | apply Sp.succ)) ?_; intro O1 F1 Z1 Q2; repeat' (first
    | (refine' dq0_cons Y Y Y Y (fun σ hσ K kk => ?_) ?_; (try (show Go.Ts.T; rotate_left)); (obtain ⟨c, hcn, hcs⟩ := hσ; subst hcs); (first
      | refine Aq hG Y Y ?_
      | refine A5 hG Y Y ?_
      | (show AOp _ _ ⟨_, .binOp .add _ _ _ _, _, _, _, _⟩ _ _ _; first | refine Ac hG Y Y Y Y Y (by omega) ?_ | refine Ac (m := 1) hG Y Y Y Y Y (by omega) ?_ | refine Ab hG Y Y Y Y Y (by omega) ?_)
      | (show AOp _ _ ⟨_, .binOp .sub _ _ _ _, _, _, _, _⟩ _ _ _; first | refine Av hG Y Y Y Y (by omega) ?_ | refine Av (m := 1) hG Y Y Y Y (by omega) ?_ | refine Cg (m := 1) hG Y Y Y Y (by omega) ?_ | refine Ab hG Y Y Y Y Y (by omega) ?_)
      | (show AOp _ _ ⟨_, .binOp _ _ _ _ _, _, _, _, _⟩ _ _ _; first | refine At hG Y Y Y Y Y (by omega) ?_ | refine Au hG Y Y Y Y Y (by omega) ?_)
      | (show AOp _ _ ⟨_, .load _ _, _, _, _, _⟩ _ _ _; first | refine Ak (α := Nat) 0 hG Y Y Y Y (by omega) Y ?_ | refine Ak (α := Nat) 1 hG Y Y Y Y (by omega) Y ?_ | refine Ay hG Y Y Y ?_ | refine Bg 0 hG Y Y Y Y ?_)
      | (show AOp _ _ ⟨_, .indexAddr _ _ _, _, _, _, _⟩ _ _ _; first | refine A1 hG Y Y Y Y Y Y Y (by omega) ?_ | refine A0 hG Y Y Y Y Y Y Y (by omega) ?_ | refine Az hG Y Y Y Y Y Y Y (by omega) ?_ | refine A9 hG Y Y ?_)
      | refine A6 hG Y Y Y ?_
      | refine Bs hG Y Y Y ?_
      | (show AOp _ _ ⟨_, .store _ _ _, _, _, _, _⟩ _ _ _; first | refine Bc (α := Nat) 0 hG Y Y Y Ah Bb Y Y (by first | omega | (simp only [Array.size_setIfInBounds]; omega)) ?_ | refine Bc (α := Nat) 1 hG Y Y Y Ah Bb Y Y (by first | omega | (simp only [Array.size_setIfInBounds]; omega)) ?_ | refine Bv 0 hG Y Y Y Y Y Y Y ?_)
      | refine r_q hG Y Y Y ?_); exact kk)
    | (refine' Cn Y Y Y Y (fun K kk => ?_) ?_; (try (show Go.Ts.T; rotate_left)); (first | refine Ak 0 hG Y Y Y Y (by omega) Y ?_ | refine Ak 1 hG Y Y Y Y (by omega) Y ?_); exact kk)
    | refine dq0_e Y ?_ | (refine dq0_nil ?_; show EL _ _ _ _ _ _ _ _ _)
    | (refine Cf ⟨_, (by first | assumption | (simp only [Array.size_setIfInBounds]; omega)), Y⟩ Y Y Y (fun K ke => ?_); (first | refine Bc (α := Nat) 0 hG Y Y Y Ah Bb Y Y (by first | omega | (simp only [Array.size_setIfInBounds]; omega)) ?_ | refine Bc (α := Nat) 1 hG Y Y Y Ah Bb Y Y (by first | omega | (simp only [Array.size_setIfInBounds]; omega)) ?_); refine ke (.tup []) _ ?_)
    | (refine el_nil ⟨_, (by first | assumption | (simp only [Array.size_setIfInBounds]; omega)), Y⟩ ?_; show AL _ _ _ _ _ _ _ _) | fail)
    repeat' (first
    | ((first | (show AL _ _ _ _ _ _ _ _; refine Ag Y ?_) | (show DL _ _ _ _ _ _ _; refine' A8 Y Y (fun K kk => ?_) ?_; try (show Go.Ts.T; rotate_left))); (first
      | refine Aq hG Y Y ?_
      | refine A5 hG Y Y ?_
      | (show AOp _ _ ⟨_, .binOp .add _ _ _ _, _, _, _, _⟩ _ _ _; first | refine Ac hG Y Y Y Y Y (by omega) ?_ | refine Ac (m := 1) hG Y Y Y Y Y (by omega) ?_ | refine Ab hG Y Y Y Y Y (by omega) ?_)
      | (show AOp _ _ ⟨_, .binOp .sub _ _ _ _, _, _, _, _⟩ _ _ _; first | refine Av hG Y Y Y Y (by omega) ?_ | refine Av (m := 1) hG Y Y Y Y (by omega) ?_ | refine Ab hG Y Y Y Y Y (by omega) ?_)
      | (show AOp _ _ ⟨_, .binOp _ _ _ _ _, _, _, _, _⟩ _ _ _; first | refine At hG Y Y Y Y Y (by omega) ?_ | refine Au hG Y Y Y Y Y (by omega) ?_ | ((fail_if_success have := kk); refine Am hG Y Y Y Y Y (fun h => ?_) (fun h => ?_)))
      | (show AOp _ _ ⟨_, .load _ _, _, _, _, _⟩ _ _ _; first | refine Ak (α := Nat) 0 hG Y Y Y Y (by omega) Y ?_ | refine Ay hG Y Y Y ?_ | refine Bg 0 hG Y Y Y Y ?_)
      | (show AOp _ _ ⟨_, .indexAddr _ _ _, _, _, _, _⟩ _ _ _; first | refine A1 hG Y Y Y Y Y Y Y (by omega) ?_ | refine A0 hG Y Y Y Y Y Y Y (by omega) ?_ | refine Az hG Y Y Y Y Y Y Y (by omega) ?_ | refine A9 hG Y Y ?_)
      | refine A6 hG Y Y Y ?_
      | refine Bs hG Y Y Y ?_
      | (show AOp _ _ ⟨_, .store _ _ _, _, _, _, _⟩ _ _ _; first | refine Bc (α := Nat) 0 hG Y Y Y Ah Bb Y Y (by first | omega | (simp only [Array.size_setIfInBounds]; omega)) ?_ | refine Bv 0 hG Y Y Y Y Y Y Y ?_)
      | refine r_q hG Y Y Y ?_); try exact kk)
    | (show AL _ _ _ _ _ _ _ _; first | refine Bk Y Y Y ?_ | (refine Ar ?_; first | show AW _ _ _ _ _ _ | show ∃ x', _ < _ ∧ _)) | (show AW _ _ (.seq _ _) _ _ _; refine Ai ?_; intro Q1) | (show AW _ _ (.region _ _ false) _ _ _; refine Ad ?_; intro O1) | (show AW _ _ (.cond _ _ _) _ _ _; first | refine Ao Y ?_ | refine Ap Y ?_ | refine Ba Y (fun h => ?_) (fun h => ?_)) | (show AW _ _ (.skip) _ _ _; refine Aj ?_; first | show AW _ _ _ _ _ _ | show ∃ x', _ < _ ∧ _) | (show AW _ _ (.block _ _) _ _ _; refine Ae ?_; intro Q1) | (show AW _ _ (.exit _) _ _ _; refine Al ?_; first | show AW _ _ _ _ _ _ | show ∃ x', _ < _ ∧ _) | (show AW _ _ (.ret) _ _ _; refine Aw ?_; try dsimp only [Ax, Aa, A2, Af])
    | (show DL _ _ _ _ _ _ _; refine Bx Y Y (fun K kt kf => Am hG Y Y Y Y Y kt kf) (fun h => ?_) (fun h => ?_))
    | (show DL _ _ _ _ _ _ _; refine By Y Y Y ?_) | (show DL _ _ _ _ _ _ _; refine Be ?_; first | show AW _ _ _ _ _ _ | show ∃ x', _ < _ ∧ _) | (show AW _ _ (.region _ _ true) _ _ _; refine A3 mix (by kernel_rfl) ?_; intro O1) | fail)
    dsimp (config := { zetaDelta := true }) only [Ax, Aa]
    rw [hp]
    refine ret_row 0 (Bm rfl (Bm rfl Bl)) ?_ (.refl _) ?_ <;> rfl
  · rw [if_neg hIJ] at hp
    repeat' (first
    | ((first | (show AL _ _ _ _ _ _ _ _; refine Ag Y ?_) | (show DL _ _ _ _ _ _ _; refine' A8 Y Y (fun K kk => ?_) ?_; try (show Go.Ts.T; rotate_left))); (first
      | refine Aq hG Y Y ?_
      | refine A5 hG Y Y ?_
      | (show AOp _ _ ⟨_, .binOp .add _ _ _ _, _, _, _, _⟩ _ _ _; first | refine Ac hG Y Y Y Y Y (by omega) ?_ | refine Ac (m := 1) hG Y Y Y Y Y (by omega) ?_ | refine Ab hG Y Y Y Y Y (by omega) ?_)
      | (show AOp _ _ ⟨_, .binOp .sub _ _ _ _, _, _, _, _⟩ _ _ _; first | refine Av hG Y Y Y Y (by omega) ?_ | refine Av (m := 1) hG Y Y Y Y (by omega) ?_ | refine Ab hG Y Y Y Y Y (by omega) ?_)
      | (show AOp _ _ ⟨_, .binOp _ _ _ _ _, _, _, _, _⟩ _ _ _; first | refine At hG Y Y Y Y Y (by omega) ?_ | refine Au hG Y Y Y Y Y (by omega) ?_ | ((fail_if_success have := kk); refine Am hG Y Y Y Y Y (fun h => ?_) (fun h => ?_)))
      | (show AOp _ _ ⟨_, .load _ _, _, _, _, _⟩ _ _ _; first | refine Ak (α := Nat) 0 hG Y Y Y Y (by omega) Y ?_ | refine Ay hG Y Y Y ?_ | refine Bg 0 hG Y Y Y Y ?_)
      | (show AOp _ _ ⟨_, .indexAddr _ _ _, _, _, _, _⟩ _ _ _; first | refine A1 hG Y Y Y Y Y Y Y (by omega) ?_ | refine A0 hG Y Y Y Y Y Y Y (by omega) ?_ | refine Az hG Y Y Y Y Y Y Y (by omega) ?_ | refine A9 hG Y Y ?_)
      | refine A6 hG Y Y Y ?_
      | refine Bs hG Y Y Y ?_
      | (show AOp _ _ ⟨_, .store _ _ _, _, _, _, _⟩ _ _ _; first | refine Bc (α := Nat) 0 hG Y Y Y Ah Bb Y Y (by first | omega | (simp only [Array.size_setIfInBounds]; omega)) ?_ | refine Bv 0 hG Y Y Y Y Y Y Y ?_)
      | refine r_q hG Y Y Y ?_); try exact kk)
    | (show AL _ _ _ _ _ _ _ _; first | refine Bk Y Y Y ?_ | (refine Ar ?_; first | show AW _ _ _ _ _ _ | show ∃ x', _ < _ ∧ _)) | (show AW _ _ (.seq _ _) _ _ _; refine Ai ?_; intro Q1) | (show AW _ _ (.region _ _ false) _ _ _; (fail_if_success show AW _ _ (.region 10 _ _) _ _ _); refine Ad ?_; intro O1) | (show AW _ _ (.cond _ _ _) _ _ _; first | refine Ao Y ?_ | refine Ap Y ?_ | refine Ba Y (fun h => ?_) (fun h => ?_)) | (show AW _ _ (.skip) _ _ _; refine Aj ?_; first | show AW _ _ _ _ _ _ | show ∃ x', _ < _ ∧ _) | (show AW _ _ (.block _ _) _ _ _; refine Ae ?_; intro Q1) | (show AW _ _ (.exit _) _ _ _; refine Al ?_; first | show AW _ _ _ _ _ _ | show ∃ x', _ < _ ∧ _) | (show AW _ _ (.ret) _ _ _; refine Aw ?_; try dsimp only [Ax, Aa, A2, Af])
    | (show DL _ _ _ _ _ _ _; refine Bx Y Y (fun K kt kf => Am hG Y Y Y Y Y kt kf) (fun h => ?_) (fun h => ?_))
    | (show DL _ _ _ _ _ _ _; refine By Y Y Y ?_) | (show DL _ _ _ _ _ _ _; refine Be ?_; first | show AW _ _ _ _ _ _ | show ∃ x', _ < _ ∧ _) | (show AW _ _ (.region _ _ true) _ _ _; (fail_if_success show AW _ _ (.region 10 _ _) _ _ _); refine A3 mix (by kernel_rfl) ?_; intro O1) | fail)
    refine Co (m := 14) [13] [7, 11] (fun σ => ∃ c : Array Nat, c.size = n ∧ σ = ⟨[(i, .cells (rowT mT c))], [], off, none⟩) mix Y Y (by repeat (first | exact Sp.zero _ | apply Sp.succ)) ?_; intro O1 F1 Z1 Q2; repeat' (first
    | (refine' dq0_cons Y Y Y Y (fun σ hσ K kk => ?_) ?_; (try (show Go.Ts.T; rotate_left)); (obtain ⟨c, hcn, hcs⟩ := hσ; subst hcs); (first
      | refine Aq hG Y Y ?_
      | refine A5 hG Y Y ?_
      | (show AOp _ _ ⟨_, .binOp .add _ _ _ _, _, _, _, _⟩ _ _ _; first | refine Ac hG Y Y Y Y Y (by omega) ?_ | refine Ac (m := 1) hG Y Y Y Y Y (by omega) ?_ | refine Ab hG Y Y Y Y Y (by omega) ?_)
      | (show AOp _ _ ⟨_, .binOp .sub _ _ _ _, _, _, _, _⟩ _ _ _; first | refine Av hG Y Y Y Y (by omega) ?_ | refine Av (m := 1) hG Y Y Y Y (by omega) ?_ | refine Cg (m := 1) hG Y Y Y Y (by omega) ?_ | refine Ab hG Y Y Y Y Y (by omega) ?_)
      | (show AOp _ _ ⟨_, .binOp _ _ _ _ _, _, _, _, _⟩ _ _ _; first | refine At hG Y Y Y Y Y (by omega) ?_ | refine Au hG Y Y Y Y Y (by omega) ?_)
      | (show AOp _ _ ⟨_, .load _ _, _, _, _, _⟩ _ _ _; first | refine Ak (α := Nat) 0 hG Y Y Y Y (by omega) Y ?_ | refine Ak (α := Nat) 1 hG Y Y Y Y (by omega) Y ?_ | refine Ay hG Y Y Y ?_ | refine Bg 0 hG Y Y Y Y ?_)
      | (show AOp _ _ ⟨_, .indexAddr _ _ _, _, _, _, _⟩ _ _ _; first | refine A1 hG Y Y Y Y Y Y Y (by omega) ?_ | refine A0 hG Y Y Y Y Y Y Y (by omega) ?_ | refine Az hG Y Y Y Y Y Y Y (by omega) ?_ | refine A9 hG Y Y ?_)
      | refine A6 hG Y Y Y ?_
      | refine Bs hG Y Y Y ?_
      | (show AOp _ _ ⟨_, .store _ _ _, _, _, _, _⟩ _ _ _; first | refine Bc (α := Nat) 0 hG Y Y Y Ah Bb Y Y (by first | omega | (simp only [Array.size_setIfInBounds]; omega)) ?_ | refine Bc (α := Nat) 1 hG Y Y Y Ah Bb Y Y (by first | omega | (simp only [Array.size_setIfInBounds]; omega)) ?_ | refine Bv 0 hG Y Y Y Y Y Y Y ?_)
      | refine r_q hG Y Y Y ?_); exact kk)
    | (refine' Cn Y Y Y Y (fun K kk => ?_) ?_; (try (show Go.Ts.T; rotate_left)); (first | refine Ak 0 hG Y Y Y Y (by omega) Y ?_ | refine Ak 1 hG Y Y Y Y (by omega) Y ?_); exact kk)
    | refine dq0_e Y ?_ | (refine dq0_nil ?_; show EL _ _ _ _ _ _ _ _ _)
    | (refine Cf ⟨_, (by first | assumption | (simp only [Array.size_setIfInBounds]; omega)), Y⟩ Y Y Y (fun K ke => ?_); (first | refine Bc (α := Nat) 0 hG Y Y Y Ah Bb Y Y (by first | omega | (simp only [Array.size_setIfInBounds]; omega)) ?_ | refine Bc (α := Nat) 1 hG Y Y Y Ah Bb Y Y (by first | omega | (simp only [Array.size_setIfInBounds]; omega)) ?_); refine ke (.tup []) _ ?_)
    | (refine el_nil ⟨_, (by first | assumption | (simp only [Array.size_setIfInBounds]; omega)), Y⟩ ?_; show AL _ _ _ _ _ _ _ _) | fail)
    repeat' (first
    | ((first | (show AL _ _ _ _ _ _ _ _; refine Ag Y ?_) | (show DL _ _ _ _ _ _ _; refine' A8 Y Y (fun K kk => ?_) ?_; try (show Go.Ts.T; rotate_left))); (first
      | refine Aq hG Y Y ?_
      | refine A5 hG Y Y ?_
      | (show AOp _ _ ⟨_, .binOp .add _ _ _ _, _, _, _, _⟩ _ _ _; first | refine Ac hG Y Y Y Y Y (by omega) ?_ | refine Ac (m := 1) hG Y Y Y Y Y (by omega) ?_ | refine Ab hG Y Y Y Y Y (by omega) ?_)
      | (show AOp _ _ ⟨_, .binOp .sub _ _ _ _, _, _, _, _⟩ _ _ _; first | refine Av hG Y Y Y Y (by omega) ?_ | refine Av (m := 1) hG Y Y Y Y (by omega) ?_ | refine Ab hG Y Y Y Y Y (by omega) ?_)
      | (show AOp _ _ ⟨_, .binOp _ _ _ _ _, _, _, _, _⟩ _ _ _; first | refine At hG Y Y Y Y Y (by omega) ?_ | refine Au hG Y Y Y Y Y (by omega) ?_ | ((fail_if_success have := kk); refine Am hG Y Y Y Y Y (fun h => ?_) (fun h => ?_)))
      | (show AOp _ _ ⟨_, .load _ _, _, _, _, _⟩ _ _ _; first | refine Ak (α := Nat) 0 hG Y Y Y Y (by omega) Y ?_ | refine Ay hG Y Y Y ?_ | refine Bg 0 hG Y Y Y Y ?_)
      | (show AOp _ _ ⟨_, .indexAddr _ _ _, _, _, _, _⟩ _ _ _; first | refine A1 hG Y Y Y Y Y Y Y (by omega) ?_ | refine A0 hG Y Y Y Y Y Y Y (by omega) ?_ | refine Az hG Y Y Y Y Y Y Y (by omega) ?_ | refine A9 hG Y Y ?_)
      | refine A6 hG Y Y Y ?_
      | refine Bs hG Y Y Y ?_
      | (show AOp _ _ ⟨_, .store _ _ _, _, _, _, _⟩ _ _ _; first | refine Bc (α := Nat) 0 hG Y Y Y Ah Bb Y Y (by first | omega | (simp only [Array.size_setIfInBounds]; omega)) ?_ | refine Bv 0 hG Y Y Y Y Y Y Y ?_)
      | refine r_q hG Y Y Y ?_); try exact kk)
    | (show AL _ _ _ _ _ _ _ _; first | refine Bk Y Y Y ?_ | (refine Ar ?_; first | show AW _ _ _ _ _ _ | show ∃ x', _ < _ ∧ _)) | (show AW _ _ (.seq _ _) _ _ _; refine Ai ?_; intro Q1) | (show AW _ _ (.region _ _ false) _ _ _; refine Ad ?_; intro O1) | (show AW _ _ (.cond _ _ _) _ _ _; first | refine Ao Y ?_ | refine Ap Y ?_ | refine Ba Y (fun h => ?_) (fun h => ?_)) | (show AW _ _ (.skip) _ _ _; refine Aj ?_; first | show AW _ _ _ _ _ _ | show ∃ x', _ < _ ∧ _) | (show AW _ _ (.block _ _) _ _ _; refine Ae ?_; intro Q1) | (show AW _ _ (.exit _) _ _ _; refine Al ?_; first | show AW _ _ _ _ _ _ | show ∃ x', _ < _ ∧ _) | (show AW _ _ (.ret) _ _ _; refine Aw ?_; try dsimp only [Ax, Aa, A2, Af])
    | (show DL _ _ _ _ _ _ _; refine Bx Y Y (fun K kt kf => Am hG Y Y Y Y Y kt kf) (fun h => ?_) (fun h => ?_))
    | (show DL _ _ _ _ _ _ _; refine By Y Y Y ?_) | (show DL _ _ _ _ _ _ _; refine Be ?_; first | show AW _ _ _ _ _ _ | show ∃ x', _ < _ ∧ _) | (show AW _ _ (.region _ _ true) _ _ _; refine A3 mix (by kernel_rfl) ?_; intro O1) | fail)
    obtain ⟨R, hR⟩ : ∃ R, partLoop ltQ a (I + 1) (J - 1) (swp d I J) = R := ⟨_, rfl⟩
    rw [hR] at hp
    refine Ch (X := PlX a b n R) (fun x => [(0, .aref 1 i 0 n cap), (1, .int .i64 (a : Int)), (10, .int .i64 (x.i : Int)), (11, .int .i64 (x.j : Int))]) (fun x => ⟨[(i, .cells (rowT mT x.d))], [], off, none⟩) (fun x => x.j + 1 - x.i) ⟨I + 1, J - 1, swp d I J, by rw [size_swp]; exact hdn, by omega, hR⟩ (by repeat (first | exact .nil _ | refine .cons rfl ?_)) (.refl _) ?_
    clear hk a' hI hJ gI kI gJ hIJ hR
    rintro ⟨i1, j1, e, hen, hij, hr⟩
    dsimp only at hr ⊢
    rw [partLoop_eq] at hr
    repeat' (first
    | ((first | (show AL _ _ _ _ _ _ _ _; refine Ag Y ?_) | (show DL _ _ _ _ _ _ _; refine' A8 Y Y (fun K kk => ?_) ?_; try (show Go.Ts.T; rotate_left))); (first
      | refine Aq hG Y Y ?_
      | refine A5 hG Y Y ?_
      | (show AOp _ _ ⟨_, .binOp .add _ _ _ _, _, _, _, _⟩ _ _ _; first | refine Ac hG Y Y Y Y Y (by omega) ?_ | refine Ac (m := 1) hG Y Y Y Y Y (by omega) ?_ | refine Ab hG Y Y Y Y Y (by omega) ?_)
      | (show AOp _ _ ⟨_, .binOp .sub _ _ _ _, _, _, _, _⟩ _ _ _; first | refine Av hG Y Y Y Y (by omega) ?_ | refine Av (m := 1) hG Y Y Y Y (by omega) ?_ | refine Ab hG Y Y Y Y Y (by omega) ?_)
      | (show AOp _ _ ⟨_, .binOp _ _ _ _ _, _, _, _, _⟩ _ _ _; first | refine At hG Y Y Y Y Y (by omega) ?_ | refine Au hG Y Y Y Y Y (by omega) ?_ | ((fail_if_success have := kk); refine Am hG Y Y Y Y Y (fun h => ?_) (fun h => ?_)))
      | (show AOp _ _ ⟨_, .load _ _, _, _, _, _⟩ _ _ _; first | refine Ak (α := Nat) 0 hG Y Y Y Y (by omega) Y ?_ | refine Ay hG Y Y Y ?_ | refine Bg 0 hG Y Y Y Y ?_)
      | (show AOp _ _ ⟨_, .indexAddr _ _ _, _, _, _, _⟩ _ _ _; first | refine A1 hG Y Y Y Y Y Y Y (by omega) ?_ | refine A0 hG Y Y Y Y Y Y Y (by omega) ?_ | refine Az hG Y Y Y Y Y Y Y (by omega) ?_ | refine A9 hG Y Y ?_)
      | refine A6 hG Y Y Y ?_
      | refine Bs hG Y Y Y ?_
      | (show AOp _ _ ⟨_, .store _ _ _, _, _, _, _⟩ _ _ _; first | refine Bc (α := Nat) 0 hG Y Y Y Ah Bb Y Y (by first | omega | (simp only [Array.size_setIfInBounds]; omega)) ?_ | refine Bv 0 hG Y Y Y Y Y Y Y ?_)
      | refine r_q hG Y Y Y ?_); try exact kk)
    | (show AL _ _ _ _ _ _ _ _; first | refine Bk Y Y Y ?_ | (refine Ar ?_; first | show AW _ _ _ _ _ _ | show ∃ x', _ < _ ∧ _)) | (show AW _ _ (.seq _ _) _ _ _; refine Ai ?_; intro Q1) | (show AW _ _ (.region _ _ false) _ _ _; refine Ad ?_; intro O1) | (show AW _ _ (.cond _ _ _) _ _ _; first | refine Ao Y ?_ | refine Ap Y ?_ | refine Ba Y (fun h => ?_) (fun h => ?_)) | (show AW _ _ (.skip) _ _ _; refine Aj ?_; first | show AW _ _ _ _ _ _ | show ∃ x', _ < _ ∧ _) | (show AW _ _ (.block _ _) _ _ _; refine Ae ?_; intro Q1) | (show AW _ _ (.exit _) _ _ _; refine Al ?_; first | show AW _ _ _ _ _ _ | show ∃ x', _ < _ ∧ _) | (show AW _ _ (.ret) _ _ _; refine Aw ?_; try dsimp only [Ax, Aa, A2, Af])
    | (show DL _ _ _ _ _ _ _; refine Bx Y Y (fun K kt kf => Am hG Y Y Y Y Y kt kf) (fun h => ?_) (fun h => ?_))
    | (show DL _ _ _ _ _ _ _; refine By Y Y Y ?_) | (show DL _ _ _ _ _ _ _; refine Be ?_; first | show AW _ _ _ _ _ _ | show ∃ x', _ < _ ∧ _) | (show AW _ _ (.region _ _ true) _ _ _; refine A3 mix (by kernel_rfl) ?_; intro O1) | fail)
    obtain ⟨I1, hI1⟩ : ∃ I, scanUp (fun x => ltQ x e[a]!) e (j1) (i1) = I := ⟨_, rfl⟩
    obtain ⟨J1, hJ1⟩ : ∃ J, scanDown (fun x => !ltQ x e[a]!) e I1 (j1) = J := ⟨_, rfl⟩
    have gI1 : i1 ≤ I1 := by rw [← hI1]; exact scanUp_ge _ _ _ _
    have kI1 : I1 ≤ n := by rw [← hI1]; exact up_le _ _ _ _ (by omega) _ _ (Nat.le_refl _) (by omega)
    have gJ1 : J1 ≤ j1 := by rw [← hJ1]; exact scanDown_le _ _ _ _
    refine aw_loop_to 6 (X := UpX (fun x => ltQ x e[a]!) e j1 I1 i1 n) (fun x => [(0, .aref 1 i 0 n cap), (1, .int .i64 ((a : Nat) : Int)), (10, .int .i64 ((x.p : Nat) : Int)), (11, .int .i64 ((j1 : Nat) : Int))]) (fun _ => ⟨[(i, .cells (rowT mT e))], [], off, none⟩) (fun x => j1 + 1 - x.p) ⟨i1, by omega, hI1⟩ (by repeat (first | exact .nil _ | refine .cons rfl ?_)) (.refl _) [(0, .aref 1 i 0 n cap), (1, .int .i64 ((a : Nat) : Int)), (10, .int .i64 ((I1 : Nat) : Int)), (11, .int .i64 ((j1 : Nat) : Int))] (⟨[(i, .cells (rowT mT e))], [], off, none⟩) ?_ ?_
    · rintro ⟨p, hp, hr⟩
      dsimp only at hr ⊢
      by_cases hpJ : p ≤ j1
      · repeat' (first
    | ((first | (show AL _ _ _ _ _ _ _ _; refine Ag Y ?_) | (show DL _ _ _ _ _ _ _; refine' A8 Y Y (fun K kk => ?_) ?_; try (show Go.Ts.T; rotate_left))); (first
      | refine Aq hG Y Y ?_
      | refine A5 hG Y Y ?_
      | (show AOp _ _ ⟨_, .binOp .add _ _ _ _, _, _, _, _⟩ _ _ _; first | refine Ac hG Y Y Y Y Y (by omega) ?_ | refine Ac (m := 1) hG Y Y Y Y Y (by omega) ?_ | refine Ab hG Y Y Y Y Y (by omega) ?_)
      | (show AOp _ _ ⟨_, .binOp .sub _ _ _ _, _, _, _, _⟩ _ _ _; first | refine Av hG Y Y Y Y (by omega) ?_ | refine Av (m := 1) hG Y Y Y Y (by omega) ?_ | refine Ab hG Y Y Y Y Y (by omega) ?_)
      | (show AOp _ _ ⟨_, .binOp _ _ _ _ _, _, _, _, _⟩ _ _ _; first | refine At hG Y Y Y Y Y (by omega) ?_ | refine Au hG Y Y Y Y Y (by omega) ?_ | ((fail_if_success have := kk); refine Am hG Y Y Y Y Y (fun h => ?_) (fun h => ?_)))
      | (show AOp _ _ ⟨_, .load _ _, _, _, _, _⟩ _ _ _; first | refine Ak (α := Nat) 0 hG Y Y Y Y (by omega) Y ?_ | refine Ay hG Y Y Y ?_ | refine Bg 0 hG Y Y Y Y ?_)
      | (show AOp _ _ ⟨_, .indexAddr _ _ _, _, _, _, _⟩ _ _ _; first | refine A1 hG Y Y Y Y Y Y Y (by omega) ?_ | refine A0 hG Y Y Y Y Y Y Y (by omega) ?_ | refine Az hG Y Y Y Y Y Y Y (by omega) ?_ | refine A9 hG Y Y ?_)
      | refine A6 hG Y Y Y ?_
      | refine Bs hG Y Y Y ?_
      | (show AOp _ _ ⟨_, .store _ _ _, _, _, _, _⟩ _ _ _; first | refine Bc (α := Nat) 0 hG Y Y Y Ah Bb Y Y (by first | omega | (simp only [Array.size_setIfInBounds]; omega)) ?_ | refine Bv 0 hG Y Y Y Y Y Y Y ?_)
      | (show AOp _ _ ⟨_, .call ⟨.value _, _, _⟩, _, _, _, _⟩ _ _ _; first | refine Bn Y Y Y Y Y (by first | (apply Cr <;> (first | assumption | omega | exact A4 _ _ | exact Bd _ | exact A7 _ _ | exact Bi _ | rfl | (simp; omega))) | fail) ?_ | fail)
      | refine r_q hG Y Y Y ?_); try exact kk)
    | (show AL _ _ _ _ _ _ _ _; first | refine Bk Y Y Y ?_ | (refine Ar ?_; first | show AW _ _ _ _ _ _ | show ∃ x', _ < _ ∧ _)) | (show AW _ _ (.seq _ _) _ _ _; refine Ai ?_; intro Q1) | (show AW _ _ (.region _ _ false) _ _ _; refine Ad ?_; intro O1) | (show AW _ _ (.cond _ _ _) _ _ _; first | refine Ao Y ?_ | refine Ap Y ?_ | refine Ba Y (fun h => ?_) (fun h => ?_)) | (show AW _ _ (.skip) _ _ _; refine Aj ?_; first | show AW _ _ _ _ _ _ | show ∃ x', _ < _ ∧ _) | (show AW _ _ (.block _ _) _ _ _; refine Ae ?_; intro Q1) | (show AW _ _ (.exit _) _ _ _; refine Al ?_; first | show AW _ _ _ _ _ _ | show ∃ x', _ < _ ∧ _) | (show AW _ _ (.ret) _ _ _; refine Aw ?_; try dsimp only [Ax, Aa, A2, Af])
    | (show DL _ _ _ _ _ _ _; refine Bx Y Y (fun K kt kf => Am hG Y Y Y Y Y kt kf) (fun h => ?_) (fun h => ?_))
    | (show DL _ _ _ _ _ _ _; refine By Y Y Y ?_) | (show DL _ _ _ _ _ _ _; refine Be ?_; first | show AW _ _ _ _ _ _ | show ∃ x', _ < _ ∧ _) | (show AW _ _ (.region _ _ true) _ _ _; refine A3 mix (by kernel_rfl) ?_; intro O1) | fail)
        · rw [scanUp, if_pos (by simp [hpJ]; simpa using h)] at hr
          exact ⟨⟨p + 1, by omega, hr⟩, by dsimp only; omega, (by repeat (first | exact .nil _ | refine .cons rfl ?_)), .refl _⟩
        · rw [scanUp, if_neg (by simp [hpJ]; simpa using h)] at hr
          subst hr
          (refine Al ?_; show _ ∧ Knows _ _ ∧ _; exact ⟨rfl, (by repeat (first | exact .nil _ | refine .cons rfl ?_)), rfl⟩)
      · rw [scanUp, if_neg (by simp [hpJ])] at hr
        subst hr
        repeat' (first
    | ((first | (show AL _ _ _ _ _ _ _ _; refine Ag Y ?_) | (show DL _ _ _ _ _ _ _; refine' A8 Y Y (fun K kk => ?_) ?_; try (show Go.Ts.T; rotate_left))); (first
      | refine Aq hG Y Y ?_
      | refine A5 hG Y Y ?_
      | (show AOp _ _ ⟨_, .binOp .add _ _ _ _, _, _, _, _⟩ _ _ _; first | refine Ac hG Y Y Y Y Y (by omega) ?_ | refine Ac (m := 1) hG Y Y Y Y Y (by omega) ?_ | refine Ab hG Y Y Y Y Y (by omega) ?_)
      | (show AOp _ _ ⟨_, .binOp .sub _ _ _ _, _, _, _, _⟩ _ _ _; first | refine Av hG Y Y Y Y (by omega) ?_ | refine Av (m := 1) hG Y Y Y Y (by omega) ?_ | refine Ab hG Y Y Y Y Y (by omega) ?_)
      | (show AOp _ _ ⟨_, .binOp _ _ _ _ _, _, _, _, _⟩ _ _ _; first | refine At hG Y Y Y Y Y (by omega) ?_ | refine Au hG Y Y Y Y Y (by omega) ?_ | ((fail_if_success have := kk); refine Am hG Y Y Y Y Y (fun h => ?_) (fun h => ?_)))
      | (show AOp _ _ ⟨_, .load _ _, _, _, _, _⟩ _ _ _; first | refine Ak (α := Nat) 0 hG Y Y Y Y (by omega) Y ?_ | refine Ay hG Y Y Y ?_ | refine Bg 0 hG Y Y Y Y ?_)
      | (show AOp _ _ ⟨_, .indexAddr _ _ _, _, _, _, _⟩ _ _ _; first | refine A1 hG Y Y Y Y Y Y Y (by omega) ?_ | refine A0 hG Y Y Y Y Y Y Y (by omega) ?_ | refine Az hG Y Y Y Y Y Y Y (by omega) ?_ | refine A9 hG Y Y ?_)
      | refine A6 hG Y Y Y ?_
      | refine Bs hG Y Y Y ?_
      | (show AOp _ _ ⟨_, .store _ _ _, _, _, _, _⟩ _ _ _; first | refine Bc (α := Nat) 0 hG Y Y Y Ah Bb Y Y (by first | omega | (simp only [Array.size_setIfInBounds]; omega)) ?_ | refine Bv 0 hG Y Y Y Y Y Y Y ?_)
      | (show AOp _ _ ⟨_, .call ⟨.value _, _, _⟩, _, _, _, _⟩ _ _ _; first | refine Bn Y Y Y Y Y (by first | (apply Cr <;> (first | assumption | omega | exact A4 _ _ | exact Bd _ | exact A7 _ _ | exact Bi _ | rfl | (simp; omega))) | fail) ?_ | fail)
      | refine r_q hG Y Y Y ?_); try exact kk)
    | (show AL _ _ _ _ _ _ _ _; first | refine Bk Y Y Y ?_ | (refine Ar ?_; first | show AW _ _ _ _ _ _ | show ∃ x', _ < _ ∧ _)) | (show AW _ _ (.seq _ _) _ _ _; refine Ai ?_; intro Q1) | (show AW _ _ (.region _ _ false) _ _ _; refine Ad ?_; intro O1) | (show AW _ _ (.cond _ _ _) _ _ _; first | refine Ao Y ?_ | refine Ap Y ?_ | refine Ba Y (fun h => ?_) (fun h => ?_)) | (show AW _ _ (.skip) _ _ _; refine Aj ?_; first | show AW _ _ _ _ _ _ | show ∃ x', _ < _ ∧ _) | (show AW _ _ (.block _ _) _ _ _; refine Ae ?_; intro Q1) | (show AW _ _ (.exit _) _ _ _; refine Al ?_; first | show AW _ _ _ _ _ _ | show ∃ x', _ < _ ∧ _) | (show AW _ _ (.ret) _ _ _; refine Aw ?_; try dsimp only [Ax, Aa, A2, Af])
    | (show DL _ _ _ _ _ _ _; refine Bx Y Y (fun K kt kf => Am hG Y Y Y Y Y kt kf) (fun h => ?_) (fun h => ?_))
    | (show DL _ _ _ _ _ _ _; refine By Y Y Y ?_) | (show DL _ _ _ _ _ _ _; refine Be ?_; first | show AW _ _ _ _ _ _ | show ∃ x', _ < _ ∧ _) | (show AW _ _ (.region _ _ true) _ _ _; refine A3 mix (by kernel_rfl) ?_; intro O1) | fail)
        (refine Al ?_; show _ ∧ Knows _ _ ∧ _; exact ⟨rfl, (by repeat (first | exact .nil _ | refine .cons rfl ?_)), rfl⟩)
    intro a' hk
    show AW _ _ _ _ _ _
    refine aw_forget hk ?_
    repeat' (first
    | ((first | (show AL _ _ _ _ _ _ _ _; refine Ag Y ?_) | (show DL _ _ _ _ _ _ _; refine' A8 Y Y (fun K kk => ?_) ?_; try (show Go.Ts.T; rotate_left))); (first
      | refine Aq hG Y Y ?_
      | refine A5 hG Y Y ?_
      | (show AOp _ _ ⟨_, .binOp .add _ _ _ _, _, _, _, _⟩ _ _ _; first | refine Ac hG Y Y Y Y Y (by omega) ?_ | refine Ac (m := 1) hG Y Y Y Y Y (by omega) ?_ | refine Ab hG Y Y Y Y Y (by omega) ?_)
      | (show AOp _ _ ⟨_, .binOp .sub _ _ _ _, _, _, _, _⟩ _ _ _; first | refine Av hG Y Y Y Y (by omega) ?_ | refine Av (m := 1) hG Y Y Y Y (by omega) ?_ | refine Ab hG Y Y Y Y Y (by omega) ?_)
      | (show AOp _ _ ⟨_, .binOp _ _ _ _ _, _, _, _, _⟩ _ _ _; first | refine At hG Y Y Y Y Y (by omega) ?_ | refine Au hG Y Y Y Y Y (by omega) ?_ | ((fail_if_success have := kk); refine Am hG Y Y Y Y Y (fun h => ?_) (fun h => ?_)))
      | (show AOp _ _ ⟨_, .load _ _, _, _, _, _⟩ _ _ _; first | refine Ak (α := Nat) 0 hG Y Y Y Y (by omega) Y ?_ | refine Ay hG Y Y Y ?_ | refine Bg 0 hG Y Y Y Y ?_)
      | (show AOp _ _ ⟨_, .indexAddr _ _ _, _, _, _, _⟩ _ _ _; first | refine A1 hG Y Y Y Y Y Y Y (by omega) ?_ | refine A0 hG Y Y Y Y Y Y Y (by omega) ?_ | refine Az hG Y Y Y Y Y Y Y (by omega) ?_ | refine A9 hG Y Y ?_)
      | refine A6 hG Y Y Y ?_
      | refine Bs hG Y Y Y ?_
      | (show AOp _ _ ⟨_, .store _ _ _, _, _, _, _⟩ _ _ _; first | refine Bc (α := Nat) 0 hG Y Y Y Ah Bb Y Y (by first | omega | (simp only [Array.size_setIfInBounds]; omega)) ?_ | refine Bv 0 hG Y Y Y Y Y Y Y ?_)
      | refine r_q hG Y Y Y ?_); try exact kk)
    | (show AL _ _ _ _ _ _ _ _; first | refine Bk Y Y Y ?_ | (refine Ar ?_; first | show AW _ _ _ _ _ _ | show ∃ x', _ < _ ∧ _)) | (show AW _ _ (.seq _ _) _ _ _; refine Ai ?_; intro Q1) | (show AW _ _ (.region _ _ false) _ _ _; refine Ad ?_; intro O1) | (show AW _ _ (.cond _ _ _) _ _ _; first | refine Ao Y ?_ | refine Ap Y ?_ | refine Ba Y (fun h => ?_) (fun h => ?_)) | (show AW _ _ (.skip) _ _ _; refine Aj ?_; first | show AW _ _ _ _ _ _ | show ∃ x', _ < _ ∧ _) | (show AW _ _ (.block _ _) _ _ _; refine Ae ?_; intro Q1) | (show AW _ _ (.exit _) _ _ _; refine Al ?_; first | show AW _ _ _ _ _ _ | show ∃ x', _ < _ ∧ _) | (show AW _ _ (.ret) _ _ _; refine Aw ?_; try dsimp only [Ax, Aa, A2, Af])
    | (show DL _ _ _ _ _ _ _; refine Bx Y Y (fun K kt kf => Am hG Y Y Y Y Y kt kf) (fun h => ?_) (fun h => ?_))
    | (show DL _ _ _ _ _ _ _; refine By Y Y Y ?_) | (show DL _ _ _ _ _ _ _; refine Be ?_; first | show AW _ _ _ _ _ _ | show ∃ x', _ < _ ∧ _) | (show AW _ _ (.region _ _ true) _ _ _; refine A3 mix (by kernel_rfl) ?_; intro O1) | fail)
    refine aw_loop_to 8 (X := DnX (fun x => !ltQ x e[a]!) e I1 J1 j1) (fun x => [(0, .aref 1 i 0 n cap), (1, .int .i64 ((a : Nat) : Int)), (10, .int .i64 ((I1 : Nat) : Int)), (11, .int .i64 ((x.p : Nat) : Int))]) (fun _ => ⟨[(i, .cells (rowT mT e))], [], off, none⟩) (fun x => x.p) ⟨j1, by omega, hJ1⟩ (by repeat (first | exact .nil _ | refine .cons rfl ?_)) (.refl _) [(0, .aref 1 i 0 n cap), (1, .int .i64 ((a : Nat) : Int)), (10, .int .i64 ((I1 : Nat) : Int)), (11, .int .i64 ((J1 : Nat) : Int))] (⟨[(i, .cells (rowT mT e))], [], off, none⟩) ?_ ?_
    · rintro ⟨p, hp, hr⟩
      dsimp only at hr ⊢
      by_cases hpJ : I1 ≤ p
      · obtain ⟨m, rfl⟩ : ∃ m, p = m + 1 := ⟨p - 1, by omega⟩
        repeat' (first
    | ((first | (show AL _ _ _ _ _ _ _ _; refine Ag Y ?_) | (show DL _ _ _ _ _ _ _; refine' A8 Y Y (fun K kk => ?_) ?_; try (show Go.Ts.T; rotate_left))); (first
      | refine Aq hG Y Y ?_
      | refine A5 hG Y Y ?_
      | (show AOp _ _ ⟨_, .binOp .add _ _ _ _, _, _, _, _⟩ _ _ _; first | refine Ac hG Y Y Y Y Y (by omega) ?_ | refine Ac (m := 1) hG Y Y Y Y Y (by omega) ?_ | refine Ab hG Y Y Y Y Y (by omega) ?_)
      | (show AOp _ _ ⟨_, .binOp .sub _ _ _ _, _, _, _, _⟩ _ _ _; first | refine Av hG Y Y Y Y (by omega) ?_ | refine Av (m := 1) hG Y Y Y Y (by omega) ?_ | refine Ab hG Y Y Y Y Y (by omega) ?_)
      | (show AOp _ _ ⟨_, .binOp _ _ _ _ _, _, _, _, _⟩ _ _ _; first | refine At hG Y Y Y Y Y (by omega) ?_ | refine Au hG Y Y Y Y Y (by omega) ?_ | ((fail_if_success have := kk); refine Am hG Y Y Y Y Y (fun h => ?_) (fun h => ?_)))
      | (show AOp _ _ ⟨_, .load _ _, _, _, _, _⟩ _ _ _; first | refine Ak (α := Nat) 0 hG Y Y Y Y (by omega) Y ?_ | refine Ay hG Y Y Y ?_ | refine Bg 0 hG Y Y Y Y ?_)
      | (show AOp _ _ ⟨_, .indexAddr _ _ _, _, _, _, _⟩ _ _ _; first | refine A1 hG Y Y Y Y Y Y Y (by omega) ?_ | refine A0 hG Y Y Y Y Y Y Y (by omega) ?_ | refine Az hG Y Y Y Y Y Y Y (by omega) ?_ | refine A9 hG Y Y ?_)
      | refine A6 hG Y Y Y ?_
      | refine Bs hG Y Y Y ?_
      | (show AOp _ _ ⟨_, .store _ _ _, _, _, _, _⟩ _ _ _; first | refine Bc (α := Nat) 0 hG Y Y Y Ah Bb Y Y (by first | omega | (simp only [Array.size_setIfInBounds]; omega)) ?_ | refine Bv 0 hG Y Y Y Y Y Y Y ?_)
      | (show AOp _ _ ⟨_, .call ⟨.value _, _, _⟩, _, _, _, _⟩ _ _ _; first | refine Bn Y Y Y Y Y (by first | (apply Cr <;> (first | assumption | omega | exact A4 _ _ | exact Bd _ | exact A7 _ _ | exact Bi _ | rfl | (simp; omega))) | fail) ?_ | fail)
      | refine r_q hG Y Y Y ?_); try exact kk)
    | (show AL _ _ _ _ _ _ _ _; first | refine Bk Y Y Y ?_ | (refine Ar ?_; first | show AW _ _ _ _ _ _ | show ∃ x', _ < _ ∧ _)) | (show AW _ _ (.seq _ _) _ _ _; refine Ai ?_; intro Q1) | (show AW _ _ (.region _ _ false) _ _ _; refine Ad ?_; intro O1) | (show AW _ _ (.cond _ _ _) _ _ _; first | refine Ao Y ?_ | refine Ap Y ?_ | refine Ba Y (fun h => ?_) (fun h => ?_)) | (show AW _ _ (.skip) _ _ _; refine Aj ?_; first | show AW _ _ _ _ _ _ | show ∃ x', _ < _ ∧ _) | (show AW _ _ (.block _ _) _ _ _; refine Ae ?_; intro Q1) | (show AW _ _ (.exit _) _ _ _; refine Al ?_; first | show AW _ _ _ _ _ _ | show ∃ x', _ < _ ∧ _) | (show AW _ _ (.ret) _ _ _; refine Aw ?_; try dsimp only [Ax, Aa, A2, Af])
    | (show DL _ _ _ _ _ _ _; refine Bx Y Y (fun K kt kf => Am hG Y Y Y Y Y kt kf) (fun h => ?_) (fun h => ?_))
    | (show DL _ _ _ _ _ _ _; refine By Y Y Y ?_) | (show DL _ _ _ _ _ _ _; refine Be ?_; first | show AW _ _ _ _ _ _ | show ∃ x', _ < _ ∧ _) | (show AW _ _ (.region _ _ true) _ _ _; refine A3 mix (by kernel_rfl) ?_; intro O1) | fail)
        · rw [scanDown, if_pos (by simp [hpJ]; simpa using h)] at hr
          exact ⟨⟨m, by omega, hr⟩, by dsimp only; omega, (by repeat (first | exact .nil _ | refine .cons rfl ?_)), .refl _⟩
        · rw [scanDown, if_neg (by simp [hpJ]; simpa using h)] at hr
          subst hr
          (refine Al ?_; show _ ∧ Knows _ _ ∧ _; exact ⟨rfl, (by repeat (first | exact .nil _ | refine .cons rfl ?_)), rfl⟩)
      · have hr2 : p = J1 := by
          rw [← hr]
          cases p with
          | zero => rfl
          | succ m => rw [scanDown, if_neg (by simp; omega)]
        subst hr2
        repeat' (first
    | ((first | (show AL _ _ _ _ _ _ _ _; refine Ag Y ?_) | (show DL _ _ _ _ _ _ _; refine' A8 Y Y (fun K kk => ?_) ?_; try (show Go.Ts.T; rotate_left))); (first
      | refine Aq hG Y Y ?_
      | refine A5 hG Y Y ?_
      | (show AOp _ _ ⟨_, .binOp .add _ _ _ _, _, _, _, _⟩ _ _ _; first | refine Ac hG Y Y Y Y Y (by omega) ?_ | refine Ac (m := 1) hG Y Y Y Y Y (by omega) ?_ | refine Ab hG Y Y Y Y Y (by omega) ?_)
      | (show AOp _ _ ⟨_, .binOp .sub _ _ _ _, _, _, _, _⟩ _ _ _; first | refine Av hG Y Y Y Y (by omega) ?_ | refine Av (m := 1) hG Y Y Y Y (by omega) ?_ | refine Ab hG Y Y Y Y Y (by omega) ?_)
      | (show AOp _ _ ⟨_, .binOp _ _ _ _ _, _, _, _, _⟩ _ _ _; first | refine At hG Y Y Y Y Y (by omega) ?_ | refine Au hG Y Y Y Y Y (by omega) ?_ | ((fail_if_success have := kk); refine Am hG Y Y Y Y Y (fun h => ?_) (fun h => ?_)))
      | (show AOp _ _ ⟨_, .load _ _, _, _, _, _⟩ _ _ _; first | refine Ak (α := Nat) 0 hG Y Y Y Y (by omega) Y ?_ | refine Ay hG Y Y Y ?_ | refine Bg 0 hG Y Y Y Y ?_)
      | (show AOp _ _ ⟨_, .indexAddr _ _ _, _, _, _, _⟩ _ _ _; first | refine A1 hG Y Y Y Y Y Y Y (by omega) ?_ | refine A0 hG Y Y Y Y Y Y Y (by omega) ?_ | refine Az hG Y Y Y Y Y Y Y (by omega) ?_ | refine A9 hG Y Y ?_)
      | refine A6 hG Y Y Y ?_
      | refine Bs hG Y Y Y ?_
      | (show AOp _ _ ⟨_, .store _ _ _, _, _, _, _⟩ _ _ _; first | refine Bc (α := Nat) 0 hG Y Y Y Ah Bb Y Y (by first | omega | (simp only [Array.size_setIfInBounds]; omega)) ?_ | refine Bv 0 hG Y Y Y Y Y Y Y ?_)
      | (show AOp _ _ ⟨_, .call ⟨.value _, _, _⟩, _, _, _, _⟩ _ _ _; first | refine Bn Y Y Y Y Y (by first | (apply Cr <;> (first | assumption | omega | exact A4 _ _ | exact Bd _ | exact A7 _ _ | exact Bi _ | rfl | (simp; omega))) | fail) ?_ | fail)
      | refine r_q hG Y Y Y ?_); try exact kk)
    | (show AL _ _ _ _ _ _ _ _; first | refine Bk Y Y Y ?_ | (refine Ar ?_; first | show AW _ _ _ _ _ _ | show ∃ x', _ < _ ∧ _)) | (show AW _ _ (.seq _ _) _ _ _; refine Ai ?_; intro Q1) | (show AW _ _ (.region _ _ false) _ _ _; refine Ad ?_; intro O1) | (show AW _ _ (.cond _ _ _) _ _ _; first | refine Ao Y ?_ | refine Ap Y ?_ | refine Ba Y (fun h => ?_) (fun h => ?_)) | (show AW _ _ (.skip) _ _ _; refine Aj ?_; first | show AW _ _ _ _ _ _ | show ∃ x', _ < _ ∧ _) | (show AW _ _ (.block _ _) _ _ _; refine Ae ?_; intro Q1) | (show AW _ _ (.exit _) _ _ _; refine Al ?_; first | show AW _ _ _ _ _ _ | show ∃ x', _ < _ ∧ _) | (show AW _ _ (.ret) _ _ _; refine Aw ?_; try dsimp only [Ax, Aa, A2, Af])
    | (show DL _ _ _ _ _ _ _; refine Bx Y Y (fun K kt kf => Am hG Y Y Y Y Y kt kf) (fun h => ?_) (fun h => ?_))
    | (show DL _ _ _ _ _ _ _; refine By Y Y Y ?_) | (show DL _ _ _ _ _ _ _; refine Be ?_; first | show AW _ _ _ _ _ _ | show ∃ x', _ < _ ∧ _) | (show AW _ _ (.region _ _ true) _ _ _; refine A3 mix (by kernel_rfl) ?_; intro O1) | fail)
        (refine Al ?_; show _ ∧ Knows _ _ ∧ _; exact ⟨rfl, (by repeat (first | exact .nil _ | refine .cons rfl ?_)), rfl⟩)
    intro a' hk
    show AW _ _ _ _ _ _
    refine aw_forget hk ?_
    rw [hI1, hJ1] at hr
    by_cases hIJ : I1 > J1
    · rw [if_pos hIJ] at hr
      subst hr
      repeat' (first
    | ((first | (show AL _ _ _ _ _ _ _ _; refine Ag Y ?_) | (show DL _ _ _ _ _ _ _; refine' A8 Y Y (fun K kk => ?_) ?_; try (show Go.Ts.T; rotate_left))); (first
      | refine Aq hG Y Y ?_
      | refine A5 hG Y Y ?_
      | (show AOp _ _ ⟨_, .binOp .add _ _ _ _, _, _, _, _⟩ _ _ _; first | refine Ac hG Y Y Y Y Y (by omega) ?_ | refine Ac (m := 1) hG Y Y Y Y Y (by omega) ?_ | refine Ab hG Y Y Y Y Y (by omega) ?_)
      | (show AOp _ _ ⟨_, .binOp .sub _ _ _ _, _, _, _, _⟩ _ _ _; first | refine Av hG Y Y Y Y (by omega) ?_ | refine Av (m := 1) hG Y Y Y Y (by omega) ?_ | refine Ab hG Y Y Y Y Y (by omega) ?_)
      | (show AOp _ _ ⟨_, .binOp _ _ _ _ _, _, _, _, _⟩ _ _ _; first | refine At hG Y Y Y Y Y (by omega) ?_ | refine Au hG Y Y Y Y Y (by omega) ?_ | ((fail_if_success have := kk); refine Am hG Y Y Y Y Y (fun h => ?_) (fun h => ?_)))
      | (show AOp _ _ ⟨_, .load _ _, _, _, _, _⟩ _ _ _; first | refine Ak (α := Nat) 0 hG Y Y Y Y (by omega) Y ?_ | refine Ay hG Y Y Y ?_ | refine Bg 0 hG Y Y Y Y ?_)
      | (show AOp _ _ ⟨_, .indexAddr _ _ _, _, _, _, _⟩ _ _ _; first | refine A1 hG Y Y Y Y Y Y Y (by omega) ?_ | refine A0 hG Y Y Y Y Y Y Y (by omega) ?_ | refine Az hG Y Y Y Y Y Y Y (by omega) ?_ | refine A9 hG Y Y ?_)
      | refine A6 hG Y Y Y ?_
      | refine Bs hG Y Y Y ?_
      | (show AOp _ _ ⟨_, .store _ _ _, _, _, _, _⟩ _ _ _; first | refine Bc (α := Nat) 0 hG Y Y Y Ah Bb Y Y (by first | omega | (simp only [Array.size_setIfInBounds]; omega)) ?_ | refine Bv 0 hG Y Y Y Y Y Y Y ?_)
      | refine r_q hG Y Y Y ?_); try exact kk)
    | (show AL _ _ _ _ _ _ _ _; first | refine Bk Y Y Y ?_ | (refine Ar ?_; first | show AW _ _ _ _ _ _ | show ∃ x', _ < _ ∧ _)) | (show AW _ _ (.seq _ _) _ _ _; refine Ai ?_; intro Q1) | (show AW _ _ (.region _ _ false) _ _ _; (fail_if_success show AW _ _ (.region 21 _ _) _ _ _); refine Ad ?_; intro O1) | (show AW _ _ (.cond _ _ _) _ _ _; first | refine Ao Y ?_ | refine Ap Y ?_ | refine Ba Y (fun h => ?_) (fun h => ?_)) | (show AW _ _ (.skip) _ _ _; refine Aj ?_; first | show AW _ _ _ _ _ _ | show ∃ x', _ < _ ∧ _) | (show AW _ _ (.block _ _) _ _ _; refine Ae ?_; intro Q1) | (show AW _ _ (.exit _) _ _ _; refine Al ?_; first | show AW _ _ _ _ _ _ | show ∃ x', _ < _ ∧ _) | (show AW _ _ (.ret) _ _ _; refine Aw ?_; try dsimp only [Ax, Aa, A2, Af])
    | (show DL _ _ _ _ _ _ _; refine Bx Y Y (fun K kt kf => Am hG Y Y Y Y Y kt kf) (fun h => ?_) (fun h => ?_))
    | (show DL _ _ _ _ _ _ _; refine By Y Y Y ?_) | (show DL _ _ _ _ _ _ _; refine Be ?_; first | show AW _ _ _ _ _ _ | show ∃ x', _ < _ ∧ _) | (show AW _ _ (.region _ _ true) _ _ _; (fail_if_success show AW _ _ (.region 21 _ _) _ _ _); refine A3 mix (by kernel_rfl) ?_; intro O1) | fail)
      refine Co (m := 14) [13] [7, 11] (fun σ => ∃ c : Array Nat, c.size = n ∧ σ = ⟨[(i, .cells (rowT mT c))], [], off, none⟩) mix Y Y (by repeat (first | exact Sp.zero _ | apply Sp.succ)) ?_; intro O1 F1 Z1 Q2; repeat' (first
    | (refine' dq0_cons Y Y Y Y (fun σ hσ K kk => ?_) ?_; (try (show Go.Ts.T; rotate_left)); (obtain ⟨c, hcn, hcs⟩ := hσ; subst hcs); (first
      | refine Aq hG Y Y ?_
      | refine A5 hG Y Y ?_
      | (show AOp _ _ ⟨_, .binOp .add _ _ _ _, _, _, _, _⟩ _ _ _; first | refine Ac hG Y Y Y Y Y (by omega) ?_ | refine Ac (m := 1) hG Y Y Y Y Y (by omega) ?_ | refine Ab hG Y Y Y Y Y (by omega) ?_)
      | (show AOp _ _ ⟨_, .binOp .sub _ _ _ _, _, _, _, _⟩ _ _ _; first | refine Av hG Y Y Y Y (by omega) ?_ | refine Av (m := 1) hG Y Y Y Y (by omega) ?_ | refine Cg (m := 1) hG Y Y Y Y (by omega) ?_ | refine Ab hG Y Y Y Y Y (by omega) ?_)
      | (show AOp _ _ ⟨_, .binOp _ _ _ _ _, _, _, _, _⟩ _ _ _; first | refine At hG Y Y Y Y Y (by omega) ?_ | refine Au hG Y Y Y Y Y (by omega) ?_)
      | (show AOp _ _ ⟨_, .load _ _, _, _, _, _⟩ _ _ _; first | refine Ak (α := Nat) 0 hG Y Y Y Y (by omega) Y ?_ | refine Ak (α := Nat) 1 hG Y Y Y Y (by omega) Y ?_ | refine Ay hG Y Y Y ?_ | refine Bg 0 hG Y Y Y Y ?_)
      | (show AOp _ _ ⟨_, .indexAddr _ _ _, _, _, _, _⟩ _ _ _; first | refine A1 hG Y Y Y Y Y Y Y (by omega) ?_ | refine A0 hG Y Y Y Y Y Y Y (by omega) ?_ | refine Az hG Y Y Y Y Y Y Y (by omega) ?_ | refine A9 hG Y Y ?_)
      | refine A6 hG Y Y Y ?_
      | refine Bs hG Y Y Y ?_
      | (show AOp _ _ ⟨_, .store _ _ _, _, _, _, _⟩ _ _ _; first | refine Bc (α := Nat) 0 hG Y Y Y Ah Bb Y Y (by first | omega | (simp only [Array.size_setIfInBounds]; omega)) ?_ | refine Bc (α := Nat) 1 hG Y Y Y Ah Bb Y Y (by first | omega | (simp only [Array.size_setIfInBounds]; omega)) ?_ | refine Bv 0 hG Y Y Y Y Y Y Y ?_)
      | refine r_q hG Y Y Y ?_); exact kk)
    | (refine' Cn Y Y Y Y (fun K kk => ?_) ?_; (try (show Go.Ts.T; rotate_left)); (first | refine Ak 0 hG Y Y Y Y (by omega) Y ?_ | refine Ak 1 hG Y Y Y Y (by omega) Y ?_); exact kk)
    | refine dq0_e Y ?_ | (refine dq0_nil ?_; show EL _ _ _ _ _ _ _ _ _)
    | (refine Cf ⟨_, (by first | assumption | (simp only [Array.size_setIfInBounds]; omega)), Y⟩ Y Y Y (fun K ke => ?_); (first | refine Bc (α := Nat) 0 hG Y Y Y Ah Bb Y Y (by first | omega | (simp only [Array.size_setIfInBounds]; omega)) ?_ | refine Bc (α := Nat) 1 hG Y Y Y Ah Bb Y Y (by first | omega | (simp only [Array.size_setIfInBounds]; omega)) ?_); refine ke (.tup []) _ ?_)
    | (refine el_nil ⟨_, (by first | assumption | (simp only [Array.size_setIfInBounds]; omega)), Y⟩ ?_; show AL _ _ _ _ _ _ _ _) | fail)
      repeat' (first
    | ((first | (show AL _ _ _ _ _ _ _ _; refine Ag Y ?_) | (show DL _ _ _ _ _ _ _; refine' A8 Y Y (fun K kk => ?_) ?_; try (show Go.Ts.T; rotate_left))); (first
      | refine Aq hG Y Y ?_
      | refine A5 hG Y Y ?_
      | (show AOp _ _ ⟨_, .binOp .add _ _ _ _, _, _, _, _⟩ _ _ _; first | refine Ac hG Y Y Y Y Y (by omega) ?_ | refine Ac (m := 1) hG Y Y Y Y Y (by omega) ?_ | refine Ab hG Y Y Y Y Y (by omega) ?_)
      | (show AOp _ _ ⟨_, .binOp .sub _ _ _ _, _, _, _, _⟩ _ _ _; first | refine Av hG Y Y Y Y (by omega) ?_ | refine Av (m := 1) hG Y Y Y Y (by omega) ?_ | refine Ab hG Y Y Y Y Y (by omega) ?_)
      | (show AOp _ _ ⟨_, .binOp _ _ _ _ _, _, _, _, _⟩ _ _ _; first | refine At hG Y Y Y Y Y (by omega) ?_ | refine Au hG Y Y Y Y Y (by omega) ?_ | ((fail_if_success have := kk); refine Am hG Y Y Y Y Y (fun h => ?_) (fun h => ?_)))
      | (show AOp _ _ ⟨_, .load _ _, _, _, _, _⟩ _ _ _; first | refine Ak (α := Nat) 0 hG Y Y Y Y (by omega) Y ?_ | refine Ay hG Y Y Y ?_ | refine Bg 0 hG Y Y Y Y ?_)
      | (show AOp _ _ ⟨_, .indexAddr _ _ _, _, _, _, _⟩ _ _ _; first | refine A1 hG Y Y Y Y Y Y Y (by omega) ?_ | refine A0 hG Y Y Y Y Y Y Y (by omega) ?_ | refine Az hG Y Y Y Y Y Y Y (by omega) ?_ | refine A9 hG Y Y ?_)
      | refine A6 hG Y Y Y ?_
      | refine Bs hG Y Y Y ?_
      | (show AOp _ _ ⟨_, .store _ _ _, _, _, _, _⟩ _ _ _; first | refine Bc (α := Nat) 0 hG Y Y Y Ah Bb Y Y (by first | omega | (simp only [Array.size_setIfInBounds]; omega)) ?_ | refine Bv 0 hG Y Y Y Y Y Y Y ?_)
      | refine r_q hG Y Y Y ?_); try exact kk)
    | (show AL _ _ _ _ _ _ _ _; first | refine Bk Y Y Y ?_ | (refine Ar ?_; first | show AW _ _ _ _ _ _ | show ∃ x', _ < _ ∧ _)) | (show AW _ _ (.seq _ _) _ _ _; refine Ai ?_; intro Q1) | (show AW _ _ (.region _ _ false) _ _ _; refine Ad ?_; intro O1) | (show AW _ _ (.cond _ _ _) _ _ _; first | refine Ao Y ?_ | refine Ap Y ?_ | refine Ba Y (fun h => ?_) (fun h => ?_)) | (show AW _ _ (.skip) _ _ _; refine Aj ?_; first | show AW _ _ _ _ _ _ | show ∃ x', _ < _ ∧ _) | (show AW _ _ (.block _ _) _ _ _; refine Ae ?_; intro Q1) | (show AW _ _ (.exit _) _ _ _; refine Al ?_; first | show AW _ _ _ _ _ _ | show ∃ x', _ < _ ∧ _) | (show AW _ _ (.ret) _ _ _; refine Aw ?_; try dsimp only [Ax, Aa, A2, Af])
    | (show DL _ _ _ _ _ _ _; refine Bx Y Y (fun K kt kf => Am hG Y Y Y Y Y kt kf) (fun h => ?_) (fun h => ?_))
    | (show DL _ _ _ _ _ _ _; refine By Y Y Y ?_) | (show DL _ _ _ _ _ _ _; refine Be ?_; first | show AW _ _ _ _ _ _ | show ∃ x', _ < _ ∧ _) | (show AW _ _ (.region _ _ true) _ _ _; refine A3 mix (by kernel_rfl) ?_; intro O1) | fail)
      try dsimp (config := { zetaDelta := true }) only [Ax, Aa]
      rw [hp]
      refine ret_row 0 (Bm rfl (Bm rfl Bl)) ?_ (.refl _) ?_ <;> rfl
    · rw [if_neg hIJ] at hr
      repeat' (first
    | ((first | (show AL _ _ _ _ _ _ _ _; refine Ag Y ?_) | (show DL _ _ _ _ _ _ _; refine' A8 Y Y (fun K kk => ?_) ?_; try (show Go.Ts.T; rotate_left))); (first
      | refine Aq hG Y Y ?_
      | refine A5 hG Y Y ?_
      | (show AOp _ _ ⟨_, .binOp .add _ _ _ _, _, _, _, _⟩ _ _ _; first | refine Ac hG Y Y Y Y Y (by omega) ?_ | refine Ac (m := 1) hG Y Y Y Y Y (by omega) ?_ | refine Ab hG Y Y Y Y Y (by omega) ?_)
      | (show AOp _ _ ⟨_, .binOp .sub _ _ _ _, _, _, _, _⟩ _ _ _; first | refine Av hG Y Y Y Y (by omega) ?_ | refine Av (m := 1) hG Y Y Y Y (by omega) ?_ | refine Ab hG Y Y Y Y Y (by omega) ?_)
      | (show AOp _ _ ⟨_, .binOp _ _ _ _ _, _, _, _, _⟩ _ _ _; first | refine At hG Y Y Y Y Y (by omega) ?_ | refine Au hG Y Y Y Y Y (by omega) ?_ | ((fail_if_success have := kk); refine Am hG Y Y Y Y Y (fun h => ?_) (fun h => ?_)))
      | (show AOp _ _ ⟨_, .load _ _, _, _, _, _⟩ _ _ _; first | refine Ak (α := Nat) 0 hG Y Y Y Y (by omega) Y ?_ | refine Ay hG Y Y Y ?_ | refine Bg 0 hG Y Y Y Y ?_)
      | (show AOp _ _ ⟨_, .indexAddr _ _ _, _, _, _, _⟩ _ _ _; first | refine A1 hG Y Y Y Y Y Y Y (by omega) ?_ | refine A0 hG Y Y Y Y Y Y Y (by omega) ?_ | refine Az hG Y Y Y Y Y Y Y (by omega) ?_ | refine A9 hG Y Y ?_)
      | refine A6 hG Y Y Y ?_
      | refine Bs hG Y Y Y ?_
      | (show AOp _ _ ⟨_, .store _ _ _, _, _, _, _⟩ _ _ _; first | refine Bc (α := Nat) 0 hG Y Y Y Ah Bb Y Y (by first | omega | (simp only [Array.size_setIfInBounds]; omega)) ?_ | refine Bv 0 hG Y Y Y Y Y Y Y ?_)
      | refine r_q hG Y Y Y ?_); try exact kk)
    | (show AL _ _ _ _ _ _ _ _; first | refine Bk Y Y Y ?_ | (refine Ar ?_; first | show AW _ _ _ _ _ _ | show ∃ x', _ < _ ∧ _)) | (show AW _ _ (.seq _ _) _ _ _; refine Ai ?_; intro Q1) | (show AW _ _ (.region _ _ false) _ _ _; (fail_if_success show AW _ _ (.region 18 _ _) _ _ _); refine Ad ?_; intro O1) | (show AW _ _ (.cond _ _ _) _ _ _; first | refine Ao Y ?_ | refine Ap Y ?_ | refine Ba Y (fun h => ?_) (fun h => ?_)) | (show AW _ _ (.skip) _ _ _; refine Aj ?_; first | show AW _ _ _ _ _ _ | show ∃ x', _ < _ ∧ _) | (show AW _ _ (.block _ _) _ _ _; refine Ae ?_; intro Q1) | (show AW _ _ (.exit _) _ _ _; refine Al ?_; first | show AW _ _ _ _ _ _ | show ∃ x', _ < _ ∧ _) | (show AW _ _ (.ret) _ _ _; refine Aw ?_; try dsimp only [Ax, Aa, A2, Af])
    | (show DL _ _ _ _ _ _ _; refine Bx Y Y (fun K kt kf => Am hG Y Y Y Y Y kt kf) (fun h => ?_) (fun h => ?_))
    | (show DL _ _ _ _ _ _ _; refine By Y Y Y ?_) | (show DL _ _ _ _ _ _ _; refine Be ?_; first | show AW _ _ _ _ _ _ | show ∃ x', _ < _ ∧ _) | (show AW _ _ (.region _ _ true) _ _ _; (fail_if_success show AW _ _ (.region 18 _ _) _ _ _); refine A3 mix (by kernel_rfl) ?_; intro O1) | fail)
      refine Co (m := 14) [13] [7, 11] (fun σ => ∃ c : Array Nat, c.size = n ∧ σ = ⟨[(i, .cells (rowT mT c))], [], off, none⟩) mix Y Y (by repeat (first | exact Sp.zero _ | apply Sp.succ)) ?_; intro O1 F1 Z1 Q2; repeat' (first
    | (refine' dq0_cons Y Y Y Y (fun σ hσ K kk => ?_) ?_; (try (show Go.Ts.T; rotate_left)); (obtain ⟨c, hcn, hcs⟩ := hσ; subst hcs); (first
      | refine Aq hG Y Y ?_
      | refine A5 hG Y Y ?_
      | (show AOp _ _ ⟨_, .binOp .add _ _ _ _, _, _, _, _⟩ _ _ _; first | refine Ac hG Y Y Y Y Y (by omega) ?_ | refine Ac (m := 1) hG Y Y Y Y Y (by omega) ?_ | refine Ab hG Y Y Y Y Y (by omega) ?_)
      | (show AOp _ _ ⟨_, .binOp .sub _ _ _ _, _, _, _, _⟩ _ _ _; first | refine Av hG Y Y Y Y (by omega) ?_ | refine Av (m := 1) hG Y Y Y Y (by omega) ?_ | refine Cg (m := 1) hG Y Y Y Y (by omega) ?_ | refine Ab hG Y Y Y Y Y (by omega) ?_)
      | (show AOp _ _ ⟨_, .binOp _ _ _ _ _, _, _, _, _⟩ _ _ _; first | refine At hG Y Y Y Y Y (by omega) ?_ | refine Au hG Y Y Y Y Y (by omega) ?_)
      | (show AOp _ _ ⟨_, .load _ _, _, _, _, _⟩ _ _ _; first | refine Ak (α := Nat) 0 hG Y Y Y Y (by omega) Y ?_ | refine Ak (α := Nat) 1 hG Y Y Y Y (by omega) Y ?_ | refine Ay hG Y Y Y ?_ | refine Bg 0 hG Y Y Y Y ?_)
      | (show AOp _ _ ⟨_, .indexAddr _ _ _, _, _, _, _⟩ _ _ _; first | refine A1 hG Y Y Y Y Y Y Y (by omega) ?_ | refine A0 hG Y Y Y Y Y Y Y (by omega) ?_ | refine Az hG Y Y Y Y Y Y Y (by omega) ?_ | refine A9 hG Y Y ?_)
      | refine A6 hG Y Y Y ?_
      | refine Bs hG Y Y Y ?_
      | (show AOp _ _ ⟨_, .store _ _ _, _, _, _, _⟩ _ _ _; first | refine Bc (α := Nat) 0 hG Y Y Y Ah Bb Y Y (by first | omega | (simp only [Array.size_setIfInBounds]; omega)) ?_ | refine Bc (α := Nat) 1 hG Y Y Y Ah Bb Y Y (by first | omega | (simp only [Array.size_setIfInBounds]; omega)) ?_ | refine Bv 0 hG Y Y Y Y Y Y Y ?_)
      | refine r_q hG Y Y Y ?_); exact kk)
    | (refine' Cn Y Y Y Y (fun K kk => ?_) ?_; (try (show Go.Ts.T; rotate_left)); (first | refine Ak 0 hG Y Y Y Y (by omega) Y ?_ | refine Ak 1 hG Y Y Y Y (by omega) Y ?_); exact kk)
    | refine dq0_e Y ?_ | (refine dq0_nil ?_; show EL _ _ _ _ _ _ _ _ _)
    | (refine Cf ⟨_, (by first | assumption | (simp only [Array.size_setIfInBounds]; omega)), Y⟩ Y Y Y (fun K ke => ?_); (first | refine Bc (α := Nat) 0 hG Y Y Y Ah Bb Y Y (by first | omega | (simp only [Array.size_setIfInBounds]; omega)) ?_ | refine Bc (α := Nat) 1 hG Y Y Y Ah Bb Y Y (by first | omega | (simp only [Array.size_setIfInBounds]; omega)) ?_); refine ke (.tup []) _ ?_)
    | (refine el_nil ⟨_, (by first | assumption | (simp only [Array.size_setIfInBounds]; omega)), Y⟩ ?_; show AL _ _ _ _ _ _ _ _) | fail)
      repeat' (first
    | ((first | (show AL _ _ _ _ _ _ _ _; refine Ag Y ?_) | (show DL _ _ _ _ _ _ _; refine' A8 Y Y (fun K kk => ?_) ?_; try (show Go.Ts.T; rotate_left))); (first
      | refine Aq hG Y Y ?_
      | refine A5 hG Y Y ?_
      | (show AOp _ _ ⟨_, .binOp .add _ _ _ _, _, _, _, _⟩ _ _ _; first | refine Ac hG Y Y Y Y Y (by omega) ?_ | refine Ac (m := 1) hG Y Y Y Y Y (by omega) ?_ | refine Ab hG Y Y Y Y Y (by omega) ?_)
      | (show AOp _ _ ⟨_, .binOp .sub _ _ _ _, _, _, _, _⟩ _ _ _; first | refine Av hG Y Y Y Y (by omega) ?_ | refine Av (m := 1) hG Y Y Y Y (by omega) ?_ | refine Ab hG Y Y Y Y Y (by omega) ?_)
      | (show AOp _ _ ⟨_, .binOp _ _ _ _ _, _, _, _, _⟩ _ _ _; first | refine At hG Y Y Y Y Y (by omega) ?_ | refine Au hG Y Y Y Y Y (by omega) ?_ | ((fail_if_success have := kk); refine Am hG Y Y Y Y Y (fun h => ?_) (fun h => ?_)))
      | (show AOp _ _ ⟨_, .load _ _, _, _, _, _⟩ _ _ _; first | refine Ak (α := Nat) 0 hG Y Y Y Y (by omega) Y ?_ | refine Ay hG Y Y Y ?_ | refine Bg 0 hG Y Y Y Y ?_)
      | (show AOp _ _ ⟨_, .indexAddr _ _ _, _, _, _, _⟩ _ _ _; first | refine A1 hG Y Y Y Y Y Y Y (by omega) ?_ | refine A0 hG Y Y Y Y Y Y Y (by omega) ?_ | refine Az hG Y Y Y Y Y Y Y (by omega) ?_ | refine A9 hG Y Y ?_)
      | refine A6 hG Y Y Y ?_
      | refine Bs hG Y Y Y ?_
      | (show AOp _ _ ⟨_, .store _ _ _, _, _, _, _⟩ _ _ _; first | refine Bc (α := Nat) 0 hG Y Y Y Ah Bb Y Y (by first | omega | (simp only [Array.size_setIfInBounds]; omega)) ?_ | refine Bv 0 hG Y Y Y Y Y Y Y ?_)
      | refine r_q hG Y Y Y ?_); try exact kk)
    | (show AL _ _ _ _ _ _ _ _; first | refine Bk Y Y Y ?_ | (refine Ar ?_; first | show AW _ _ _ _ _ _ | show ∃ x', _ < _ ∧ _)) | (show AW _ _ (.seq _ _) _ _ _; refine Ai ?_; intro Q1) | (show AW _ _ (.region _ _ false) _ _ _; refine Ad ?_; intro O1) | (show AW _ _ (.cond _ _ _) _ _ _; first | refine Ao Y ?_ | refine Ap Y ?_ | refine Ba Y (fun h => ?_) (fun h => ?_)) | (show AW _ _ (.skip) _ _ _; refine Aj ?_; first | show AW _ _ _ _ _ _ | show ∃ x', _ < _ ∧ _) | (show AW _ _ (.block _ _) _ _ _; refine Ae ?_; intro Q1) | (show AW _ _ (.exit _) _ _ _; refine Al ?_; first | show AW _ _ _ _ _ _ | show ∃ x', _ < _ ∧ _) | (show AW _ _ (.ret) _ _ _; refine Aw ?_; try dsimp only [Ax, Aa, A2, Af])
    | (show DL _ _ _ _ _ _ _; refine Bx Y Y (fun K kt kf => Am hG Y Y Y Y Y kt kf) (fun h => ?_) (fun h => ?_))
    | (show DL _ _ _ _ _ _ _; refine By Y Y Y ?_) | (show DL _ _ _ _ _ _ _; refine Be ?_; first | show AW _ _ _ _ _ _ | show ∃ x', _ < _ ∧ _) | (show AW _ _ (.region _ _ true) _ _ _; refine A3 mix (by kernel_rfl) ?_; intro O1) | fail)
      exact ⟨⟨I1 + 1, J1 - 1, swp e I1 J1, by rw [size_swp]; exact hen, by omega, hr⟩, by dsimp only; omega, (by repeat (first | exact .nil _ | refine .cons rfl ?_)), .refl _⟩
end Go.Proofs.Ytmckbfdklcmogaa
