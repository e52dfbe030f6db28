/- Part of the proof of the law Call1Takes: the texts BB, S6, S7, S8, S9, DB, O1, RP, OP0, LA, LB, LP, P2, LC, P6, P7, Q1, Q2, QV1, DL, QV2, QV3, LQ. No conditions. -/
import Derived.Test.YthfgocinlbogeaaCall1TakesC
set_option linter.unusedSimpArgs false
set_option linter.unusedVariables false
set_option maxHeartbeats 4000000
namespace Go.Proofs.Ythfgocinlbogeaa
open Go.Ts
set_option linter.unusedSimpArgs false
set_option linter.unusedVariables false
set_option linter.unnecessarySimpa false
attribute [local irreducible] Go.Ts.AW Go.Ts.AOps Go.Ts.AL Go.Ts.AOp Go.Ts.ACalls Go.Ts.DL Go.Ts.DQ0 Go.Ts.EL
def twL (b : List UInt8) : List UInt8 := b ++ [0xe5, 0xe5, 0xe5]
structure TwX (b : List UInt8) where
  i : Nat
  l : List UInt8
  hi : i ≤ b.length + 3
  h0 : b.length ≤ i
  hl : l = b ++ List.replicate (i - b.length) 0xe5 ++ List.replicate (b.length + 3 - i) 0
theorem law_Twin {b : List UInt8} (hb : b.length ≤ 4294967000) : OnL Try.prog 11 [sT b] [] (fun u L => ∃ i, u = .aref 1 i 0 b.length (some (b.length + 3)) ∧ L = [(i, .cells ((twL b).map bT))]) := by
  intro off
  refine Ad (N := 27) (rs := [.tmp 2]) hG Try.func11 rfl rfl rfl rfl rfl ?_
  repeat' (first | (show AL _ _ _ _ _ _ _ _; first | (refine Ar Y ?_; (first | (show AOp _ _ ⟨_, .load _ _, _, _, _, _⟩ _ _ _; first | refine r_ldB (f := bT) 0 hG Y Y Y Y (by first | omega | (simp; omega)) Y ?_ | refine r_ldB (f := bT) 1 hG Y Y Y Y (by first | omega | (simp; omega)) Y ?_ | refine r_ldB (f := bT) 2 hG Y Y Y Y (by first | omega | (simp; omega)) Y ?_) | refine r_slC hG Y Y Y Y Y Y Y (by first | omega | (simp; omega)) ?_)) | refine so2 ?_) | (show AW _ _ _ _ _ _; first | (show AW _ _ (.region _ _ _) _ _ _; refine sc0 ?_; intro O1) | (refine sc1 ?_; try intro Q1)) | (show (_ → _) ∧ _; refine ⟨fun h => ?_, fun h => ?_⟩) | fail)
  refine Ar rfl (r_mkB (z := b.length + 3) hG rfl rfl rfl rfl rfl rfl rfl rfl rfl (by omega) (fun i => ?_))
  repeat' (first | (show AL _ _ _ _ _ _ _ _; (fail_if_success show AL _ _ _ _ _ (⟨_, .call ⟨.builtin .copy, _, _⟩, _, _, _, _⟩ :: _) _ _); first | (refine Ar Y ?_; (first | (show AOp _ _ ⟨_, .load _ _, _, _, _, _⟩ _ _ _; first | refine r_ldB (f := bT) 0 hG Y Y Y Y (by first | omega | (simp; omega)) Y ?_ | refine r_ldB (f := bT) 1 hG Y Y Y Y (by first | omega | (simp; omega)) Y ?_ | refine r_ldB (f := bT) 2 hG Y Y Y Y (by first | omega | (simp; omega)) Y ?_) | refine r_slC hG Y Y Y Y Y Y Y (by first | omega | (simp; omega)) ?_)) | refine so2 ?_) | (show AW _ _ _ _ _ _; first | (show AW _ _ (.region _ _ _) _ _ _; refine sc0 ?_; intro O1) | (refine sc1 ?_; try intro Q1)) | (show (_ → _) ∧ _; refine ⟨fun h => ?_, fun h => ?_⟩) | fail)
  refine Ar rfl (aop_copyL (n := 0) (ys := b.map bT) hG rfl rfl rfl rfl rfl rfl rfl rfl (by simp [List.all_map, bT, T.scalar]) rfl ⟨by simp, by simp⟩ rfl ?_)
  repeat' (first | (show AL _ _ _ _ _ _ _ _; first | (refine Ar Y ?_; (first | (show AOp _ _ ⟨_, .load _ _, _, _, _, _⟩ _ _ _; first | refine r_ldB (f := bT) 0 hG Y Y Y Y (by first | omega | (simp; omega)) Y ?_ | refine r_ldB (f := bT) 1 hG Y Y Y Y (by first | omega | (simp; omega)) Y ?_ | refine r_ldB (f := bT) 2 hG Y Y Y Y (by first | omega | (simp; omega)) Y ?_) | refine r_slC hG Y Y Y Y Y Y Y (by first | omega | (simp; omega)) ?_)) | refine so2 ?_) | (show AW _ _ _ _ _ _; first | (show AW _ _ (.region _ _ _) _ _ _; refine sc0 ?_; intro O1) | (refine sc1 ?_; try intro Q1)) | (show (_ → _) ∧ _; refine ⟨fun h => ?_, fun h => ?_⟩) | fail)
  have e0 : Go.Ts.stored ((List.replicate (b.length + 3) (0 : UInt8)).map bT) (b.map bT) 0 = (b ++ List.replicate 3 0).map bT := by
    unfold Go.Ts.stored
    simp
  refine aw_loop (X := TwX b) (fun x => [(0, sT b), (3, .aref 1 i 0 (b.length + 3) (some (b.length + 3))), (4, .int .i64 (x.i : Int))]) (fun x => ⟨[(i, .cells (x.l.map bT))], [], off, none⟩) (fun x => b.length + 3 - x.i) ⟨b.length, b ++ List.replicate 3 0, by omega, Nat.le_refl _, by simp⟩ (by repeat (first | exact .nil _ | refine .cons rfl ?_)) (by
    show Go.Ts.GStep ⟨[(i, .cells (Go.Ts.stored ((List.replicate (b.length + 3) (0 : UInt8)).map bT) (b.map bT) 0))], [], off, none⟩ _
    rw [e0]; exact .refl _) ?_
  rintro ⟨q, l, hi, h0, hl⟩
  have hll : l.length = b.length + 3 := by rw [hl]; simp; omega
  dsimp only
  by_cases hq : q < b.length + 3
  · repeat' (first | (show AL _ _ _ _ _ _ _ _; (fail_if_success show AL _ _ _ _ _ (⟨_, .store _ _ _, _, _, _, _⟩ :: _) _ _); first | (refine Ar Y ?_; (first | (show AOp _ _ ⟨_, .load _ _, _, _, _, _⟩ _ _ _; first | refine r_ldB (f := bT) 0 hG Y Y Y Y (by first | omega | (simp; omega)) Y ?_ | refine r_ldB (f := bT) 1 hG Y Y Y Y (by first | omega | (simp; omega)) Y ?_ | refine r_ldB (f := bT) 2 hG Y Y Y Y (by first | omega | (simp; omega)) Y ?_) | refine r_slC hG Y Y Y Y Y Y Y (by first | omega | (simp; omega)) ?_)) | refine so2 ?_) | (show AW _ _ _ _ _ _; first | (show AW _ _ (.region _ _ _) _ _ _; refine sc0 ?_; intro O1) | (refine sc1 ?_; try intro Q1)) | (show (_ → _) ∧ _; refine ⟨fun h => ?_, fun h => ?_⟩) | fail)
    refine Ar rfl (r_stB 0 (l := l) (0xe5 : UInt8) hG rfl rfl rfl bT_cells bT_sc rfl rfl (by omega) ?_)
    repeat' (first | (show AL _ _ _ _ _ _ _ _; first | (refine Ar Y ?_; (first | (show AOp _ _ ⟨_, .load _ _, _, _, _, _⟩ _ _ _; first | refine r_ldB (f := bT) 0 hG Y Y Y Y (by first | omega | (simp; omega)) Y ?_ | refine r_ldB (f := bT) 1 hG Y Y Y Y (by first | omega | (simp; omega)) Y ?_ | refine r_ldB (f := bT) 2 hG Y Y Y Y (by first | omega | (simp; omega)) Y ?_) | refine r_slC hG Y Y Y Y Y Y Y (by first | omega | (simp; omega)) ?_)) | refine so2 ?_) | (show AW _ _ _ _ _ _; first | (show AW _ _ (.region _ _ _) _ _ _; refine sc0 ?_; intro O1) | (refine sc1 ?_; try intro Q1)) | (show (_ → _) ∧ _; refine ⟨fun h => ?_, fun h => ?_⟩) | fail)
    exact ⟨⟨q + 1, l.set q 0xe5, by omega, by omega, by
      rw [hl, show b.length + 3 - q = (b.length + 3 - (q + 1)) + 1 by omega, List.replicate_succ, show q + 1 - b.length = (q - b.length) + 1 by omega, List.replicate_succ']
      rw [List.set_append_right _ _ (by simp; omega)]
      simp [show q - (b.length + (q - b.length)) = 0 by omega]⟩, by dsimp only; omega, (by repeat (first | exact .nil _ | refine .cons rfl ?_)), .refl _⟩
  · obtain rfl : q = b.length + 3 := by omega
    repeat' (first | (show AL _ _ _ _ _ _ _ _; first | (refine Ar Y ?_; (first | (show AOp _ _ ⟨_, .load _ _, _, _, _, _⟩ _ _ _; first | refine r_ldB (f := bT) 0 hG Y Y Y Y (by first | omega | (simp; omega)) Y ?_ | refine r_ldB (f := bT) 1 hG Y Y Y Y (by first | omega | (simp; omega)) Y ?_ | refine r_ldB (f := bT) 2 hG Y Y Y Y (by first | omega | (simp; omega)) Y ?_) | refine r_slC hG Y Y Y Y Y Y Y (by first | omega | (simp; omega)) ?_)) | refine so2 ?_) | (show AW _ _ _ _ _ _; first | (show AW _ _ (.region _ _ _) _ _ _; refine sc0 ?_; intro O1) | (refine sc1 ?_; try intro Q1)) | (show (_ → _) ∧ _; refine ⟨fun h => ?_, fun h => ?_⟩) | fail)
    have e1 : l = twL b := by rw [hl, Nat.sub_self, show b.length + 3 - b.length = 3 by omega]; simp [twL]
    rw [e1]
    exact ret_onL (Ab rfl Ac) (.refl _) (.refl _) (.refl _) rfl ⟨i, rfl, rfl⟩
theorem twL_take (b : List UInt8) : (twL b).take b.length = b := by simp [twL]
structure KeX (b : List UInt8) where
  i : Nat
  hi : i ≤ b.length + 3
  h0 : b.length ≤ i
set_option maxHeartbeats 9000000 in
theorem law_Kept {b : List UInt8} (hb : b.length ≤ 4294967000) (i : Nat) : OnL Try.prog 13 [.aref 1 i 0 b.length (some (b.length + 3)), sT b] [(i, .cells ((twL b).map bT))] (fun u L => u = .bool true ∧ L = [(i, .cells ((twL b).map bT))]) := by
  have hl : (twL b).length = b.length + 3 := by simp [twL]
  intro off
  refine Ad (N := 38) (rs := [.tmp 4]) hG Try.func13 rfl rfl rfl rfl rfl ?_
  repeat' (first | (show AL _ _ _ _ _ _ _ _; (fail_if_success show AL _ _ _ _ _ (⟨_, .convert _ _ _, _, _, _, _⟩ :: _) _ _); first | (refine Ar Y ?_; (first | (show AOp _ _ ⟨_, .load _ _, _, _, _, _⟩ _ _ _; first | refine r_ldB (f := bT) 0 hG Y Y Y Y (by first | omega | (simp; omega)) Y ?_ | refine r_ldB (f := bT) 1 hG Y Y Y Y (by first | omega | (simp; omega)) Y ?_ | refine r_ldB (f := bT) 2 hG Y Y Y Y (by first | omega | (simp; omega)) Y ?_) | refine r_slC hG Y Y Y Y Y Y Y (by first | omega | (simp; omega)) ?_)) | refine so2 ?_) | (show AW _ _ _ _ _ _; first | (show AW _ _ (.region _ _ _) _ _ _; refine sc0 ?_; intro O1) | (refine sc1 ?_; try intro Q1)) | (show (_ → _) ∧ _; refine ⟨fun h => ?_, fun h => ?_⟩) | fail)
  refine Ar rfl (r_tostrL 0 (l := twL b) hG rfl rfl rfl rfl rfl rfl rfl rfl (by omega) rfl ?_)
  rw [twL_take]
  have h3 : ¬ ((b.length + 3 : Nat) : Int) < (b.length : Int) + 3 := by omega
  repeat' (first | (show AL _ _ _ _ _ _ _ _; first | (refine Ar Y ?_; (first | (show AOp _ _ ⟨_, .load _ _, _, _, _, _⟩ _ _ _; first | refine r_ldB (f := bT) 0 hG Y Y Y Y (by first | omega | (simp; omega)) Y ?_ | refine r_ldB (f := bT) 1 hG Y Y Y Y (by first | omega | (simp; omega)) Y ?_ | refine r_ldB (f := bT) 2 hG Y Y Y Y (by first | omega | (simp; omega)) Y ?_) | refine r_slC hG Y Y Y Y Y Y Y (by first | omega | (simp; omega)) ?_)) | refine so2 ?_) | (show AW _ _ _ _ _ _; first | (show AW _ _ (.region _ _ _) _ _ _; refine sc0 ?_; intro O1) | (refine sc1 ?_; try intro Q1)) | (show (_ → _) ∧ _; refine ⟨fun h => ?_, fun h => ?_⟩) | fail)
  refine aw_loop (X := KeX b) (fun x => [(1, sT b), (5, .aref 1 i 0 (b.length + 3) (some (b.length + 3))), (6, .int .i64 (x.i : Int))]) (fun x => ⟨[(i, .cells ((twL b).map bT))], [], off, none⟩) (fun x => b.length + 3 - x.i) ⟨b.length, by omega, Nat.le_refl _⟩ (by repeat (first | exact .nil _ | refine .cons rfl ?_)) (.refl _) ?_
  rintro ⟨q, hi, h0⟩
  dsimp only
  by_cases hq : q < b.length + 3
  · have hg : (((twL b).getD q default).toNat : Int) = 229 := by
      have : (twL b).getD q default = 0xe5 := by
        unfold twL
        simp only [List.getD]
        rw [List.getElem?_append_right h0]
        rcases (show q - b.length = 0 ∨ q - b.length = 1 ∨ q - b.length = 2 by omega) with e | e | e <;> rw [e] <;> rfl
      rw [this]; rfl
    repeat' (first | (show AL _ _ _ _ _ _ _ _; first | (refine Ar Y ?_; (first | (show AOp _ _ ⟨_, .load _ _, _, _, _, _⟩ _ _ _; first | refine r_ldB (f := bT) 0 hG Y Y Y Y (by first | omega | (simp; omega)) Y ?_ | refine r_ldB (f := bT) 1 hG Y Y Y Y (by first | omega | (simp; omega)) Y ?_ | refine r_ldB (f := bT) 2 hG Y Y Y Y (by first | omega | (simp; omega)) Y ?_) | refine r_slC hG Y Y Y Y Y Y Y (by first | omega | (simp; omega)) ?_)) | refine so2 ?_) | (show AW _ _ _ _ _ _; first | (show AW _ _ (.region _ _ _) _ _ _; refine sc0 ?_; intro O1) | (refine sc1 ?_; try intro Q1)) | (show (_ → _) ∧ _; refine ⟨fun h => ?_, fun h => ?_⟩) | fail)
    exact ⟨⟨q + 1, by omega, by omega⟩, by dsimp only; omega, (by repeat (first | exact .nil _ | refine .cons rfl ?_)), .refl _⟩
  · repeat' (first | (show AL _ _ _ _ _ _ _ _; first | (refine Ar Y ?_; (first | (show AOp _ _ ⟨_, .load _ _, _, _, _, _⟩ _ _ _; first | refine r_ldB (f := bT) 0 hG Y Y Y Y (by first | omega | (simp; omega)) Y ?_ | refine r_ldB (f := bT) 1 hG Y Y Y Y (by first | omega | (simp; omega)) Y ?_ | refine r_ldB (f := bT) 2 hG Y Y Y Y (by first | omega | (simp; omega)) Y ?_) | refine r_slC hG Y Y Y Y Y Y Y (by first | omega | (simp; omega)) ?_)) | refine so2 ?_) | (show AW _ _ _ _ _ _; first | (show AW _ _ (.region _ _ _) _ _ _; refine sc0 ?_; intro O1) | (refine sc1 ?_; try intro Q1)) | (show (_ → _) ∧ _; refine ⟨fun h => ?_, fun h => ?_⟩) | fail)
    exact ret_onL (Ab rfl Ac) (.refl _) (.refl _) (.refl _) rfl ⟨rfl, rfl⟩
structure SpX (c : Nat) where
  i : Nat
  l : List UInt8
  hi : i ≤ c
  hl : l.length = c
theorem law_Spoil {l : List UInt8} {n c : Nat} (hl : l.length = c) (hc : c ≤ 4294967296) (i : Nat) : OnL Try.prog 26 [.aref 1 i 0 n (some c)] [(i, .cells (l.map bT))] (fun u L => ∃ l' : List UInt8, l'.length = c ∧ u = .tup [] ∧ L = [(i, .cells (l'.map bT))]) := by
  intro off
  refine Ad (N := 17) (rs := []) hG Try.func26 rfl rfl rfl rfl rfl ?_
  repeat' (first | (show AL _ _ _ _ _ _ _ _; first | (refine Ar Y ?_; (first | (show AOp _ _ ⟨_, .load _ _, _, _, _, _⟩ _ _ _; first | refine r_ldB (f := bT) 0 hG Y Y Y Y (by first | omega | (simp; omega)) Y ?_ | refine r_ldB (f := bT) 1 hG Y Y Y Y (by first | omega | (simp; omega)) Y ?_ | refine r_ldB (f := bT) 2 hG Y Y Y Y (by first | omega | (simp; omega)) Y ?_) | refine r_slC hG Y Y Y Y Y Y Y (by first | omega | (simp; omega)) ?_)) | refine so2 ?_) | (show AW _ _ _ _ _ _; first | (show AW _ _ (.region _ _ _) _ _ _; refine sc0 ?_; intro O1) | (refine sc1 ?_; try intro Q1)) | (show (_ → _) ∧ _; refine ⟨fun h => ?_, fun h => ?_⟩) | fail)
  refine aw_loop (X := SpX c) (fun x => [(2, .aref 1 i 0 c (some c)), (3, .int .i64 (x.i : Int))]) (fun x => ⟨[(i, .cells (x.l.map bT))], [], off, none⟩) (fun x => c - x.i) ⟨0, l, Nat.zero_le _, hl⟩ (by repeat (first | exact .nil _ | refine .cons rfl ?_)) (.refl _) ?_
  rintro ⟨q, l, hi, hl⟩
  dsimp only
  by_cases hq : q < c
  · repeat' (first | (show AL _ _ _ _ _ _ _ _; (fail_if_success show AL _ _ _ _ _ (⟨_, .store _ _ _, _, _, _, _⟩ :: _) _ _); first | (refine Ar Y ?_; (first | (show AOp _ _ ⟨_, .load _ _, _, _, _, _⟩ _ _ _; first | refine r_ldB (f := bT) 0 hG Y Y Y Y (by first | omega | (simp; omega)) Y ?_ | refine r_ldB (f := bT) 1 hG Y Y Y Y (by first | omega | (simp; omega)) Y ?_ | refine r_ldB (f := bT) 2 hG Y Y Y Y (by first | omega | (simp; omega)) Y ?_) | refine r_slC hG Y Y Y Y Y Y Y (by first | omega | (simp; omega)) ?_)) | refine so2 ?_) | (show AW _ _ _ _ _ _; first | (show AW _ _ (.region _ _ _) _ _ _; refine sc0 ?_; intro O1) | (refine sc1 ?_; try intro Q1)) | (show (_ → _) ∧ _; refine ⟨fun h => ?_, fun h => ?_⟩) | fail)
    refine Ar rfl (r_stB 0 (l := l) (0x5a : UInt8) hG rfl rfl rfl bT_cells bT_sc rfl rfl (by omega) ?_)
    repeat' (first | (show AL _ _ _ _ _ _ _ _; first | (refine Ar Y ?_; (first | (show AOp _ _ ⟨_, .load _ _, _, _, _, _⟩ _ _ _; first | refine r_ldB (f := bT) 0 hG Y Y Y Y (by first | omega | (simp; omega)) Y ?_ | refine r_ldB (f := bT) 1 hG Y Y Y Y (by first | omega | (simp; omega)) Y ?_ | refine r_ldB (f := bT) 2 hG Y Y Y Y (by first | omega | (simp; omega)) Y ?_) | refine r_slC hG Y Y Y Y Y Y Y (by first | omega | (simp; omega)) ?_)) | refine so2 ?_) | (show AW _ _ _ _ _ _; first | (show AW _ _ (.region _ _ _) _ _ _; refine sc0 ?_; intro O1) | (refine sc1 ?_; try intro Q1)) | (show (_ → _) ∧ _; refine ⟨fun h => ?_, fun h => ?_⟩) | fail)
    exact ⟨⟨q + 1, l.set q 0x5a, by omega, by simpa using hl⟩, by dsimp only; omega, (by repeat (first | exact .nil _ | refine .cons rfl ?_)), .refl _⟩
  · repeat' (first | (show AL _ _ _ _ _ _ _ _; first | (refine Ar Y ?_; (first | (show AOp _ _ ⟨_, .load _ _, _, _, _, _⟩ _ _ _; first | refine r_ldB (f := bT) 0 hG Y Y Y Y (by first | omega | (simp; omega)) Y ?_ | refine r_ldB (f := bT) 1 hG Y Y Y Y (by first | omega | (simp; omega)) Y ?_ | refine r_ldB (f := bT) 2 hG Y Y Y Y (by first | omega | (simp; omega)) Y ?_) | refine r_slC hG Y Y Y Y Y Y Y (by first | omega | (simp; omega)) ?_)) | refine so2 ?_) | (show AW _ _ _ _ _ _; first | (show AW _ _ (.region _ _ _) _ _ _; refine sc0 ?_; intro O1) | (refine sc1 ?_; try intro Q1)) | (show (_ → _) ∧ _; refine ⟨fun h => ?_, fun h => ?_⟩) | fail)
    refine aw_exit ?_
    exact ret_onLE Ac (.refl _) (.refl _) (.refl _) rfl ⟨l, hl, rfl, rfl⟩
end Go.Proofs.Ythfgocinlbogeaa
set_option maxHeartbeats 4000000
namespace Go.Proofs.Ythfgocinlbogeaa
open Go.Ts Go.Sets
attribute [local irreducible] Go.Ts.AW Go.Ts.AOps Go.Ts.AL Go.Ts.AOp Go.Ts.ACalls Go.Ts.DL Go.Ts.DQ Go.Ts.EL
structure MSX (a : List UInt16) where
  i : Nat
  hi : 1 ≤ i
  hp : ∀ j, j + 1 < i → j + 1 < a.length → a.getD j default < a.getD (j + 1) default
theorem ref_MaySet {x : T} {a : List UInt16} (hx : catsT x = some a) (hl : a.length ≤ 140737488351232) : Pure Try.prog 100 [x] (.bool (mayC a)) := by
  refine Pure.weak (us := [cT a]) ?_ (wk1 (catsT_wk hx))
  intro off
  refine Ad (N := 23) (rs := [.tmp 2]) hG Try.func100 rfl rfl rfl rfl rfl ?_
  repeat' (first | (show AL _ _ _ _ _ _ _ _; first | refine so0 ?_) | (show DL _ _ _ _ _ _ _; first | refine do0 ?_) | (show AW _ _ _ _ _ _; first | (show AW _ _ (.region _ _ _) _ _ _; refine sc0 ?_; intro O1) | (refine sc0 ?_; try intro Q1)) | (show (_ → _) ∧ _; refine ⟨fun h => ?_, fun h => ?_⟩) | fail)
  refine aw_loop (X := MSX a) (fun x => [(0, cT a), (3, .int .i64 x.i)]) (fun x => ⟨[], [], off, none⟩) (fun x => a.length - x.i) ⟨1, by omega, fun j h1 h2 => by omega⟩ ?_ (.refl _) ?_
  · exact .cons rfl (.consW rfl (.int rfl) (.nil _))
  rintro ⟨i, hi, hp⟩
  dsimp only
  obtain ⟨i, rfl⟩ : ∃ j, i = j + 1 := ⟨i - 1, by omega⟩
  by_cases hib : i + 1 < a.length
  · have e : (((i + 1 : Nat) : Int) - 1).toNat = i := by omega
    repeat' (first | (show AL _ _ _ _ _ _ _ _; first | refine so0 ?_) | (show DL _ _ _ _ _ _ _; first | refine do0 ?_) | (show AW _ _ _ _ _ _; first | (show AW _ _ (.region _ _ _) _ _ _; refine sc0 ?_; intro O1) | (refine sc0 ?_; try intro Q1)) | (show (_ → _) ∧ _; refine ⟨fun h => ?_, fun h => ?_⟩) | fail)
    · rw [e] at h
      refine Ag (Ab rfl Ac) (.eq ?_) rfl
      have : risesB a = false := Bool.eq_false_iff.2 fun hr => by
        have := (rises_adj a).1 hr i hib
        rw [UInt16.lt_iff_toNat_lt] at this; omega
      rw [mayC, this, Bool.and_false]; rfl
    · rw [e] at h
      refine ⟨⟨i + 2, by omega, fun j h1 h2 => ?_⟩, by dsimp only; omega, ?_, .refl _⟩
      · by_cases hj : j + 1 < i + 1
        · exact hp j hj h2
        · obtain rfl : j = i := by omega
          rw [UInt16.lt_iff_toNat_lt]; omega
      · exact .cons rfl (.consW rfl (.int (by simp; omega)) (.nil _))
  · have : risesB a = true := (rises_adj a).2 fun j hj => hp j (by omega) hj
    by_cases h16 : a.length ≤ 16
    · repeat' (first | (show AL _ _ _ _ _ _ _ _; first | refine so0 ?_) | (show DL _ _ _ _ _ _ _; first | refine do0 ?_) | (show AW _ _ _ _ _ _; first | (show AW _ _ (.region _ _ _) _ _ _; refine sc0 ?_; intro O1) | (refine sc0 ?_; try intro Q1)) | (show (_ → _) ∧ _; refine ⟨fun h => ?_, fun h => ?_⟩) | fail)
      refine Ag (Ab rfl Ac) (.eq ?_) rfl
      rw [mayC, this, Bool.and_true, decide_eq_true h16]; rfl
    · repeat' (first | (show AL _ _ _ _ _ _ _ _; first | refine so0 ?_) | (show DL _ _ _ _ _ _ _; first | refine do0 ?_) | (show AW _ _ _ _ _ _; first | (show AW _ _ (.region _ _ _) _ _ _; refine sc0 ?_; intro O1) | (refine sc0 ?_; try intro Q1)) | (show (_ → _) ∧ _; refine ⟨fun h => ?_, fun h => ?_⟩) | fail)
      refine Ag (Ab rfl Ac) (.eq ?_) rfl
      rw [mayC, decide_eq_false h16]; rfl

end Go.Proofs.Ythfgocinlbogeaa
set_option maxHeartbeats 4000000
namespace Go.Proofs.Ythfgocinlbogeaa
open Go.Ts Go.Sets
attribute [local irreducible] Go.Ts.AW Go.Ts.AOps Go.Ts.AL Go.Ts.AOp Go.Ts.ACalls Go.Ts.DL Go.Ts.DQ Go.Ts.EL
theorem ref_TakeSet {x : T} {b : List UInt8} (hx : bytesT x = some b) (hl : b.length ≤ 4294967296) : Pure Try.prog 80 [x] (tcT (takeC b)) := by
  refine Pure.weak (us := [sT b]) ?_ (wk1 (bytesT_wk hx))
  intro off
  refine Ad (N := 53) (rs := [.tmp 2, .tmp 3, .tmp 4]) hG Try.func80 rfl rfl rfl rfl rfl ?_
  by_cases h1 : b.length < 1
  · have hr : takeC b = ([], 0, 3) := by rw [takeC, if_pos h1]
    rw [hr]
    repeat' (first | (show AL _ _ _ _ _ _ _ _; first | refine so0 ?_ | (refine sa ?_; intro k)) | (show AW _ _ _ _ _ _; first | (show AW _ _ (.region _ _ _) _ _ _; refine sc0 ?_; intro O1) | (refine sc0 ?_; try intro Q1)) | (show (_ → _) ∧ _; refine ⟨fun h => ?_, fun h => ?_⟩) | fail)
    exact Ag (Ab rfl (Ab rfl (Ab rfl Ac))) (Wk.tupL (wk3 (.nil 1) (.refl _) (.refl _))) rfl
  obtain ⟨c0, b1, rfl⟩ : ∃ c b1, b = c :: b1 := by cases b with | nil => simp at h1 | cons c b1 => exact ⟨c, b1, rfl⟩
  have hv : c0.toNat < 256 := c0.toNat_lt
  have hn : beV ((c0 :: b1).take 1) = c0.toNat := by simp [beV]
  have hbl : (c0 :: b1).length = b1.length + 1 := rfl
  generalize hb : c0 :: b1 = b at *
  have hbl2 : (c0 :: b1).length = b.length := by rw [hb]
  have hb0 : sT b = .sl 1 .no ((c0 :: b1).map bT) := by rw [hb]; rfl
  by_cases h2 : b.length < 1 + 2 * c0.toNat
  · have hr : takeC b = ([], 0, 3) := by rw [takeC, if_neg h1, hn, if_pos h2]
    rw [hr]
    rw [hb0]
    repeat' (first | (show AL _ _ _ _ _ _ _ _; first | refine so0 ?_ | (refine sa ?_; intro k)) | (show AW _ _ _ _ _ _; first | (show AW _ _ (.region _ _ _) _ _ _; refine sc0 ?_; intro O1) | (refine sc0 ?_; try intro Q1)) | (show (_ → _) ∧ _; refine ⟨fun h => ?_, fun h => ?_⟩) | fail)
    exact Ag (Ab rfl (Ab rfl (Ab rfl Ac))) (Wk.tupL (wk3 (.nil 1) (.refl _) (.refl _))) rfl
  generalize hg : (fun i => UInt16.ofNat (beV ((b.drop (1 + 2 * i)).take 2))) = g
  have hr : takeC b = if mayC ((List.range c0.toNat).map g) then ((List.range c0.toNat).map g, 1 + 2 * c0.toNat, 0) else ([], 0, 2) := by rw [takeC, if_neg h1, hn, if_neg h2, hg]
  rw [hr]
  rw [hb0]
  repeat' (first | (show AL _ _ _ _ _ _ _ _; first | refine so0 ?_ | (refine sa ?_; intro k)) | (show AW _ _ _ _ _ _; first | (show AW _ _ (.region _ _ _) _ _ _; refine sc0 ?_; intro O1) | (refine sc0 ?_; try intro Q1)) | (show (_ → _) ∧ _; refine ⟨fun h => ?_, fun h => ?_⟩) | fail)
  refine aw_tok0 5 1 rfl rfl rfl rfl (fun k => ?_)
  refine aw_loop (X := TCX c0.toNat) (fun x => [(0, .sl 1 .no ((c0 :: b1).map bT)), (6, .int .i64 x.i), (5, .sl 1 (.tok x.k) (((List.range x.i).map g).map hT))]) (fun x => ⟨[], [x.k], off, none⟩) (fun x => c0.toNat - x.i) ⟨0, k, Nat.zero_le _⟩ ?_ (.refl _) ?_
  · exact .cons rfl (.consW rfl (.int rfl) (.consW rfl (.eq (by simp)) (.nil _)))
  rintro ⟨i, k, hi⟩
  dsimp only
  have hrl : (List.range i).length = i := List.length_range
  by_cases hib : i < c0.toNat
  · have e : ((1 : Int) + 2 * (i : Int)).toNat = 1 + 2 * i := by omega
    have hd : ((c0 :: b1).drop ((1 : Int) + 2 * (i : Int)).toNat).length = b.length - (1 + 2 * i) := by rw [List.length_drop, e, hb]
    have hc2 := takeE2 ((c0 :: b1).drop ((1 : Int) + 2 * (i : Int)).toNat)
    rw [if_neg (by omega)] at hc2
    have hc3 := ref_Take_is (bytesT_s _) hc2
    have hw := beV2 ((c0 :: b1).drop ((1 : Int) + 2 * (i : Int)).toNat) (by omega)
    have hgi : UInt16.ofNat (beV (((c0 :: b1).drop ((1 : Int) + 2 * (i : Int)).toNat).take 2)) = g i := by rw [← hg, e, hb]
    generalize beV (((c0 :: b1).drop ((1 : Int) + 2 * (i : Int)).toNat).take 2) = v at *
    have ht := hT_of v hw
    rw [hgi] at ht
    repeat' (first | (show AL _ _ _ _ _ _ _ _; first | refine so0 ?_ | refine sp Y Y Y Y Y Y (by apply hc3 <;> exact sd) ?_ | (refine sa ?_; intro k)) | (show AW _ _ _ _ _ _; first | (show AW _ _ (.region _ _ _) _ _ _; refine sc0 ?_; intro O1) | (refine sc0 ?_; try intro Q1)) | (show (_ → _) ∧ _; refine ⟨fun h => ?_, fun h => ?_⟩) | fail)
    refine Ar rfl (r_appm 0 (ys := [g i]) hG rfl rfl rfl rfl rfl rfl rfl ⟨_, rfl⟩ rfl rfl rfl rfl (congrArg (fun t => [t]) ht) (by simp; omega) (fun k' => ?_))
    repeat' (first | (show AL _ _ _ _ _ _ _ _; first | refine so0 ?_ | (refine sa ?_; intro k)) | (show AW _ _ _ _ _ _; first | (show AW _ _ (.region _ _ _) _ _ _; refine sc0 ?_; intro O1) | (refine sc0 ?_; try intro Q1)) | (show (_ → _) ∧ _; refine ⟨fun h => ?_, fun h => ?_⟩) | fail)
    refine ⟨⟨i + 1, k', by omega⟩, by dsimp only; omega, ?_, .refl _⟩
    exact .cons rfl (.consW rfl (.int (by simp)) (.consW rfl (.eq (by rw [List.range_succ]; simp)) (.nil _)))
  · obtain rfl : i = c0.toNat := by omega
    have hm := ref_MaySet (x := .sl 1 (.tok k) (((List.range c0.toNat).map g).map hT)) (catsT_map _ _) (by simp; omega)
    have hll : ((List.range c0.toNat).map g).length = c0.toNat := by simp
    cases hma : mayC ((List.range c0.toNat).map g) <;> rw [hma] at hm
    · repeat' (first | (show AL _ _ _ _ _ _ _ _; first | refine so0 ?_ | refine sp Y Y Y Y Y Y (by apply hm <;> exact sd) ?_ | (refine sa ?_; intro k)) | (show AW _ _ _ _ _ _; first | (show AW _ _ (.region _ _ _) _ _ _; refine sc0 ?_; intro O1) | (refine sc0 ?_; try intro Q1)) | (show (_ → _) ∧ _; refine ⟨fun h => ?_, fun h => ?_⟩) | fail)
      refine Ag (Ab rfl (Ab rfl (Ab rfl Ac))) ?_ rfl
      rw [hma]
      exact Wk.tupL (wk3 (.nil 1) (.refl _) (.refl _))
    · repeat' (first | (show AL _ _ _ _ _ _ _ _; first | refine so0 ?_ | refine sp Y Y Y Y Y Y (by apply hm <;> exact sd) ?_ | (refine sa ?_; intro k)) | (show AW _ _ _ _ _ _; first | (show AW _ _ (.region _ _ _) _ _ _; refine sc0 ?_; intro O1) | (refine sc0 ?_; try intro Q1)) | (show (_ → _) ∧ _; refine ⟨fun h => ?_, fun h => ?_⟩) | fail)
      refine Ag (Ab rfl (Ab rfl (Ab rfl Ac))) ?_ rfl
      rw [hma]
      exact Wk.tupL (wk3 (Wk.own _ _ _) (.int (by simp)) (.refl _))

structure SSX (a b : List UInt16) where
  i : Nat
  hi : i ≤ a.length
  hp : ∀ j, j < i → a.getD j default = b.getD j default
theorem ref_SameSet {x y : T} {a b : List UInt16} (hx : catsT x = some a) (hy : catsT y = some b) (hl : a.length ≤ 4294967296) (hm : b.length ≤ 4294967296) : Pure Try.prog 58 [x, y] (.bool (decide (a = b))) := by
  refine Pure.weak (us := [cT a, cT b]) ?_ (wk2 (catsT_wk hx) (catsT_wk hy))
  intro off
  refine Ad (N := 26) (rs := [.tmp 4]) hG Try.func58 rfl rfl rfl rfl rfl ?_
  by_cases hlen : a.length = b.length
  · repeat' (first | (show AL _ _ _ _ _ _ _ _; first | refine so0 ?_) | (show DL _ _ _ _ _ _ _; first | refine do0 ?_) | (show AW _ _ _ _ _ _; first | (show AW _ _ (.region _ _ _) _ _ _; refine sc0 ?_; intro O1) | (refine sc0 ?_; try intro Q1)) | (show (_ → _) ∧ _; refine ⟨fun h => ?_, fun h => ?_⟩) | fail)
    refine aw_loop (X := SSX a b) (fun x => [(0, cT a), (1, cT b), (5, .int .i64 x.i)]) (fun x => ⟨[], [], off, none⟩) (fun x => a.length - x.i) ⟨0, Nat.zero_le _, fun j hj => by omega⟩ ?_ (.refl _) ?_
    · exact .cons rfl (.cons rfl (.consW rfl (.int rfl) (.nil _)))
    rintro ⟨i, hi, hp⟩
    dsimp only
    by_cases hib : i < a.length
    · by_cases heq : (((a.getD i default).toNat : Int) = ((b.getD i default).toNat : Int))
      · repeat' (first | (show AL _ _ _ _ _ _ _ _; first | refine so0 ?_) | (show DL _ _ _ _ _ _ _; first | refine do0 ?_) | (show AW _ _ _ _ _ _; first | (show AW _ _ (.region _ _ _) _ _ _; refine sc0 ?_; intro O1) | (refine sc0 ?_; try intro Q1)) | (show (_ → _) ∧ _; refine ⟨fun h => ?_, fun h => ?_⟩) | fail)
        refine ⟨⟨i + 1, by omega, fun j hj => ?_⟩, by dsimp only; omega, ?_, .refl _⟩
        · by_cases hj2 : j < i
          · exact hp j hj2
          · obtain rfl : j = i := by omega
            rw [← UInt16.toNat_inj]; omega
        · exact .cons rfl (.cons rfl (.consW rfl (.int (by simp)) (.nil _)))
      · repeat' (first | (show AL _ _ _ _ _ _ _ _; first | refine so0 ?_) | (show DL _ _ _ _ _ _ _; first | refine do0 ?_) | (show AW _ _ _ _ _ _; first | (show AW _ _ (.region _ _ _) _ _ _; refine sc0 ?_; intro O1) | (refine sc0 ?_; try intro Q1)) | (show (_ → _) ∧ _; refine ⟨fun h => ?_, fun h => ?_⟩) | fail)
        refine Ag (Ab rfl Ac) (.eq ?_) rfl
        rw [decide_eq_false (fun h => heq (by rw [h]))]; rfl
    · repeat' (first | (show AL _ _ _ _ _ _ _ _; first | refine so0 ?_) | (show DL _ _ _ _ _ _ _; first | refine do0 ?_) | (show AW _ _ _ _ _ _; first | (show AW _ _ (.region _ _ _) _ _ _; refine sc0 ?_; intro O1) | (refine sc0 ?_; try intro Q1)) | (show (_ → _) ∧ _; refine ⟨fun h => ?_, fun h => ?_⟩) | fail)
      refine Ag (Ab rfl Ac) (.eq ?_) rfl
      have : a = b := List.ext_getElem hlen fun j h1 h2 => by
        have := hp j (by omega)
        simpa [List.getD_eq_getElem?_getD, List.getElem?_eq_getElem, h1, h2] using this
      rw [decide_eq_true this]; rfl
  · repeat' (first | (show AL _ _ _ _ _ _ _ _; first | refine so0 ?_) | (show DL _ _ _ _ _ _ _; first | refine do0 ?_) | (show AW _ _ _ _ _ _; first | (show AW _ _ (.region _ _ _) _ _ _; refine sc0 ?_; intro O1) | (refine sc0 ?_; try intro Q1)) | (show (_ → _) ∧ _; refine ⟨fun h => ?_, fun h => ?_⟩) | fail)
    refine Ag (Ab rfl Ac) (.eq ?_) rfl
    rw [decide_eq_false (fun h => hlen (by rw [h]))]; rfl
end Go.Proofs.Ythfgocinlbogeaa
set_option maxHeartbeats 4000000
namespace Go.Proofs.Ythfgocinlbogeaa
open Go.Ts Go.Sets
attribute [local irreducible] Go.Ts.AW Go.Ts.AOps Go.Ts.AL Go.Ts.AOp Go.Ts.ACalls Go.Ts.DL Go.Ts.DQ Go.Ts.EL
def setsV (a b c : List UInt16) : T := .agg [cT a, cT b, cT c]
theorem sets_wk {x y z : T} {a b c : List UInt16} (hx : catsT x = some a) (hy : catsT y = some b) (hz : catsT z = some c) : Wk (.agg [x, y, z]) (setsV a b c) := Wk.aggL (wk3 (catsT_wk hx) (catsT_wk hy) (catsT_wk hz))
theorem ref_SameSets {x y z x' y' z' : T} {a b c a' b' c' : List UInt16} (hx : catsT x = some a) (hy : catsT y = some b) (hz : catsT z = some c) (hx' : catsT x' = some a') (hy' : catsT y' = some b') (hz' : catsT z' = some c')
    (ha : a.length ≤ 1000000000) (hb : b.length ≤ 1000000000) (hc : c.length ≤ 1000000000) (ha' : a'.length ≤ 1000000000) (hb' : b'.length ≤ 1000000000) (hc' : c'.length ≤ 1000000000) :
    Pure Try.prog 57 [.agg [x, y, z], .agg [x', y', z']] (.bool (decide (a = a' ∧ b = b' ∧ c = c'))) := by
  refine Pure.weak (us := [setsV a b c, setsV a' b' c']) ?_ (wk2 (sets_wk hx hy hz) (sets_wk hx' hy' hz'))
  intro off
  refine Ad (N := 24) (rs := [.tmp 4]) hG Try.func57 rfl rfl rfl rfl rfl ?_
  have m1 := ref_SameSet (catsT_c a) (catsT_c a') (by omega) (by omega)
  have m2 := ref_SameSet (catsT_c b) (catsT_c b') (by omega) (by omega)
  have m3 := ref_SameSet (catsT_c c) (catsT_c c') (by omega) (by omega)
  by_cases h1 : a = a'
  · rw [decide_eq_true h1] at m1
    by_cases h2 : b = b'
    · rw [decide_eq_true h2] at m2
      by_cases h3 : c = c'
      · rw [decide_eq_true h3] at m3
        repeat' (first | (show AL _ _ _ _ _ _ _ _; first | refine so0 ?_ | refine sp Y Y Y Y Y Y (by apply m1 <;> exact sd) ?_ | refine sp Y Y Y Y Y Y (by apply m2 <;> exact sd) ?_ | refine sp Y Y Y Y Y Y (by apply m3 <;> exact sd) ?_ | (refine sb ?_; intro i)) | (show AW _ _ _ _ _ _; first | (show AW _ _ (.region _ _ _) _ _ _; refine sc0 ?_; intro O1) | (refine sc0 ?_; try intro Q1)) | (show (_ → _) ∧ _; refine ⟨fun h => ?_, fun h => ?_⟩) | fail)
        exact Ag (Ab rfl Ac) (.eq (by rw [decide_eq_true ⟨h1, h2, h3⟩]; rfl)) rfl
      · rw [decide_eq_false h3] at m3
        repeat' (first | (show AL _ _ _ _ _ _ _ _; first | refine so0 ?_ | refine sp Y Y Y Y Y Y (by apply m1 <;> exact sd) ?_ | refine sp Y Y Y Y Y Y (by apply m2 <;> exact sd) ?_ | refine sp Y Y Y Y Y Y (by apply m3 <;> exact sd) ?_ | (refine sb ?_; intro i)) | (show AW _ _ _ _ _ _; first | (show AW _ _ (.region _ _ _) _ _ _; refine sc0 ?_; intro O1) | (refine sc0 ?_; try intro Q1)) | (show (_ → _) ∧ _; refine ⟨fun h => ?_, fun h => ?_⟩) | fail)
        exact Ag (Ab rfl Ac) (.eq (by rw [decide_eq_false fun h => h3 h.2.2]; rfl)) rfl
    · rw [decide_eq_false h2] at m2
      repeat' (first | (show AL _ _ _ _ _ _ _ _; first | refine so0 ?_ | refine sp Y Y Y Y Y Y (by apply m1 <;> exact sd) ?_ | refine sp Y Y Y Y Y Y (by apply m2 <;> exact sd) ?_ | refine sp Y Y Y Y Y Y (by apply m3 <;> exact sd) ?_ | (refine sb ?_; intro i)) | (show AW _ _ _ _ _ _; first | (show AW _ _ (.region _ _ _) _ _ _; refine sc0 ?_; intro O1) | (refine sc0 ?_; try intro Q1)) | (show (_ → _) ∧ _; refine ⟨fun h => ?_, fun h => ?_⟩) | fail)
      exact Ag (Ab rfl Ac) (.eq (by rw [decide_eq_false fun h => h2 h.2.1]; rfl)) rfl
  · rw [decide_eq_false h1] at m1
    repeat' (first | (show AL _ _ _ _ _ _ _ _; first | refine so0 ?_ | refine sp Y Y Y Y Y Y (by apply m1 <;> exact sd) ?_ | refine sp Y Y Y Y Y Y (by apply m2 <;> exact sd) ?_ | refine sp Y Y Y Y Y Y (by apply m3 <;> exact sd) ?_ | (refine sb ?_; intro i)) | (show AW _ _ _ _ _ _; first | (show AW _ _ (.region _ _ _) _ _ _; refine sc0 ?_; intro O1) | (refine sc0 ?_; try intro Q1)) | (show (_ → _) ∧ _; refine ⟨fun h => ?_, fun h => ?_⟩) | fail)
    exact Ag (Ab rfl Ac) (.eq (by rw [decide_eq_false fun h => h1 h.1]; rfl)) rfl

end Go.Proofs.Ythfgocinlbogeaa
set_option maxHeartbeats 4000000
namespace Go.Proofs.Ythfgocinlbogeaa
open Go.Ts Go.Sets
attribute [local irreducible] Go.Ts.AW Go.Ts.AOps Go.Ts.AL Go.Ts.AOp Go.Ts.ACalls Go.Ts.DL Go.Ts.DQ Go.Ts.EL
theorem takeC_used {s : List UInt8} {a : List UInt16} {n : Nat} (h : takeC s = (a, n, 0)) : n ≤ s.length ∧ a.length ≤ 16 ∧ 1 ≤ n := by
  unfold takeC at h
  split at h
  · injection h with h1 h2; injection h2 with h3 h4; cases h4
  · split at h
    · injection h with h1 h2; injection h2 with h3 h4; cases h4
    · split at h
      · rename_i q1 q2 q3
        injection h with h1 h2; injection h2 with h3 h4; subst h3; subst h1
        refine ⟨by omega, ?_, by omega⟩
        unfold mayC at q3
        rw [Bool.and_eq_true, decide_eq_true_eq] at q3
        exact q3.1
      · injection h with h1 h2; injection h2 with h3 h4; cases h4
end Go.Proofs.Ythfgocinlbogeaa
set_option maxHeartbeats 4000000
namespace Go.Proofs.Ythfgocinlbogeaa
open Go.Ts Go.Sets
set_option linter.unusedSimpArgs false
set_option linter.unusedVariables false
attribute [local irreducible] Go.Ts.AW Go.Ts.AOps Go.Ts.AL Go.Ts.AOp Go.Ts.ACalls Go.Ts.DL Go.Ts.DQ Go.Ts.DQ0 Go.Ts.EL
theorem num_Take_v {l : List UInt8} {o m : Nat} (h : o + m ≤ l.length) (tw : Nat) {n e : Int} {v : Nat} (hT : takeE (win l o m) n = (v, e)) :
    OnL Try.prog 14 [tvT tw o m, .int .i64 n] [(tw, .cells (l.map bT))] (fun u L => u = .tup [.int .u64 v, .int .i64 e] ∧ L = [(tw, .cells (l.map bT))]) := by
  refine lend (num_Take_is (x := sT (win l o m)) (bytesT_s _) hT) (Plain.tup2 (.int _ _) (.int _ _)) rfl fun j u t hu ht => ?_
  match j with
  | 0 => simp at hu ht; subst hu; subst ht; exact Lends.row (List.mem_singleton.2 rfl) h
  | 1 => simp at hu ht; subst hu; subst ht; exact Lends.refl _
  | j + 2 => simp at hu
theorem clone_t {l : List UInt8} {o n : Nat} {cap : Option Nat} (h : o + n ≤ l.length) (hl : n ≤ 4294967296) (i : Nat) : OwnsL Try.prog 44 [.aref 1 i o n cap] [(i, .cells (l.map bT))] 1 ((win l o n).map bT) := by
  intro off
  refine Ad (N := 8) (rs := [.tmp 2]) hG Try.func44 rfl rfl rfl rfl rfl ?_
  repeat' (first | (show AL _ _ _ _ _ _ _ _; first | refine so2 ?_ | (refine sa ?_; intro k)) | (show AW _ _ _ _ _ _; first | (show AW _ _ (.region _ _ _) _ _ _; refine sc0 ?_; intro O1) | (refine sc1 ?_; try intro Q1)) | (show (_ → _) ∧ _; refine ⟨fun h => ?_, fun h => ?_⟩) | fail)
  refine Ar rfl (r_nilA hG rfl rfl rfl ?_)
  repeat' (first | (show AL _ _ _ _ _ _ _ _; (fail_if_success show AL _ _ _ _ _ (⟨_, .call ⟨.builtin .append, _, _⟩, _, _, _, _⟩ :: _) _ _); first | refine so2 ?_ | (refine sa ?_; intro k)) | (show AW _ _ _ _ _ _; first | (show AW _ _ (.region _ _ _) _ _ _; refine sc0 ?_; intro O1) | (refine sc1 ?_; try intro Q1)) | (show (_ → _) ∧ _; refine ⟨fun h => ?_, fun h => ?_⟩) | fail)
  refine Ar rfl (r_app0O (l := l) hG rfl rfl rfl rfl rfl rfl ⟨_, rfl⟩ rfl (List.mem_singleton.2 rfl) h rfl rfl hl (fun k => ?_))
  repeat' (first | (show AL _ _ _ _ _ _ _ _; first | refine so2 ?_ | (refine sa ?_; intro k)) | (show AW _ _ _ _ _ _; first | (show AW _ _ (.region _ _ _) _ _ _; refine sc0 ?_; intro O1) | (refine sc1 ?_; try intro Q1)) | (show (_ → _) ∧ _; refine ⟨fun h => ?_, fun h => ?_⟩) | fail)
  exact ret_ownsL 0 (Ab rfl Ac) rfl rfl rfl rfl
theorem num_TakeBytes_v {l : List UInt8} {o m : Nat} (h : o + m ≤ l.length) (hl : m ≤ 4294967296) (tw : Nat) :
    OnL Try.prog 42 [tvT tw o m] [(tw, .cells (l.map bT))] (fun u L => u = tbT (Ay (win l o m)) ∧ L = [(tw, .cells (l.map bT))]) := by
  intro off
  refine Ad (N := 29) (rs := [.tmp 2, .tmp 3, .tmp 4]) hG Try.func42 rfl rfl rfl rfl rfl ?_
  have hb := win_len h
  have hT := takeE2 (win l o m)
  by_cases h2 : m < 2
  · rw [if_pos (by omega)] at hT
    have hr : Ay (win l o m) = ([], 0, 3) := by rw [Ay, if_pos (by omega)]
    have hc := num_Take_v h tw hT
    rw [hr]
    repeat' (first | (show AL _ _ _ _ _ _ _ _; first | refine so2 ?_ | refine al_onS hc Y Y Y Y Y hs ?_) | (show AW _ _ _ _ _ _; first | (show AW _ _ (.region _ _ _) _ _ _; refine sc0 ?_; intro O1) | (refine sc1 ?_; try intro Q1)) | (show (_ → _) ∧ _; refine ⟨fun h => ?_, fun h => ?_⟩) | fail)
    exact ret_on (L' := [(tw, .cells (l.map bT))]) (Ab rfl (Ab rfl (Ab rfl Ac))) hs (Wk.tupL (wk3 (.nil 1) (.refl _) (.refl _))) rfl ⟨rfl, rfl⟩
  rw [if_neg (by omega)] at hT
  have hv := beV2 (win l o m) (by omega)
  have hc := num_Take_v h tw hT
  have hr : Ay (win l o m) = if m - 2 < beV ((win l o m).take 2) then ([], 0, 3) else (((win l o m).take (2 + beV ((win l o m).take 2))).drop 2, 2 + beV ((win l o m).take 2), 0) := by
    rw [Ay, if_neg (by omega)]
    by_cases q : m - 2 < beV ((win l o m).take 2)
    · rw [if_pos q, if_pos (by omega)]
    · rw [if_neg q, if_neg (by omega)]
  have hw : ∀ k, k ≤ m - 2 → ((win l o m).take (2 + k)).drop 2 = win l (o + 2) k := fun k hk => by
    rw [win_take (by omega), win_drop]; congr 1; omega
  rw [hr]
  generalize beV ((win l o m).take 2) = k at *
  by_cases h3 : m - 2 < k
  · repeat' (first | (show AL _ _ _ _ _ _ _ _; first | refine so2 ?_ | refine al_onS hc Y Y Y Y Y hs ?_) | (show AW _ _ _ _ _ _; first | (show AW _ _ (.region _ _ _) _ _ _; refine sc0 ?_; intro O1) | (refine sc1 ?_; try intro Q1)) | (show (_ → _) ∧ _; refine ⟨fun h => ?_, fun h => ?_⟩) | fail)
    refine ret_on (L' := [(tw, .cells (l.map bT))]) (Ab rfl (Ab rfl (Ab rfl Ac))) hs ?_ rfl ⟨rfl, rfl⟩
    rw [if_pos h3]
    exact Wk.tupL (wk3 (.nil 1) (.refl _) (.refl _))
  · repeat' (first | (show AL _ _ _ _ _ _ _ _; (fail_if_success show AL _ _ _ _ _ (⟨_, .slice _ _ _ _ _, _, _, _, _⟩ :: _) _ _); first | refine so2 ?_ | refine al_onS hc Y Y Y Y Y hs ?_) | (show AW _ _ _ _ _ _; first | (show AW _ _ (.region _ _ _) _ _ _; refine sc0 ?_; intro O1) | (refine sc1 ?_; try intro Q1)) | (show (_ → _) ∧ _; refine ⟨fun h => ?_, fun h => ?_⟩) | fail)
    refine Ar rfl (r_tvC (l := 2) (h := 2 + k) hG rfl rfl rfl rfl rfl rfl rfl rfl (by omega) ?_)
    have hC := clone_t (l := l) (o := o + 2) (n := 2 + k - 2) (cap := some (m + 3 - 2)) (by omega) (by omega) tw
    repeat' (first | (show AL _ _ _ _ _ _ _ _; first | refine so2 ?_) | (show AW _ _ _ _ _ _; first | (show AW _ _ (.region _ _ _) _ _ _; refine sc0 ?_; intro O1) | (refine sc1 ?_; try intro Q1)) | (show (_ → _) ∧ _; refine ⟨fun h => ?_, fun h => ?_⟩) | fail)
    refine Ar rfl (r_ownsL rfl rfl rfl rfl (Lf := []) (.refl _) hC (fun k1 => ?_))
    repeat' (first | (show AL _ _ _ _ _ _ _ _; first | refine so2 ?_) | (show AW _ _ _ _ _ _; first | (show AW _ _ (.region _ _ _) _ _ _; refine sc0 ?_; intro O1) | (refine sc1 ?_; try intro Q1)) | (show (_ → _) ∧ _; refine ⟨fun h => ?_, fun h => ?_⟩) | fail)
    refine ret_on (L' := [(tw, .cells (l.map bT))]) (Ab rfl (Ab rfl (Ab rfl Ac))) hs ?_ rfl ⟨rfl, rfl⟩
    rw [if_neg h3]
    refine Wk.tupL (wk3 ((Wk.own _ _ _).trans (.eq ?_)) (.int (by simp)) (.refl _))
    dsimp only
    rw [hw k (by omega), sT, show 2 + k - 2 = k by omega]
set_option maxHeartbeats 9000000 in
theorem cats_Take_v {l : List UInt8} {o m : Nat} (h : o + m ≤ l.length) (hl : m ≤ 4294967296) (tw : Nat) :
    OnL Try.prog 115 [tvT tw o m] [(tw, .cells (l.map bT))] (fun u L => u = tcT (takeC (win l o m)) ∧ L = [(tw, .cells (l.map bT))]) := by
  intro off
  refine Ad (N := 50) (rs := [.tmp 2, .tmp 3, .tmp 4]) hG Try.func115 rfl rfl rfl rfl rfl ?_
  have hb := win_len h
  have hT1 := takeE1 (win l o m)
  by_cases h1 : m < 1
  · rw [if_pos (by omega)] at hT1
    have hr : takeC (win l o m) = ([], 0, 3) := by rw [takeC, if_pos (by omega)]
    have hc := num_Take_v h tw hT1
    rw [hr]
    repeat' (first | (show AL _ _ _ _ _ _ _ _; first | refine so2 ?_ | refine al_onS hc Y Y Y Y Y hs ?_ | (refine sa ?_; intro k)) | (show AW _ _ _ _ _ _; first | (show AW _ _ (.region _ _ _) _ _ _; refine sc0 ?_; intro O1) | (refine sc1 ?_; try intro Q1)) | (show (_ → _) ∧ _; refine ⟨fun h => ?_, fun h => ?_⟩) | fail)
    exact ret_on (L' := [(tw, .cells (l.map bT))]) (Ab rfl (Ab rfl (Ab rfl Ac))) hs (Wk.tupL (wk3 (.nil 1) (.refl _) (.refl _))) rfl ⟨rfl, rfl⟩
  rw [if_neg (by omega)] at hT1
  have hv := beV1 (win l o m) (by omega)
  have hc := num_Take_v h tw hT1
  generalize hn : beV ((win l o m).take 1) = n at *
  by_cases h2 : m < 1 + 2 * n
  · have hr : takeC (win l o m) = ([], 0, 3) := by rw [takeC, if_neg (by omega), hn, if_pos (by omega)]
    rw [hr]
    repeat' (first | (show AL _ _ _ _ _ _ _ _; first | refine so2 ?_ | refine al_onS hc Y Y Y Y Y hs ?_ | (refine sa ?_; intro k)) | (show AW _ _ _ _ _ _; first | (show AW _ _ (.region _ _ _) _ _ _; refine sc0 ?_; intro O1) | (refine sc1 ?_; try intro Q1)) | (show (_ → _) ∧ _; refine ⟨fun h => ?_, fun h => ?_⟩) | fail)
    exact ret_on (L' := [(tw, .cells (l.map bT))]) (Ab rfl (Ab rfl (Ab rfl Ac))) hs (Wk.tupL (wk3 (.nil 1) (.refl _) (.refl _))) rfl ⟨rfl, rfl⟩
  generalize hg : (fun i => UInt16.ofNat (beV (((win l o m).drop (1 + 2 * i)).take 2))) = g
  have hr : takeC (win l o m) = if mayC ((List.range n).map g) then ((List.range n).map g, 1 + 2 * n, 0) else ([], 0, 2) := by rw [takeC, if_neg (by omega), hn, if_neg (by omega), hg]
  rw [hr]
  repeat' (first | (show AL _ _ _ _ _ _ _ _; first | refine so2 ?_ | refine al_onS hc Y Y Y Y Y hs ?_ | (refine sa ?_; intro k)) | (show AW _ _ _ _ _ _; first | (show AW _ _ (.region _ _ _) _ _ _; refine sc0 ?_; intro O1) | (refine sc1 ?_; try intro Q1)) | (show (_ → _) ∧ _; refine ⟨fun h => ?_, fun h => ?_⟩) | fail)
  refine aw_tok0 2 1 rfl rfl rfl rfl (fun k => ?_)
  refine aw_loop (X := TCX n) (fun x => [(0, tvT tw o m), (3, .int .i64 ((1 + 2 * n : Nat) : Int)), (26, .int .i64 n), (27, .int .i64 x.i), (2, .sl 1 (.tok x.k) (((List.range x.i).map g).map hT))]) (fun x => ⟨[(tw, .cells (l.map bT))], [x.k], off, none⟩) (fun x => n - x.i) ⟨0, k, Nat.zero_le _⟩ ?_ (.refl _) ?_
  · exact .cons rfl (.consW rfl (.int (by simp)) (.cons rfl (.consW rfl (.int rfl) (.consW rfl (.eq (by simp)) (.nil _)))))
  rintro ⟨i, k, hi⟩
  dsimp only
  have hrl : (List.range i).length = i := List.length_range
  by_cases hib : i < n
  · have hd : (win l o m).drop (1 + 2 * i) = win l (o + (1 + 2 * i)) (m - (1 + 2 * i)) := win_drop
    have hwl : (win l (o + (1 + 2 * i)) (m - (1 + 2 * i))).length = m - (1 + 2 * i) := win_len (by omega)
    have hc2 := takeE2 (win l (o + (1 + 2 * i)) (m - (1 + 2 * i)))
    rw [if_neg (by omega)] at hc2
    have hc3 := num_Take_v (by omega) tw hc2
    have hw := beV2 (win l (o + (1 + 2 * i)) (m - (1 + 2 * i))) (by omega)
    have hgi : UInt16.ofNat (beV ((win l (o + (1 + 2 * i)) (m - (1 + 2 * i))).take 2)) = g i := by rw [← hg]; dsimp only; rw [hd]
    generalize beV ((win l (o + (1 + 2 * i)) (m - (1 + 2 * i))).take 2) = v at *
    have ht := hT_of v hw
    rw [hgi] at ht
    repeat' (first | (show AL _ _ _ _ _ _ _ _; (fail_if_success show AL _ _ _ _ _ (⟨_, .slice _ _ _ _ _, _, _, _, _⟩ :: _) _ _); first | refine so2 ?_ | (refine sa ?_; intro k)) | (show AW _ _ _ _ _ _; first | (show AW _ _ (.region _ _ _) _ _ _; refine sc0 ?_; intro O1) | (refine sc1 ?_; try intro Q1)) | (show (_ → _) ∧ _; refine ⟨fun h => ?_, fun h => ?_⟩) | fail)
    refine Ar rfl (r_tvS (l := 1 + 2 * i) hG rfl rfl rfl rfl rfl rfl rfl (by omega) ?_)
    repeat' (first | (show AL _ _ _ _ _ _ _ _; (fail_if_success show AL _ _ _ _ _ (⟨_, .call ⟨.builtin .append, _, _⟩, _, _, _, _⟩ :: _) _ _); first | refine so2 ?_ | refine al_onS hc3 Y Y Y Y Y hs ?_ | (refine sa ?_; intro k)) | (show AW _ _ _ _ _ _; first | (show AW _ _ (.region _ _ _) _ _ _; refine sc0 ?_; intro O1) | (refine sc1 ?_; try intro Q1)) | (show (_ → _) ∧ _; refine ⟨fun h => ?_, fun h => ?_⟩) | fail)
    refine Ar rfl (r_appm 0 (ys := [g i]) hG rfl rfl rfl rfl rfl rfl rfl ⟨_, rfl⟩ rfl rfl rfl rfl (congrArg (fun t => [t]) ht) (by simp; omega) (fun k' => ?_))
    repeat' (first | (show AL _ _ _ _ _ _ _ _; first | refine so2 ?_ | (refine sa ?_; intro k)) | (show AW _ _ _ _ _ _; first | (show AW _ _ (.region _ _ _) _ _ _; refine sc0 ?_; intro O1) | (refine sc1 ?_; try intro Q1)) | (show (_ → _) ∧ _; refine ⟨fun h => ?_, fun h => ?_⟩) | fail)
    refine ⟨⟨i + 1, k', by omega⟩, by dsimp only; omega, ?_, .refl _⟩
    exact .cons rfl (.cons rfl (.cons rfl (.consW rfl (.int (by simp)) (.consW rfl (.eq (by rw [List.range_succ]; simp)) (.nil _)))))
  · obtain rfl : i = n := by omega
    have hm := cats_May (x := .sl 1 (.tok k) (((List.range i).map g).map hT)) (catsT_map _ _) (by simp; omega)
    cases hma : mayC ((List.range i).map g) <;> rw [hma] at hm
    · repeat' (first | (show AL _ _ _ _ _ _ _ _; first | refine so2 ?_ | refine sp Y Y Y Y Y Y (by apply hm <;> exact sd) ?_ | (refine sa ?_; intro k)) | (show AW _ _ _ _ _ _; first | (show AW _ _ (.region _ _ _) _ _ _; refine sc0 ?_; intro O1) | (refine sc1 ?_; try intro Q1)) | (show (_ → _) ∧ _; refine ⟨fun h => ?_, fun h => ?_⟩) | fail)
      refine ret_on (L' := [(tw, .cells (l.map bT))]) (Ab rfl (Ab rfl (Ab rfl Ac))) hs ?_ rfl ⟨rfl, rfl⟩
      rw [hma]
      exact Wk.tupL (wk3 (.nil 1) (.refl _) (.refl _))
    · repeat' (first | (show AL _ _ _ _ _ _ _ _; first | refine so2 ?_ | refine sp Y Y Y Y Y Y (by apply hm <;> exact sd) ?_ | (refine sa ?_; intro k)) | (show AW _ _ _ _ _ _; first | (show AW _ _ (.region _ _ _) _ _ _; refine sc0 ?_; intro O1) | (refine sc1 ?_; try intro Q1)) | (show (_ → _) ∧ _; refine ⟨fun h => ?_, fun h => ?_⟩) | fail)
      refine ret_on (L' := [(tw, .cells (l.map bT))]) (Ab rfl (Ab rfl (Ab rfl Ac))) hs ?_ rfl ⟨rfl, rfl⟩
      rw [hma]
      exact Wk.tupL (wk3 (Wk.own _ _ _) (.int (by simp)) (.refl _))
end Go.Proofs.Ythfgocinlbogeaa
namespace Go.Proofs.Ythfgocinlbogeaa
open Go.Ts
set_option linter.unusedSimpArgs false
set_option linter.unusedVariables false
attribute [local irreducible] Go.Ts.AW Go.Ts.AOps Go.Ts.AL Go.Ts.AOp Go.Ts.ACalls Go.Ts.DL Go.Ts.DQ Go.Ts.EL
def iT (x : Nat) : T := .int .i64 x
instance : Enc iT 1 := ⟨fun x c h => by simp [iT, T.cells] at h; subst h; rfl, fun x => rfl⟩
def wT (x : Nat) : T := .int .u64 x
instance : Enc wT 1 := ⟨fun x c h => by simp [wT, T.cells] at h; subst h; rfl, fun x => rfl⟩
theorem and63 (v : Nat) (h : v < 18446744073709551616) : IntKind.u64.wrap ((BitVec.ofInt IntKind.u64.bits (v : Int) &&& BitVec.ofInt IntKind.u64.bits 63).toNat) = ((v % 64 : Nat) : Int) := by
  have e1 : BitVec.ofInt IntKind.u64.bits (v : Int) = BitVec.ofNat 64 v := by
    show BitVec.ofInt 64 _ = _
    rw [BitVec.ofInt_natCast]
  have e2 : BitVec.ofInt IntKind.u64.bits 63 = BitVec.ofNat 64 63 := rfl
  rw [e1, e2]
  have e3 : (BitVec.ofNat 64 v &&& BitVec.ofNat 64 63).toNat = v % 64 := by
    rw [BitVec.toNat_and, BitVec.toNat_ofNat, BitVec.toNat_ofNat, Nat.mod_eq_of_lt (by omega : v < 2 ^ 64), Nat.mod_eq_of_lt (by decide)]
    exact Nat.and_two_pow_sub_one_eq_mod v 6
  refine (congrArg (fun n : Nat => IntKind.u64.wrap (n : Int)) e3).trans ?_
  exact u64_in (by omega) (by omega)
section
variable {P : Program} {G : Nat → Option TI} {σ : St} {N : Nat} {a : Env}
theorem r_and63 {t yt : TypeId} {x : Operand} {v : Nat} {ti : TI} {d : Tmp} {ty : TypeId} {pos : String} {af : Array Edge} {gd : Option (Nat × Bool)} {K : Env → St → Prop} (hG : Fits P G) (ht : G t = some ti) (hx : Aa a x = some (.int .u64 (v : Int))) (h : v < 18446744073709551616) (hd : Ae N (some d) = true)
    (kk : K (put a (some d) (.int .u64 ((v % 64 : Nat) : Int))) σ) : AOp P N ⟨some d, .binOp .and t x (.const (.int .u64 63)) yt, ty, pos, af, gd⟩ a σ K := by
  refine op_q hG (t := .int .u64 ((v % 64 : Nat) : Int)) ?_ rfl hd kk
  rw [← and63 v h]
  simp only [Am, hx, ht]; rfl
end
end Go.Proofs.Ythfgocinlbogeaa
namespace Go.Proofs.Ythfgocinlbogeaa
open Go.Ts
set_option linter.unusedSimpArgs false
set_option linter.unusedVariables false
def mayL (l : List (List UInt8)) : Bool := decide (l.length ≤ 4) && l.all fun b => decide (b.length ≤ 16)
def putR (b : List UInt8) (l : List (List UInt8)) : List UInt8 := l.foldl putBs (b ++ putI l.length 1)
def takeLs (b : List UInt8) : Nat → List (List UInt8) → Nat → List (List UInt8) × Nat × Int
  | 0, acc, at' => (acc, at', 0)
  | n + 1, acc, at' => if (Ay (b.drop at')).2.2 = 0 then takeLs b n (acc ++ [(Ay (b.drop at')).1]) (at' + (Ay (b.drop at')).2.1) else ([], 0, 3)
def takeR (b : List UInt8) : List (List UInt8) × Nat × Int :=
  if b.length < 1 then ([], 0, 3)
  else if (takeLs b (beV (b.take 1)) [] 1).2.2 = 0 then (if mayL (takeLs b (beV (b.take 1)) [] 1).1 then takeLs b (beV (b.take 1)) [] 1 else ([], 0, 2)) else ([], 0, 3)
theorem takeBE_e (b : List UInt8) : (Ay b).2.2 = 0 ∧ 2 ≤ b.length ∧ (Ay b).2.1 ≤ b.length ∧ (Ay b).1.length ≤ 65535 ∨ Ay b = ([], 0, 3) := by
  unfold Ay
  split
  · exact .inr rfl
  split
  · exact .inr rfl
  · have := beV2 b (by omega)
    refine .inl ⟨rfl, by omega, by simp; omega, ?_⟩
    simp; omega
end Go.Proofs.Ythfgocinlbogeaa
namespace Go.Proofs.Ythfgocinlbogeaa
open Go.Ts
set_option linter.unusedSimpArgs false
set_option linter.unusedVariables false
theorem be_add (w : Nat) : ∀ (m n v : Nat), m ≤ n → be (v + w * 2 ^ (8 * n)) m = be v m
  | 0, n, v, h => rfl
  | m + 1, n, v, h => by
    rw [be, be, be_add w m n v (by omega)]
    congr 1
    have e : 2 ^ (8 * n) = 2 ^ (8 * m) * (256 * 2 ^ (8 * (n - m - 1))) := by
      rw [show (256 : Nat) = 2 ^ 8 from rfl, ← Nat.pow_add, ← Nat.pow_add]; congr 1; omega
    have h2 : (v + w * 2 ^ (8 * n)) / 2 ^ (8 * m) = v / 2 ^ (8 * m) + 256 * (w * 2 ^ (8 * (n - m - 1))) := by
      rw [e, show w * (2 ^ (8 * m) * (256 * 2 ^ (8 * (n - m - 1)))) = 2 ^ (8 * m) * (256 * (w * 2 ^ (8 * (n - m - 1)))) by ac_rfl, Nat.add_mul_div_left _ _ (Nat.two_pow_pos _)]
    rw [h2]
    apply UInt8.toNat_inj.1
    simp [UInt8.toNat_ofNat']
theorem beV_cons (x : UInt8) (l : List UInt8) : beV (x :: l) = x.toNat * 2 ^ (8 * l.length) + beV l := by
  have : ∀ (l : List UInt8) (a : Nat), l.foldl (fun a x => a * 256 + x.toNat) a = a * 2 ^ (8 * l.length) + beV l := by
    intro l
    induction l with
    | nil => intro a; simp [beV]
    | cons y l ih =>
      intro a
      have h1 := ih (a * 256 + y.toNat)
      have h2 := ih (0 * 256 + y.toNat)
      rw [List.foldl_cons, h1]
      have e3 : beV (y :: l) = List.foldl (fun a x => a * 256 + x.toNat) (0 * 256 + y.toNat) l := rfl
      rw [e3, h2, List.length_cons, show 8 * (l.length + 1) = 8 + 8 * l.length by omega, Nat.pow_add]
      rw [Nat.add_mul, Nat.zero_mul, Nat.zero_add, Nat.mul_assoc, show (2 : Nat) ^ 8 = 256 from rfl]
      omega
  have h := this l (0 * 256 + x.toNat)
  have e3 : beV (x :: l) = List.foldl (fun a x => a * 256 + x.toNat) (0 * 256 + x.toNat) l := rfl
  rw [e3, h]; simp
theorem be_beV : ∀ (l : List UInt8), be (beV l) l.length = l
  | [] => rfl
  | x :: l => by
    rw [List.length_cons, be, beV_cons, Nat.add_comm, be_add _ _ _ _ (Nat.le_refl _), be_beV l]
    congr 1
    have hlt := beV_lt l.length l rfl
    rw [Nat.add_mul_div_right _ _ (Nat.two_pow_pos _), Nat.div_eq_of_lt hlt, Nat.zero_add]
    simp
theorem putI_be (v n : Nat) (h : n ≤ 8) : putI (v : Int) (n : Int) = be v n := by
  unfold putI; rw [if_pos (by omega)]; simp
end Go.Proofs.Ythfgocinlbogeaa
namespace Go.Proofs.Ythfgocinlbogeaa
open Go.Ts
set_option linter.unusedSimpArgs false
set_option linter.unusedVariables false
abbrev PR := UInt16 × UInt8
def pT (p : PR) : T := .agg [hT p.1, bT p.2]
instance : Enc pT 2 := ⟨fun x c h => by simp [pT, T.cells] at h; rcases h with rfl | rfl <;> rfl, fun x => rfl⟩
def okP (df : UInt8) (p : PR) : Bool := decide (p.2.toNat ≤ 4) && decide (p.2 ≠ df)
def okAt (df : UInt8) (l : List PR) (i : Nat) : Bool := okP df (l.getD i default) && (decide (i = 0) || decide ((l.getD (i - 1) default).1.toNat < (l.getD i default).1.toNat))
def mayLab (df : UInt8) (l : List PR) : Bool := decide (1 ≤ df.toNat ∧ df.toNat ≤ 4) && decide (l.length ≤ 16) && (List.range l.length).all (okAt df l)
theorem mayLab_len {df : UInt8} {l : List PR} (h : mayLab df l = true) : l.length ≤ 16 ∧ 1 ≤ df.toNat ∧ df.toNat ≤ 4 := by
  unfold mayLab at h; simp only [Bool.and_eq_true, decide_eq_true_eq] at h; exact ⟨h.1.2, h.1.1⟩
def putP (p : PR) : List UInt8 := putI (p.1.toNat : Nat) (2 : Nat) ++ putI (p.2.toNat : Nat) (1 : Nat)
theorem putP_eq (p : PR) : putP p = be p.1.toNat 2 ++ [p.2] := by
  unfold putP
  rw [putI_be _ _ (by omega), putI_be _ _ (by omega)]
  simp [be]
theorem putP_len (p : PR) : (putP p).length = 3 := by rw [putP_eq, List.length_append, be_length]; rfl
def flatP (l : List PR) : List UInt8 := l.flatMap putP
theorem flatP_cons (p : PR) (l : List PR) : flatP (p :: l) = putP p ++ flatP l := by simp [flatP]
theorem flatP_len : ∀ l : List PR, (flatP l).length = 3 * l.length
  | [] => rfl
  | p :: l => by rw [flatP_cons, List.length_append, putP_len, flatP_len l, List.length_cons]; omega
def putLab (b : List UInt8) (df : UInt8) (l : List PR) : List UInt8 := b ++ putI (df.toNat : Nat) (1 : Nat) ++ putI (l.length : Nat) (1 : Nat) ++ flatP l
def takeP (b : List UInt8) : Nat → List PR → Nat → Option (List PR × Nat)
  | 0, acc, p => some (acc, p)
  | n + 1, acc, p => if b.length - p < 3 then none else takeP b n (acc ++ [(UInt16.ofNat (beV ((b.drop p).take 2)), b.getD (p + 2) default)]) (p + 3)
structure TL where
  df : UInt8
  ps : List PR
  n : Nat
  e : Int
def Al (b : List UInt8) : TL :=
  if b.length < 2 then ⟨0, [], 0, 3⟩
  else match takeP b (b.getD 1 default).toNat [] 2 with
    | none => ⟨0, [], 0, 3⟩
    | some (l, q) => if mayLab (b.getD 0 default) l then ⟨b.getD 0 default, l, q, 0⟩ else ⟨0, [], 0, 2⟩
theorem takeP_back (b : List UInt8) : ∀ (n : Nat) (acc : List PR) (p : Nat) (l : List PR) (q : Nat), takeP b n acc p = some (l, q) → p ≤ b.length → ∃ l', l = acc ++ l' ∧ l'.length = n ∧ b.drop p = flatP l' ++ b.drop q ∧ q ≤ b.length ∧ q = p + 3 * n
  | 0, acc, p, l, q, h, hp => by
    rw [takeP] at h
    simp only [Option.some.injEq, Prod.mk.injEq] at h
    obtain ⟨rfl, rfl⟩ := h
    exact ⟨[], by simp, rfl, by simp [flatP], hp, by omega⟩
  | n + 1, acc, p, l, q, h, hp => by
    rw [takeP] at h
    by_cases h3 : b.length - p < 3
    · rw [if_pos h3] at h; cases h
    rw [if_neg h3] at h
    obtain ⟨l', r1, r2, r3, r4, r5⟩ := takeP_back b n _ _ l q h (by omega)
    refine ⟨(UInt16.ofNat (beV ((b.drop p).take 2)), b.getD (p + 2) default) :: l', by rw [r1]; simp, by simp [r2], ?_, r4, by omega⟩
    have hv : beV ((b.drop p).take 2) < 65536 := by have := beV_lt 2 ((b.drop p).take 2) (by rw [List.length_take, List.length_drop]; omega); simpa using this
    rw [flatP_cons, putP_eq]
    dsimp only
    have e1 : be (UInt16.ofNat (beV ((b.drop p).take 2))).toNat 2 = (b.drop p).take 2 := by
      rw [show (UInt16.ofNat (beV ((b.drop p).take 2))).toNat = beV ((b.drop p).take 2) by simp; omega]
      have := be_beV ((b.drop p).take 2)
      rwa [show ((b.drop p).take 2).length = 2 by rw [List.length_take, List.length_drop]; omega] at this
    rw [e1, List.append_assoc, ← r3]
    have e2 : b.drop p = (b.drop p).take 2 ++ ([b.getD (p + 2) default] ++ b.drop (p + 3)) := by
      have h4 : p + 2 < b.length := by omega
      have e3 : (b.drop p).drop 2 = [b.getD (p + 2) default] ++ b.drop (p + 3) := by
        rw [List.drop_drop, List.drop_eq_getElem_cons h4, List.getD_eq_getElem?_getD, List.getElem?_eq_getElem h4]; rfl
      rw [← e3, List.take_append_drop]
    rw [List.append_assoc]
    exact e2
theorem putLab_eq (b : List UInt8) (df : UInt8) (l : List PR) (h : l.length < 256) : putLab b df l = b ++ (df :: UInt8.ofNat l.length :: flatP l) := by
  unfold putLab
  rw [putI_be _ _ (by omega), putI_be _ _ (by omega)]
  simp [be]
theorem takeLab_ok {b : List UInt8} (h : (Al b).e = 0) : mayLab (Al b).df (Al b).ps = true ∧ (Al b).n ≤ b.length ∧ putLab [] (Al b).df (Al b).ps = b.take (Al b).n := by
  unfold Al at h ⊢
  by_cases h1 : b.length < 2
  · rw [if_pos h1] at h; cases h
  rw [if_neg h1] at h ⊢
  cases hp : takeP b (b.getD 1 default).toNat [] 2 with
  | none => rw [hp] at h; cases h
  | some r =>
    obtain ⟨l, q⟩ := r
    rw [hp] at h
    dsimp only at h ⊢
    by_cases hm : mayLab (b.getD 0 default) l = true
    · rw [if_pos hm]
      obtain ⟨l', r1, r2, r3, r4, r5⟩ := takeP_back b _ _ _ l q hp (by omega)
      rw [List.nil_append] at r1
      subst r1
      refine ⟨hm, r4, ?_⟩
      dsimp only
      have hm1 := (mayLab_len hm).1
      rw [putLab_eq _ _ _ (by omega), List.nil_append]
      match b, h1, r2, r3, r4, r5 with
      | [], h1, _, _, _, _ => simp at h1
      | [x], h1, _, _, _, _ => simp at h1
      | x :: y :: c, _, r2, r3, r4, r5 =>
        have g0 : (x :: y :: c).getD 0 default = x := rfl
        have g1 : (x :: y :: c).getD 1 default = y := rfl
        rw [g1] at r2
        have d2 : (x :: y :: c).drop 2 = c := rfl
        rw [d2] at r3
        obtain ⟨j, rfl⟩ : ∃ j, q = j + 2 := ⟨q - 2, by omega⟩
        have d3 : (x :: y :: c).drop (j + 2) = c.drop j := rfl
        rw [d3] at r3
        rw [g0, r2]
        have hfl := flatP_len l
        have e : flatP l = c.take j := by
          have := congrArg (List.take (flatP l).length) r3
          rw [List.take_left] at this
          rw [g1] at r5
          rw [← this, hfl, show 3 * l.length = j by omega]
        rw [e]
        simp
    · rw [if_neg hm] at h; cases h
theorem takeLab_no {b : List UInt8} (h : (Al b).e ≠ 0) : Al b = ⟨0, [], 0, (Al b).e⟩ := by
  unfold Al at h ⊢
  by_cases h1 : b.length < 2
  · rw [if_pos h1]
  rw [if_neg h1] at h ⊢
  cases hp : takeP b (b.getD 1 default).toNat [] 2 with
  | none => rfl
  | some r =>
    obtain ⟨l, q⟩ := r
    rw [hp] at h
    dsimp only at h ⊢
    by_cases hm : mayLab (b.getD 0 default) l = true
    · rw [if_pos hm] at h; exact absurd rfl h
    · rw [if_neg hm]
end Go.Proofs.Ythfgocinlbogeaa
set_option maxHeartbeats 4000000
namespace Go.Proofs.Ythfgocinlbogeaa
open Go.Ts
set_option linter.unusedSimpArgs false
set_option linter.unusedVariables false
attribute [local irreducible] Go.Ts.AW Go.Ts.AOps Go.Ts.AL Go.Ts.AOp Go.Ts.ACalls Go.Ts.DL Go.Ts.DQ Go.Ts.EL
theorem drop_1 {x : Nat × Ob} {L : List (Nat × Ob)} {R : List Nat} {off : Nat → Nat → Prop} : Go.Ts.GStep ⟨x :: L, R, off, none⟩ ⟨L, R, off, none⟩ := keep_step (σ := ⟨x :: L, R, off, none⟩) (L' := L) (R' := R) (List.sublist_cons_self _ _) (List.Sublist.refl _)
theorem mayLab_no {df : UInt8} {l : List PR} {i : Nat} (hi : i < l.length) (h : okAt df l i = false) : mayLab df l = false := by
  unfold mayLab
  have : (List.range l.length).all (okAt df l) = false := by
    rw [List.all_eq_false]
    exact ⟨i, List.mem_range.2 hi, by rw [h]; decide⟩
  rw [this, Bool.and_false]
theorem mayLab_yes {df : UInt8} {l : List PR} (h1 : 1 ≤ df.toNat ∧ df.toNat ≤ 4) (h2 : l.length ≤ 16) (h : ∀ j < l.length, okAt df l j = true) : mayLab df l = true := by
  unfold mayLab
  rw [decide_eq_true h1, decide_eq_true h2, List.all_eq_true.2 fun j hj => h j (List.mem_range.1 hj)]; rfl
theorem level_May (l : UInt8) : Ts.Pure Try.prog 125 [bT l] (.bool (decide (l.toNat ≤ 4))) := by
  intro off
  refine Ad (N := 5) (rs := [.tmp 2]) hG Try.func125 rfl rfl rfl rfl rfl ?_
  by_cases h : l.toNat ≤ 4
  · repeat' (first | (show AL _ _ _ _ _ _ _ _; first | refine so0 ?_) | (show AW _ _ _ _ _ _; first | (show AW _ _ (.region _ _ _) _ _ _; refine sc0 ?_; intro O1) | (refine sc0 ?_; try intro Q1)) | (show (_ → _) ∧ _; refine ⟨fun h => ?_, fun h => ?_⟩) | fail)
    exact Ag (Ab rfl Ac) (.eq (by rw [decide_eq_true h]; rfl)) rfl
  · repeat' (first | (show AL _ _ _ _ _ _ _ _; first | refine so0 ?_) | (show AW _ _ _ _ _ _; first | (show AW _ _ (.region _ _ _) _ _ _; refine sc0 ?_; intro O1) | (refine sc0 ?_; try intro Q1)) | (show (_ → _) ∧ _; refine ⟨fun h => ?_, fun h => ?_⟩) | fail)
    exact Ag (Ab rfl Ac) (.eq (by rw [decide_eq_false h]; rfl)) rfl
structure LmX (df : UInt8) (l : List PR) where
  i : Nat
  p : Nat
  hi : i ≤ l.length
  hn : ∀ j < i, okAt df l j = true
set_option maxHeartbeats 9000000 in
theorem label_May {df : UInt8} {l : List PR} (hl : l.length ≤ 140737488351232) : Ts.Pure Try.prog 114 [.agg [bT df, .sl 2 .no (l.map pT)]] (.bool (mayLab df l)) := by
  intro off
  refine Ad (N := 55) (rs := [.tmp 2]) hG Try.func114 rfl rfl rfl rfl rfl ?_
  by_cases h0 : (1 ≤ df.toNat ∧ df.toNat ≤ 4) ∧ l.length ≤ 16
  · repeat' (first | (show AL _ _ _ _ _ _ _ _; first | refine so0 ?_ | (refine sb ?_; intro i)) | (show DL _ _ _ _ _ _ _; first | refine do0 ?_) | (show AW _ _ _ _ _ _; first | (show AW _ _ (.region _ _ _) _ _ _; refine sc0 ?_; intro O1) | (refine sc0 ?_; try intro Q1)) | (show (_ → _) ∧ _; refine ⟨fun h => ?_, fun h => ?_⟩) | fail)
    refine aw_loop (X := LmX df l) (fun x => [(1, .ptr x.p 0), (20, .sl 2 .no (l.map pT)), (21, .int .i64 l.length), (22, .int .i64 x.i)]) (fun x => ⟨[(x.p, .cells [bT df, .sl 2 .no (l.map pT)])], [], off, none⟩) (fun x => l.length - x.i) ⟨0, i, Nat.zero_le _, fun j hj => by omega⟩ ?_ (.refl _) ?_
    · exact .cons rfl (.cons rfl (.cons rfl (.consW rfl (.int rfl) (.nil _))))
    rintro ⟨j, p, hj, hn⟩
    dsimp only
    by_cases hjl : j < l.length
    · have hL := level_May (l.getD j default).2
      have hok : okAt df l j = (okP df (l.getD j default) && (decide (j = 0) || decide ((l.getD (j - 1) default).1.toNat < (l.getD j default).1.toNat))) := rfl
      unfold okP at hok
      by_cases c1 : (l.getD j default).2.toNat ≤ 4
      · rw [decide_eq_true c1] at hL hok
        by_cases c2 : (l.getD j default).2.toNat = df.toNat
        · have hf := mayLab_no hjl (by rw [hok, decide_eq_false (fun h => h (UInt8.toNat_inj.1 c2)), Bool.and_false, Bool.false_and])
          repeat' (first | (show AL _ _ _ _ _ _ _ _; first | refine so0 ?_ | refine sp Y Y Y Y Y Y (by apply hL <;> exact sd) ?_ | (refine sb ?_; intro i)) | (show DL _ _ _ _ _ _ _; first | refine do0 ?_ | refine dp Y Y Y Y Y Y Y (by apply hL <;> exact sd) ?_) | (show AW _ _ _ _ _ _; first | (show AW _ _ (.region _ _ _) _ _ _; refine sc0 ?_; intro O1) | (refine sc0 ?_; try intro Q1)) | (show (_ → _) ∧ _; refine ⟨fun h => ?_, fun h => ?_⟩) | fail)
          exact Ag (Ab rfl Ac) (.eq (by rw [hf]; rfl)) rfl
        · have c2' : (l.getD j default).2 ≠ df := fun e => c2 (by rw [e])
          rw [decide_eq_true c2'] at hok
          by_cases c3 : j = 0
          · subst c3
            repeat' (first | (show AL _ _ _ _ _ _ _ _; first | refine so0 ?_ | refine sp Y Y Y Y Y Y (by apply hL <;> exact sd) ?_ | (refine sb ?_; intro i)) | (show DL _ _ _ _ _ _ _; first | refine do0 ?_ | refine dp Y Y Y Y Y Y Y (by apply hL <;> exact sd) ?_) | (show AW _ _ _ _ _ _; first | (show AW _ _ (.region _ _ _) _ _ _; refine sc0 ?_; intro O1) | (refine sc0 ?_; try intro Q1)) | (show (_ → _) ∧ _; refine ⟨fun h => ?_, fun h => ?_⟩) | fail)
            refine ⟨⟨1, p, by omega, fun j hj => ?_⟩, by dsimp only; omega, ?_, drop_1⟩
            · obtain rfl : j = 0 := by omega
              rw [hok]; rfl
            · exact .cons rfl (.cons rfl (.cons rfl (.consW rfl (.int (by simp)) (.nil _))))
          · have e : ((j : Int) - 1).toNat = j - 1 := by omega
            by_cases c4 : (l.getD ((j : Int) - 1).toNat default).1.toNat < (l.getD j default).1.toNat
            · repeat' (first | (show AL _ _ _ _ _ _ _ _; first | refine so0 ?_ | refine sp Y Y Y Y Y Y (by apply hL <;> exact sd) ?_ | (refine sb ?_; intro i)) | (show DL _ _ _ _ _ _ _; first | refine do0 ?_ | refine dp Y Y Y Y Y Y Y (by apply hL <;> exact sd) ?_) | (show AW _ _ _ _ _ _; first | (show AW _ _ (.region _ _ _) _ _ _; refine sc0 ?_; intro O1) | (refine sc0 ?_; try intro Q1)) | (show (_ → _) ∧ _; refine ⟨fun h => ?_, fun h => ?_⟩) | fail)
              rw [e] at c4
              refine ⟨⟨j + 1, p, by omega, fun q hq => ?_⟩, by dsimp only; omega, ?_, drop_1⟩
              · rcases Nat.lt_succ_iff_lt_or_eq.1 hq with h | rfl
                · exact hn q h
                · rw [hok, decide_eq_true c4]; simp
              · exact .cons rfl (.cons rfl (.cons rfl (.consW rfl (.int (by simp)) (.nil _))))
            · have hf := mayLab_no hjl (by rw [hok, ← e, decide_eq_false c4, decide_eq_false c3]; rfl)
              repeat' (first | (show AL _ _ _ _ _ _ _ _; first | refine so0 ?_ | refine sp Y Y Y Y Y Y (by apply hL <;> exact sd) ?_ | (refine sb ?_; intro i)) | (show DL _ _ _ _ _ _ _; first | refine do0 ?_ | refine dp Y Y Y Y Y Y Y (by apply hL <;> exact sd) ?_) | (show AW _ _ _ _ _ _; first | (show AW _ _ (.region _ _ _) _ _ _; refine sc0 ?_; intro O1) | (refine sc0 ?_; try intro Q1)) | (show (_ → _) ∧ _; refine ⟨fun h => ?_, fun h => ?_⟩) | fail)
              exact Ag (Ab rfl Ac) (.eq (by rw [hf]; rfl)) rfl
      · rw [decide_eq_false c1] at hL hok
        have hf := mayLab_no hjl (by rw [hok]; rfl)
        repeat' (first | (show AL _ _ _ _ _ _ _ _; first | refine so0 ?_ | refine sp Y Y Y Y Y Y (by apply hL <;> exact sd) ?_ | (refine sb ?_; intro i)) | (show DL _ _ _ _ _ _ _; first | refine do0 ?_ | refine dp Y Y Y Y Y Y Y (by apply hL <;> exact sd) ?_) | (show AW _ _ _ _ _ _; first | (show AW _ _ (.region _ _ _) _ _ _; refine sc0 ?_; intro O1) | (refine sc0 ?_; try intro Q1)) | (show (_ → _) ∧ _; refine ⟨fun h => ?_, fun h => ?_⟩) | fail)
        exact Ag (Ab rfl Ac) (.eq (by rw [hf]; rfl)) rfl
    · obtain rfl : j = l.length := by omega
      repeat' (first | (show AL _ _ _ _ _ _ _ _; first | refine so0 ?_ | (refine sb ?_; intro i)) | (show DL _ _ _ _ _ _ _; first | refine do0 ?_) | (show AW _ _ _ _ _ _; first | (show AW _ _ (.region _ _ _) _ _ _; refine sc0 ?_; intro O1) | (refine sc0 ?_; try intro Q1)) | (show (_ → _) ∧ _; refine ⟨fun h => ?_, fun h => ?_⟩) | fail)
      exact Ag (Ab rfl Ac) (.eq (by rw [mayLab_yes h0.1 h0.2 hn]; rfl)) rfl
  · have hf : mayLab df l = false := by
      unfold mayLab
      by_cases g : 1 ≤ df.toNat ∧ df.toNat ≤ 4
      · rw [decide_eq_false (fun h => h0 ⟨g, h⟩)]; simp
      · rw [decide_eq_false g]; simp
    rw [hf]
    repeat' (first | (show AL _ _ _ _ _ _ _ _; first | refine so0 ?_ | (refine sb ?_; intro i)) | (show DL _ _ _ _ _ _ _; first | refine do0 ?_) | (show AW _ _ _ _ _ _; first | (show AW _ _ (.region _ _ _) _ _ _; refine sc0 ?_; intro O1) | (refine sc0 ?_; try intro Q1)) | (show (_ → _) ∧ _; refine ⟨fun h => ?_, fun h => ?_⟩) | fail)
    all_goals exact Ag (Ab rfl Ac) (.refl _) rfl
theorem ref_Canon5 {df : UInt8} {l : List PR} (hd : 5 < df.toNat) : Ts.Pure Try.prog 117 [.agg [bT df, .sl 2 .no (l.map pT)]] (.bool false) := by
  intro off
  refine Ad (N := 46) (rs := [.tmp 2]) hG Try.func117 rfl rfl rfl rfl rfl ?_
  repeat' (first | (show AL _ _ _ _ _ _ _ _; first | refine so0 ?_ | (refine sb ?_; intro i)) | (show DL _ _ _ _ _ _ _; first | refine do0 ?_) | (show AW _ _ _ _ _ _; first | (show AW _ _ (.region _ _ _) _ _ _; refine sc0 ?_; intro O1) | (refine sc0 ?_; try intro Q1)) | (show (_ → _) ∧ _; refine ⟨fun h => ?_, fun h => ?_⟩) | fail)
  exact Ag (Ab rfl Ac) (.refl _) rfl
def okAt5 (df : UInt8) (l : List PR) (i : Nat) : Bool := decide ((l.getD i default).2.toNat ≤ 5) && decide ((l.getD i default).2 ≠ df) && (decide (i = 0) || decide ((l.getD (i - 1) default).1.toNat < (l.getD i default).1.toNat))
structure CnX (df : UInt8) (l : List PR) where
  i : Nat
  p : Nat
  hi : i ≤ l.length
  hn : ∀ j < i, okAt5 df l j = true
set_option maxHeartbeats 9000000 in
theorem ref_Canon {df : UInt8} {l : List PR} (hl : l.length ≤ 140737488351232) (hd : df.toNat ≤ 5) : Ts.Pure Try.prog 117 [.agg [bT df, .sl 2 .no (l.map pT)]] (.bool ((List.range l.length).all (okAt5 df l))) := by
  intro off
  refine Ad (N := 46) (rs := [.tmp 2]) hG Try.func117 rfl rfl rfl rfl rfl ?_
  repeat' (first | (show AL _ _ _ _ _ _ _ _; first | refine so0 ?_ | (refine sb ?_; intro i)) | (show DL _ _ _ _ _ _ _; first | refine do0 ?_) | (show AW _ _ _ _ _ _; first | (show AW _ _ (.region _ _ _) _ _ _; refine sc0 ?_; intro O1) | (refine sc0 ?_; try intro Q1)) | (show (_ → _) ∧ _; refine ⟨fun h => ?_, fun h => ?_⟩) | fail)
  refine aw_loop (X := CnX df l) (fun x => [(1, .ptr x.p 0), (3, .int .i64 x.i)]) (fun x => ⟨[(x.p, .cells [bT df, .sl 2 .no (l.map pT)])], [], off, none⟩) (fun x => l.length - x.i) ⟨0, i, Nat.zero_le _, fun j hj => by omega⟩ ?_ (.refl _) ?_
  · exact .cons rfl (.consW rfl (.int rfl) (.nil _))
  rintro ⟨j, p, hj, hn⟩
  dsimp only
  by_cases hjl : j < l.length
  · have no : okAt5 df l j = false → (List.range l.length).all (okAt5 df l) = false := fun h => by
      rw [List.all_eq_false]; exact ⟨j, List.mem_range.2 hjl, by rw [h]; decide⟩
    have hok : okAt5 df l j = (decide ((l.getD j default).2.toNat ≤ 5) && decide ((l.getD j default).2 ≠ df) && (decide (j = 0) || decide ((l.getD (j - 1) default).1.toNat < (l.getD j default).1.toNat))) := rfl
    by_cases c1 : (l.getD j default).2.toNat ≤ 5
    · rw [decide_eq_true c1] at hok
      by_cases c2 : (l.getD j default).2.toNat = df.toNat
      · have hf := no (by rw [hok, decide_eq_false (fun h => h (UInt8.toNat_inj.1 c2)), Bool.and_false, Bool.false_and])
        repeat' (first | (show AL _ _ _ _ _ _ _ _; first | refine so0 ?_ | (refine sb ?_; intro i)) | (show DL _ _ _ _ _ _ _; first | refine do0 ?_) | (show AW _ _ _ _ _ _; first | (show AW _ _ (.region _ _ _) _ _ _; refine sc0 ?_; intro O1) | (refine sc0 ?_; try intro Q1)) | (show (_ → _) ∧ _; refine ⟨fun h => ?_, fun h => ?_⟩) | fail)
        exact Ag (Ab rfl Ac) (.eq (by rw [hf]; rfl)) rfl
      · have c2' : (l.getD j default).2 ≠ df := fun e => c2 (by rw [e])
        rw [decide_eq_true c2'] at hok
        by_cases c3 : j = 0
        · subst c3
          repeat' (first | (show AL _ _ _ _ _ _ _ _; first | refine so0 ?_ | (refine sb ?_; intro i)) | (show DL _ _ _ _ _ _ _; first | refine do0 ?_) | (show AW _ _ _ _ _ _; first | (show AW _ _ (.region _ _ _) _ _ _; refine sc0 ?_; intro O1) | (refine sc0 ?_; try intro Q1)) | (show (_ → _) ∧ _; refine ⟨fun h => ?_, fun h => ?_⟩) | fail)
          refine ⟨⟨1, p, by omega, fun j hj => ?_⟩, by dsimp only; omega, ?_, drop_1⟩
          · obtain rfl : j = 0 := by omega
            rw [hok]; rfl
          · exact .cons rfl (.consW rfl (.int (by simp)) (.nil _))
        · have e : ((j : Int) - 1).toNat = j - 1 := by omega
          by_cases c4 : (l.getD ((j : Int) - 1).toNat default).1.toNat < (l.getD j default).1.toNat
          · repeat' (first | (show AL _ _ _ _ _ _ _ _; first | refine so0 ?_ | (refine sb ?_; intro i)) | (show DL _ _ _ _ _ _ _; first | refine do0 ?_) | (show AW _ _ _ _ _ _; first | (show AW _ _ (.region _ _ _) _ _ _; refine sc0 ?_; intro O1) | (refine sc0 ?_; try intro Q1)) | (show (_ → _) ∧ _; refine ⟨fun h => ?_, fun h => ?_⟩) | fail)
            rw [e] at c4
            refine ⟨⟨j + 1, p, by omega, fun q hq => ?_⟩, by dsimp only; omega, ?_, drop_1⟩
            · rcases Nat.lt_succ_iff_lt_or_eq.1 hq with h | rfl
              · exact hn q h
              · rw [hok, decide_eq_true c4]; simp
            · exact .cons rfl (.consW rfl (.int (by simp)) (.nil _))
          · have hf := no (by rw [hok, ← e, decide_eq_false c4, decide_eq_false c3]; rfl)
            repeat' (first | (show AL _ _ _ _ _ _ _ _; first | refine so0 ?_ | (refine sb ?_; intro i)) | (show DL _ _ _ _ _ _ _; first | refine do0 ?_) | (show AW _ _ _ _ _ _; first | (show AW _ _ (.region _ _ _) _ _ _; refine sc0 ?_; intro O1) | (refine sc0 ?_; try intro Q1)) | (show (_ → _) ∧ _; refine ⟨fun h => ?_, fun h => ?_⟩) | fail)
            exact Ag (Ab rfl Ac) (.eq (by rw [hf]; rfl)) rfl
    · rw [decide_eq_false c1] at hok
      have hf := no (by rw [hok]; rfl)
      repeat' (first | (show AL _ _ _ _ _ _ _ _; first | refine so0 ?_ | (refine sb ?_; intro i)) | (show DL _ _ _ _ _ _ _; first | refine do0 ?_) | (show AW _ _ _ _ _ _; first | (show AW _ _ (.region _ _ _) _ _ _; refine sc0 ?_; intro O1) | (refine sc0 ?_; try intro Q1)) | (show (_ → _) ∧ _; refine ⟨fun h => ?_, fun h => ?_⟩) | fail)
      exact Ag (Ab rfl Ac) (.eq (by rw [hf]; rfl)) rfl
  · obtain rfl : j = l.length := by omega
    repeat' (first | (show AL _ _ _ _ _ _ _ _; first | refine so0 ?_ | (refine sb ?_; intro i)) | (show DL _ _ _ _ _ _ _; first | refine do0 ?_) | (show AW _ _ _ _ _ _; first | (show AW _ _ (.region _ _ _) _ _ _; refine sc0 ?_; intro O1) | (refine sc0 ?_; try intro Q1)) | (show (_ → _) ∧ _; refine ⟨fun h => ?_, fun h => ?_⟩) | fail)
    exact Ag (Ab rfl Ac) (.eq (by rw [List.all_eq_true.2 fun q hq => hn q (List.mem_range.1 hq)]; rfl)) rfl
theorem mayLab_canon {df : UInt8} {l : List PR} : mayLab df l = (decide (1 ≤ df.toNat ∧ df.toNat ≤ 4) && decide (l.length ≤ 16) && (List.range l.length).all (okAt5 df l) && l.all fun p => decide (p.2.toNat ≤ 4)) := by
  unfold mayLab
  rw [Bool.and_assoc (decide (1 ≤ df.toNat ∧ df.toNat ≤ 4) && decide (l.length ≤ 16))]
  congr 1
  rw [Bool.eq_iff_iff]
  simp only [Bool.and_eq_true, List.all_eq_true, List.mem_range]
  constructor
  · intro h
    refine ⟨fun j hj => ?_, fun p hp => ?_⟩
    · have := h j hj
      unfold okAt okP at this
      unfold okAt5
      simp only [Bool.and_eq_true, decide_eq_true_eq] at this ⊢
      exact ⟨⟨by omega, this.1.2⟩, this.2⟩
    · obtain ⟨j, hj, rfl⟩ := List.mem_iff_getElem.1 hp
      have := h j hj
      unfold okAt okP at this
      simp only [Bool.and_eq_true, decide_eq_true_eq] at this
      have h1 := this.1.1
      rw [List.getD_eq_getElem?_getD, List.getElem?_eq_getElem hj] at h1
      exact decide_eq_true h1
  · rintro ⟨h1, h2⟩ j hj
    have h3 := h1 j hj
    have h4 := h2 (l.getD j default) (by rw [List.getD_eq_getElem?_getD, List.getElem?_eq_getElem hj]; exact List.getElem_mem hj)
    unfold okAt5 at h3
    unfold okAt okP
    simp only [Bool.and_eq_true, decide_eq_true_eq] at h3 h4 ⊢
    exact ⟨⟨h4, h3.1.2⟩, h3.2⟩
structure MlX (l : List PR) where
  i : Nat
  hi : i ≤ l.length
  hn : ∀ j < i, (l.getD j default).2.toNat ≤ 4
theorem ref_MayLab {df : UInt8} {l : List PR} (hl : l.length ≤ 140737488351232) : Ts.Pure Try.prog 99 [.agg [bT df, .sl 2 .no (l.map pT)]] (.bool (mayLab df l)) := by
  have hm := mayLab_canon (df := df) (l := l)
  intro off
  by_cases h0 : df.toNat ≤ 5
  · have hC := ref_Canon (df := df) (l := l) hl h0
    cases q : (List.range l.length).all (okAt5 df l) <;> rw [q] at hC hm
    · have hf : mayLab df l = false := by rw [hm]; simp
      rw [hf]
      refine Ad (N := 37) (rs := [.tmp 2]) hG Try.func99 rfl rfl rfl rfl rfl ?_
      repeat' (first | (show AL _ _ _ _ _ _ _ _; first | refine so0 ?_ | refine sp Y Y Y Y Y Y (by apply hC <;> exact sd) ?_ | (refine sb ?_; intro i)) | (show AW _ _ _ _ _ _; first | (show AW _ _ (.region _ _ _) _ _ _; refine sc0 ?_; intro O1) | (refine sc0 ?_; try intro Q1)) | (show (_ → _) ∧ _; refine ⟨fun h => ?_, fun h => ?_⟩) | fail)
      exact Ag (Ab rfl Ac) (.refl _) rfl
    by_cases h1 : 1 ≤ df.toNat ∧ df.toNat ≤ 4
    · by_cases h2 : l.length ≤ 16
      · rw [decide_eq_true h1, decide_eq_true h2] at hm
        refine Ad (N := 37) (rs := [.tmp 2]) hG Try.func99 rfl rfl rfl rfl rfl ?_
        repeat' (first | (show AL _ _ _ _ _ _ _ _; first | refine so0 ?_ | refine sp Y Y Y Y Y Y (by apply hC <;> exact sd) ?_ | (refine sb ?_; intro i)) | (show AW _ _ _ _ _ _; first | (show AW _ _ (.region _ _ _) _ _ _; refine sc0 ?_; intro O1) | (refine sc0 ?_; try intro Q1)) | (show (_ → _) ∧ _; refine ⟨fun h => ?_, fun h => ?_⟩) | fail)
        refine aw_loop (X := MlX l) (fun x => [(1, .ptr i 0), (3, .int .i64 x.i)]) (fun x => ⟨[(i, .cells [bT df, .sl 2 .no (l.map pT)])], [], off, none⟩) (fun x => l.length - x.i) ⟨0, Nat.zero_le _, fun j hj => by omega⟩ ?_ (.refl _) ?_
        · exact .cons rfl (.consW rfl (.int rfl) (.nil _))
        rintro ⟨j, hj, hn⟩
        dsimp only
        by_cases hjl : j < l.length
        · by_cases c : (l.getD j default).2.toNat ≤ 4
          · repeat' (first | (show AL _ _ _ _ _ _ _ _; first | refine so0 ?_ | (refine sb ?_; intro i)) | (show AW _ _ _ _ _ _; first | (show AW _ _ (.region _ _ _) _ _ _; refine sc0 ?_; intro O1) | (refine sc0 ?_; try intro Q1)) | (show (_ → _) ∧ _; refine ⟨fun h => ?_, fun h => ?_⟩) | fail)
            refine ⟨⟨j + 1, by omega, fun q hq => ?_⟩, by dsimp only; omega, ?_, .refl _⟩
            · rcases Nat.lt_succ_iff_lt_or_eq.1 hq with h | rfl
              · exact hn q h
              · exact c
            · exact .cons rfl (.consW rfl (.int (by simp)) (.nil _))
          · have hf : mayLab df l = false := by
              rw [hm, Bool.and_eq_false_iff]
              right
              rw [List.all_eq_false]
              refine ⟨l.getD j default, by rw [List.getD_eq_getElem?_getD, List.getElem?_eq_getElem hjl]; exact List.getElem_mem hjl, by simpa using c⟩
            repeat' (first | (show AL _ _ _ _ _ _ _ _; first | refine so0 ?_ | (refine sb ?_; intro i)) | (show AW _ _ _ _ _ _; first | (show AW _ _ (.region _ _ _) _ _ _; refine sc0 ?_; intro O1) | (refine sc0 ?_; try intro Q1)) | (show (_ → _) ∧ _; refine ⟨fun h => ?_, fun h => ?_⟩) | fail)
            exact Ag (Ab rfl Ac) (.eq (by rw [hf]; rfl)) rfl
        · obtain rfl : j = l.length := by omega
          have hf : mayLab df l = true := by
            rw [hm]
            have : (l.all fun p => decide (p.2.toNat ≤ 4)) = true := by
              rw [List.all_eq_true]
              intro p hp
              obtain ⟨q, hq, rfl⟩ := List.mem_iff_getElem.1 hp
              have := hn q hq
              rw [List.getD_eq_getElem?_getD, List.getElem?_eq_getElem hq] at this
              exact decide_eq_true this
            rw [this]; rfl
          repeat' (first | (show AL _ _ _ _ _ _ _ _; first | refine so0 ?_ | (refine sb ?_; intro i)) | (show AW _ _ _ _ _ _; first | (show AW _ _ (.region _ _ _) _ _ _; refine sc0 ?_; intro O1) | (refine sc0 ?_; try intro Q1)) | (show (_ → _) ∧ _; refine ⟨fun h => ?_, fun h => ?_⟩) | fail)
          exact Ag (Ab rfl Ac) (.eq (by rw [hf]; rfl)) rfl
      · have hf : mayLab df l = false := by rw [hm, decide_eq_false h2]; simp
        rw [hf]
        refine Ad (N := 37) (rs := [.tmp 2]) hG Try.func99 rfl rfl rfl rfl rfl ?_
        repeat' (first | (show AL _ _ _ _ _ _ _ _; first | refine so0 ?_ | refine sp Y Y Y Y Y Y (by apply hC <;> exact sd) ?_ | (refine sb ?_; intro i)) | (show AW _ _ _ _ _ _; first | (show AW _ _ (.region _ _ _) _ _ _; refine sc0 ?_; intro O1) | (refine sc0 ?_; try intro Q1)) | (show (_ → _) ∧ _; refine ⟨fun h => ?_, fun h => ?_⟩) | fail)
        exact Ag (Ab rfl Ac) (.refl _) rfl
    · have hf : mayLab df l = false := by rw [hm, decide_eq_false h1]; simp
      rw [hf]
      refine Ad (N := 37) (rs := [.tmp 2]) hG Try.func99 rfl rfl rfl rfl rfl ?_
      repeat' (first | (show AL _ _ _ _ _ _ _ _; first | refine so0 ?_ | refine sp Y Y Y Y Y Y (by apply hC <;> exact sd) ?_ | (refine sb ?_; intro i)) | (show AW _ _ _ _ _ _; first | (show AW _ _ (.region _ _ _) _ _ _; refine sc0 ?_; intro O1) | (refine sc0 ?_; try intro Q1)) | (show (_ → _) ∧ _; refine ⟨fun h => ?_, fun h => ?_⟩) | fail)
      all_goals exact Ag (Ab rfl Ac) (.refl _) rfl
  · have hC := ref_Canon5 (df := df) (l := l) (by omega)
    have hf : mayLab df l = false := by unfold mayLab; rw [decide_eq_false (by omega)]; simp
    rw [hf]
    refine Ad (N := 37) (rs := [.tmp 2]) hG Try.func99 rfl rfl rfl rfl rfl ?_
    repeat' (first | (show AL _ _ _ _ _ _ _ _; first | refine so0 ?_ | refine sp Y Y Y Y Y Y (by apply hC <;> exact sd) ?_ | (refine sb ?_; intro i)) | (show AW _ _ _ _ _ _; first | (show AW _ _ (.region _ _ _) _ _ _; refine sc0 ?_; intro O1) | (refine sc0 ?_; try intro Q1)) | (show (_ → _) ∧ _; refine ⟨fun h => ?_, fun h => ?_⟩) | fail)
    exact Ag (Ab rfl Ac) (.refl _) rfl
end Go.Proofs.Ythfgocinlbogeaa
namespace Go.Proofs.Ythfgocinlbogeaa
open Go.Ts
attribute [local irreducible] Go.Ts.AW Go.Ts.AOps Go.Ts.AL Go.Ts.AOp Go.Ts.ACalls Go.Ts.DL Go.Ts.DQ Go.Ts.EL
def placeN (p n : Int) : Int := if n < 1 then 0 else if p.tmod n < 0 then p.tmod n + n else p.tmod n
end Go.Proofs.Ythfgocinlbogeaa
namespace Go.Proofs.Ythfgocinlbogeaa
open Go.Ts Go.Sets
set_option linter.unusedSimpArgs false
set_option linter.unusedVariables false
attribute [local irreducible] Go.Ts.AW Go.Ts.AOps Go.Ts.AL Go.Ts.AOp Go.Ts.ACalls Go.Ts.DL Go.Ts.DQ Go.Ts.EL
structure OB where
  id : Nat
  kind : Int
  df : UInt8
  ps : List PR
  s : List UInt16
  i : List UInt16
  o : List UInt16
  q : Int
  u : Int
  x : Int
  d : List UInt8
  c : List UInt16
  r : List (List UInt8)
def OB.cells (o : OB) : List T := [.int .u64 o.id, .int .i64 o.kind, bT o.df, .sl 2 .no (o.ps.map pT), cT o.s, cT o.i, cT o.o, .int .i64 o.q, .int .i64 o.u, .int .i64 o.x, sT o.d, cT o.c, lT o.r]
def OB.t (o : OB) : T := .agg [.int .u64 o.id, .int .i64 o.kind, bT o.df, .sl 2 .no (o.ps.map pT), cT o.s, cT o.i, cT o.o, .int .i64 o.q, .int .i64 o.u, .int .i64 o.x, sT o.d, cT o.c, lT o.r]
structure OB.Fits (o : OB) : Prop where
  hid : o.id < 18446744073709551616
  hs : o.s.length ≤ bigLen
  hi : o.i.length ≤ bigLen
  ho : o.o.length ≤ bigLen
  hd : o.d.length ≤ bigLen
  hc : o.c.length ≤ bigLen
  hr : o.r.length ≤ bigLen
  hrb : ∀ b ∈ o.r, b.length ≤ bigLen
  hps : o.ps.length ≤ bigLen
end Go.Proofs.Ythfgocinlbogeaa
set_option maxHeartbeats 4000000
namespace Go.Proofs.Ythfgocinlbogeaa
open Go.Ts
set_option linter.unusedSimpArgs false
set_option linter.unusedVariables false
attribute [local irreducible] Go.Ts.AW Go.Ts.AOps Go.Ts.AL Go.Ts.AOp Go.Ts.ACalls Go.Ts.DL Go.Ts.DQ Go.Ts.EL
def tlT (r : TL) : T := .tup [.agg [bT r.df, .sl 2 .no (r.ps.map pT)], .int .i64 r.n, .int .i64 r.e]
structure LtX (b : List UInt8) where
  left : Nat
  h256 : left < 256
  acc : List PR
  p : Nat
  q : Nat
  h2 : ¬ b.length < 2
  hp : p ≤ b.length
  hr : takeP b left acc p = takeP b (b.getD 1 default).toNat [] 2
  k : Option Nat
  hk : k = none → acc = []
  hacc : acc.length + left = (b.getD 1 default).toNat
end Go.Proofs.Ythfgocinlbogeaa
namespace Go.Proofs.Ythfgocinlbogeaa
open Go.Ts Go.Sets
set_option linter.unusedSimpArgs false
set_option linter.unusedVariables false
attribute [local irreducible] Go.Ts.AW Go.Ts.AOps Go.Ts.AL Go.Ts.AOp Go.Ts.ACalls Go.Ts.DL Go.Ts.DQ Go.Ts.EL
theorem takeEn (b : List UInt8) (m : Nat) (h : m ≤ 8) : takeE b (m : Int) = if b.length < m then (0, 3) else (beV (b.take m), 0) := by
  unfold takeE
  rw [if_neg (by omega)]
  by_cases h1 : b.length < m
  · rw [if_pos (by omega), if_pos h1]
  · rw [if_neg (by omega), if_neg h1, Int.toNat_natCast]
structure HD where
  e : Int
  kind : Nat
  id : Nat
  df : UInt8
  ps : List PR
  rest : List UInt8
def HD.no (e : Int) : HD := ⟨e, 0, 0, 0, [], []⟩
def zeroCells : List T := [.int .u64 0, .int .i64 0, .int .u8 0, .nilsl, .nilsl, .nilsl, .nilsl, .int .i64 0, .int .i64 0, .int .i64 0, .nilsl, .nilsl, .nilsl]
theorem takeLab_small (s : List UInt8) : (Al s).ps.length ≤ 16 ∧ (Al s).n ≤ s.length := by
  by_cases h : (Al s).e = 0
  · obtain ⟨h1, h2, _⟩ := takeLab_ok h; exact ⟨(mayLab_len h1).1, h2⟩
  · rw [takeLab_no h]; exact ⟨by simp, by simp⟩
end Go.Proofs.Ythfgocinlbogeaa
namespace Go.Proofs.Ythfgocinlbogeaa
open Go.Ts Go.Sets
set_option linter.unusedSimpArgs false
set_option linter.unusedVariables false
attribute [local irreducible] Go.Ts.AW Go.Ts.AOps Go.Ts.AL Go.Ts.AOp Go.Ts.ACalls Go.Ts.DL Go.Ts.DQ Go.Ts.EL
structure TT where
  e : Int
  q : Nat
  u : Nat
  x : Nat
  d : List UInt8
  c : List UInt16
  r : List (List UInt8)
  rest : List UInt8
def TT.no (e : Int) : TT := ⟨e, 0, 0, 0, [], [], [], []⟩
theorem takeBE_3 (b : List UInt8) : (Ay b).2.2 = 0 ∧ (Ay b).2.1 ≤ b.length ∨ (Ay b).2.2 = 3 ∧ (Ay b).2.1 = 0 := by
  rcases takeBE_e b with h | h
  · exact .inl ⟨h.1, h.2.2.1⟩
  · rw [h]; exact .inr ⟨rfl, rfl⟩
theorem takeC_3 (b : List UInt8) : (takeC b).2.2 = 0 ∧ (takeC b).2.1 ≤ b.length ∨ (takeC b).2.2 ≠ 0 ∧ (takeC b).2.1 = 0 := by
  by_cases h : (takeC b).2.2 = 0
  · have q : takeC b = ((takeC b).1, (takeC b).2.1, 0) := by rw [← h]
    exact .inl ⟨h, (takeC_used q).1⟩
  · refine .inr ⟨h, ?_⟩
    unfold takeC at h ⊢
    split
    · rfl
    split
    · rfl
    split
    · rename_i h1 h2 h3; rw [if_neg h1, if_neg h2, if_pos h3] at h; exact absurd rfl h
    · rfl
end Go.Proofs.Ythfgocinlbogeaa
set_option maxHeartbeats 4000000
namespace Go.Proofs.Ythfgocinlbogeaa
open Go.Ts Go.Sets
set_option linter.unusedSimpArgs false
set_option linter.unusedVariables false
attribute [local irreducible] Go.Ts.AW Go.Ts.AOps Go.Ts.AL Go.Ts.AOp Go.Ts.ACalls Go.Ts.DL Go.Ts.DQ Go.Ts.EL
structure RS where
  b : List UInt8
  e : Int
def RS.cells (r : RS) : List T := [sT r.b, .int .i64 r.e]
def rdN (r : RS) (n : Nat) : Nat × RS := if r.e = 0 then (if r.b.length < n then (0, ⟨r.b, 3⟩) else (beV (r.b.take n), ⟨r.b.drop n, 0⟩)) else (0, r)
def rdB (r : RS) : List UInt8 × RS := if r.e = 0 then (if (Ay r.b).2.2 = 0 then ((Ay r.b).1, ⟨r.b.drop (Ay r.b).2.1, 0⟩) else ([], ⟨r.b, 3⟩)) else ([], r)
def rdC (r : RS) : List UInt16 × RS := if r.e = 0 then (if (takeC r.b).2.2 = 0 then ((takeC r.b).1, ⟨r.b.drop (takeC r.b).2.1, 0⟩) else ([], ⟨r.b, (takeC r.b).2.2⟩)) else ([], r)
theorem takeC_no {s : List UInt8} (h : (takeC s).2.2 ≠ 0) : (takeC s).1 = [] := by
  unfold takeC at h ⊢
  split
  · rfl
  split
  · rfl
  split
  · rename_i h1 h2 h3; rw [if_neg h1, if_neg h2, if_pos h3] at h; exact absurd rfl h
  · rfl
end Go.Proofs.Ythfgocinlbogeaa
set_option maxHeartbeats 4000000
namespace Go.Proofs.Ythfgocinlbogeaa
open Go.Ts Go.Sets
set_option linter.unusedSimpArgs false
set_option linter.unusedVariables false
attribute [local irreducible] Go.Ts.AW Go.Ts.AOps Go.Ts.AL Go.Ts.AOp Go.Ts.ACalls Go.Ts.DL Go.Ts.DQ Go.Ts.EL
structure CO where
  op : Nat
  kind : Nat
  id : Nat
  to : Nat
  off : Nat
  n : Nat
  df : UInt8
  ps : List PR
  d : List UInt8
  c : List UInt16
def zeroK : CO := ⟨0, 0, 0, 0, 0, 0, 0, [], [], []⟩
def CO.t (c : CO) : T := .agg [.int .i64 c.op, .int .i64 c.kind, .int .u64 c.id, .int .u64 c.to, .int .i64 c.off, .int .i64 c.n, bT c.df, .sl 2 .no (c.ps.map pT), cT [], cT [], cT [], sT c.d, cT c.c]
def DS (ds : List T) (c : CO) : Prop := ∃ Pp d cc, ds = [.int .i64 c.op, .int .i64 c.kind, .int .u64 c.id, .int .u64 c.to, .int .i64 c.off, .int .i64 c.n, bT c.df, Pp, .nilsl, .nilsl, .nilsl, d, cc] ∧ Wk Pp (.sl 2 .no (c.ps.map pT)) ∧ Wk d (sT c.d) ∧ Wk cc (cT c.c) ∧ (Pp.scalar && d.scalar && cc.scalar) = true
def zeroKC (op : Nat) : List T := [.int .i64 op, .int .i64 0, .int .u64 0, .int .u64 0, .int .i64 0, .int .i64 0, .int .u8 0, .nilsl, .nilsl, .nilsl, .nilsl, .nilsl, .nilsl]
structure S3 where
  df : UInt8
  ps : List PR
def rdS (r : RS) : S3 × RS := if r.e = 0 then (if (Al r.b).e = 0 then (⟨(Al r.b).df, (Al r.b).ps⟩, ⟨r.b.drop (Al r.b).n, 0⟩) else (⟨0, []⟩, ⟨r.b, (Al r.b).e⟩)) else (⟨0, []⟩, r)
theorem rdN_len (r : RS) (m : Nat) : (rdN r m).2.b.length ≤ r.b.length := by
  unfold rdN; split
  · split
    · exact Nat.le_refl _
    · simp only [List.length_drop]; omega
  · exact Nat.le_refl _
theorem rdS_len (r : RS) : (rdS r).2.b.length ≤ r.b.length := by
  unfold rdS; split
  · split
    · simp only [List.length_drop]; omega
    · exact Nat.le_refl _
  · exact Nat.le_refl _
theorem rdN_lt (r : RS) (m : Nat) : (rdN r m).1 < 2 ^ (8 * m) := by
  unfold rdN; split
  · split
    · exact Nat.two_pow_pos _
    · rename_i h; exact beV_lt m _ (by rw [List.length_take]; omega)
  · exact Nat.two_pow_pos _
def freshF (op : Nat) (r : RS) : CO × RS :=
  if (rdN r 1).1 = 1 then (⟨op, (rdN r 1).1, (rdN (rdN r 1).2 8).1, 0, 0, (rdN (rdS (rdN (rdN r 1).2 8).2).2 2).1, (rdS (rdN (rdN r 1).2 8).2).1.df, (rdS (rdN (rdN r 1).2 8).2).1.ps, [], []⟩, (rdN (rdS (rdN (rdN r 1).2 8).2).2 2).2)
  else if (rdN r 1).1 = 2 then (⟨op, (rdN r 1).1, (rdN (rdN r 1).2 8).1, 0, 0, 0, (rdS (rdN (rdN r 1).2 8).2).1.df, (rdS (rdN (rdN r 1).2 8).2).1.ps, (rdB (rdS (rdN (rdN r 1).2 8).2).2).1, []⟩, (rdB (rdS (rdN (rdN r 1).2 8).2).2).2)
  else if (rdN r 1).1 = 3 then (⟨op, (rdN r 1).1, (rdN (rdN r 1).2 8).1, 0, 0, 0, (rdS (rdN (rdN r 1).2 8).2).1.df, (rdS (rdN (rdN r 1).2 8).2).1.ps, [], (rdC (rdS (rdN (rdN r 1).2 8).2).2).1⟩, (rdC (rdS (rdN (rdN r 1).2 8).2).2).2)
  else (⟨op, (rdN r 1).1, (rdN (rdN r 1).2 8).1, 0, 0, 0, (rdS (rdN (rdN r 1).2 8).2).1.df, (rdS (rdN (rdN r 1).2 8).2).1.ps, [], []⟩, (rdS (rdN (rdN r 1).2 8).2).2)
def Ai (op : Nat) (r : RS) : CO × RS :=
  if op = 2 then (⟨op, 0, 0, 0, 0, 0, (rdS r).1.df, (rdS r).1.ps, [], []⟩, (rdS r).2) else
  if op = 3 then freshF op r else
  if op = 4 then (⟨op, 0, (rdN r 8).1, 0, (rdN (rdN r 8).2 2).1, (rdN (rdN (rdN r 8).2 2).2 2).1, 0, [], [], []⟩, (rdN (rdN (rdN r 8).2 2).2 2).2) else
  if op = 5 then (⟨op, 0, (rdN r 8).1, 0, (rdN (rdN r 8).2 2).1, 0, 0, [], (rdB (rdN (rdN r 8).2 2).2).1, []⟩, (rdB (rdN (rdN r 8).2 2).2).2) else
  if op = 6 ∨ op = 7 ∨ op = 9 ∨ op = 11 then (⟨op, 0, (rdN r 8).1, 0, 0, 0, 0, [], [], []⟩, (rdN r 8).2) else
  if op = 8 then (⟨op, 0, (rdN r 8).1, 0, 0, 0, 0, [], (rdB (rdN r 8).2).1, []⟩, (rdB (rdN r 8).2).2) else
  if op = 10 then (⟨op, 0, (rdN r 8).1, (rdN (rdN r 8).2 8).1, 0, (rdN (rdN (rdN r 8).2 8).2 2).1, 0, [], [], []⟩, (rdN (rdN (rdN r 8).2 8).2 2).2) else
  if op = 1 ∨ op = 12 ∨ op = 13 then (⟨op, 0, 0, 0, 0, 0, 0, [], [], []⟩, r) else
  (⟨op, 0, 0, 0, 0, 0, 0, [], [], []⟩, if r.e = 0 then ⟨r.b, 2⟩ else r)
def takeK (b : List UInt8) : CO × Int :=
  if (rdN ⟨b, 0⟩ 1).2.e ≠ 0 then (zeroK, (rdN ⟨b, 0⟩ 1).2.e)
  else if (Ai (rdN ⟨b, 0⟩ 1).1 (rdN ⟨b, 0⟩ 1).2).2.e ≠ 0 then (zeroK, (Ai (rdN ⟨b, 0⟩ 1).1 (rdN ⟨b, 0⟩ 1).2).2.e)
  else if 0 < (Ai (rdN ⟨b, 0⟩ 1).1 (rdN ⟨b, 0⟩ 1).2).2.b.length then (zeroK, 2)
  else ((Ai (rdN ⟨b, 0⟩ 1).1 (rdN ⟨b, 0⟩ 1).2).1, 0)
theorem zeroK_wk : Wk (.agg (zeroKC 0)) zeroK.t := Wk.aggL (wkc (.refl _) (wkc (.refl _) (wkc (.refl _) (wkc (.refl _) (wkc (.refl _) (wkc (.refl _) (wkc (.refl _) (wkc (.nil 2) (wkc (.nil 1) (wkc (.nil 1) (wkc (.nil 1) (wkc (.nil 1) (wkc (.nil 1) trivial)))))))))))))
end Go.Proofs.Ythfgocinlbogeaa
set_option maxHeartbeats 4000000
namespace Go.Proofs.Ythfgocinlbogeaa
open Go.Ts Go.Sets
set_option linter.unusedSimpArgs false
set_option linter.unusedVariables false
attribute [local irreducible] Go.Ts.AW Go.Ts.AOps Go.Ts.AL Go.Ts.AOp Go.Ts.ACalls Go.Ts.DL Go.Ts.DQ Go.Ts.DQ0 Go.Ts.EL
theorem v1_takesE {l : List UInt8} {o m : Nat} {e e' : Int} {n : Nat} (he : e' ≠ 0) (i tw : Nat) :
    OnL Try.prog 74 [.ptr i 0, .int .i64 n, .int .i64 e'] [(i, .cells [tvT tw o m, .int .i64 e]), (tw, .cells (l.map bT))] (fun u L => u = .tup [] ∧ L = [(i, .cells [tvT tw o m, .int .i64 e']), (tw, .cells (l.map bT))]) := by
  intro off
  refine Ad (N := 21) (rs := []) hG Try.func74 rfl rfl rfl rfl rfl ?_
  repeat' (first | (show AL _ _ _ _ _ _ _ _; first | refine so2 ?_) | (show AW _ _ _ _ _ _; first | (show AW _ _ (.region _ _ _) _ _ _; refine sc0 ?_; intro O1) | (refine sc1 ?_; try intro Q1)) | (show (_ → _) ∧ _; refine ⟨fun h => ?_, fun h => ?_⟩) | fail)
  exact ret_on (L' := [(i, .cells [tvT tw o m, .int .i64 e']), (tw, .cells (l.map bT))]) Ac hs (.refl _) rfl ⟨rfl, rfl⟩
theorem v1_takesO {l : List UInt8} {o m : Nat} {e : Int} {n : Nat} (hn : n ≤ m) (i tw : Nat) :
    OnL Try.prog 74 [.ptr i 0, .int .i64 n, .int .i64 0] [(i, .cells [tvT tw o m, .int .i64 e]), (tw, .cells (l.map bT))] (fun u L => u = .tup [] ∧ L = [(i, .cells [tvT tw (o + n) (m - n), .int .i64 e]), (tw, .cells (l.map bT))]) := by
  intro off
  refine Ad (N := 21) (rs := []) hG Try.func74 rfl rfl rfl rfl rfl ?_
  repeat' (first | (show AL _ _ _ _ _ _ _ _; (fail_if_success show AL _ _ _ _ _ (⟨_, .slice _ _ _ _ _, _, _, _, _⟩ :: _) _ _); first | refine so2 ?_) | (show AW _ _ _ _ _ _; first | (show AW _ _ (.region _ _ _) _ _ _; refine sc0 ?_; intro O1) | (refine sc1 ?_; try intro Q1)) | (show (_ → _) ∧ _; refine ⟨fun h => ?_, fun h => ?_⟩) | fail)
  refine Ar rfl (r_tvS (l := n) hG rfl rfl rfl rfl rfl rfl rfl hn ?_)
  repeat' (first | (show AL _ _ _ _ _ _ _ _; first | refine so2 ?_) | (show AW _ _ _ _ _ _; first | (show AW _ _ (.region _ _ _) _ _ _; refine sc0 ?_; intro O1) | (refine sc1 ?_; try intro Q1)) | (show (_ → _) ∧ _; refine ⟨fun h => ?_, fun h => ?_⟩) | fail)
  refine al_nil ?_
  exact A1 (L' := [(i, .cells [tvT tw (o + n) (m - n), .int .i64 e]), (tw, .cells (l.map bT))]) Ac hs (.refl _) rfl ⟨rfl, rfl⟩
theorem v1_number {r : RS} {l : List UInt8} {o m : Nat} {n : Nat} (h : o + m ≤ l.length) (hr : win l o m = r.b) (h8 : n ≤ 8) (hl : l.length ≤ 4294967296) (i tw : Nat) :
    OnL Try.prog 50 [.ptr i 0, .int .i64 (n : Int)] [(i, .cells [tvT tw o m, .int .i64 r.e]), (tw, .cells (l.map bT))] (fun u L => ∃ o' m', o' + m' ≤ l.length ∧ win l o' m' = (rdN r n).2.b ∧ u = .int .u64 (rdN r n).1 ∧ L = [(i, .cells [tvT tw o' m', .int .i64 (rdN r n).2.e]), (tw, .cells (l.map bT))]) := by
  intro off
  obtain ⟨b, e⟩ := r
  dsimp only at hr ⊢
  subst hr
  have hb := win_len h
  by_cases he : e = 0
  · subst he
    have hT := takeEn (win l o m) n h8
    by_cases h1 : m < n
    · rw [if_pos (by omega)] at hT
      have hh : rdN ⟨win l o m, 0⟩ n = (0, ⟨win l o m, 3⟩) := by rw [rdN, if_pos rfl, if_pos (by dsimp only; omega)]
      have hc := num_Take_v h tw hT
      rw [hh]
      refine Ad (N := 25) (rs := [.tmp 4]) hG Try.func50 rfl rfl rfl rfl rfl ?_
      repeat' (first | (show AL _ _ _ _ _ _ _ _; first | refine so2 ?_ | refine al_onS hc Y Y Y Y Y hs ?_) | (show AW _ _ _ _ _ _; first | (show AW _ _ (.region _ _ _) _ _ _; refine sc0 ?_; intro O1) | (refine sc1 ?_; try intro Q1)) | (show (_ → _) ∧ _; refine ⟨fun h => ?_, fun h => ?_⟩) | fail)
      refine al_on (v1_takesE (l := l) (o := o) (m := m) (e := 0) (e' := 3) (n := n) (by decide) i tw) rfl rfl rfl rfl rfl rfl hs ?_
      rintro u L' ⟨rfl, rfl⟩
      repeat' (first | (show AL _ _ _ _ _ _ _ _; first | refine so2 ?_) | (show AW _ _ _ _ _ _; first | (show AW _ _ (.region _ _ _) _ _ _; refine sc0 ?_; intro O1) | (refine sc1 ?_; try intro Q1)) | (show (_ → _) ∧ _; refine ⟨fun h => ?_, fun h => ?_⟩) | fail)
      exact ret_on (L' := [(i, .cells [tvT tw o m, .int .i64 3]), (tw, .cells (l.map bT))]) (Ab rfl Ac) hs (.refl _) rfl ⟨o, m, h, rfl, rfl, rfl⟩
    · rw [if_neg (by omega)] at hT
      have hh : rdN ⟨win l o m, 0⟩ n = (beV ((win l o m).take n), ⟨(win l o m).drop n, 0⟩) := by rw [rdN, if_pos rfl, if_neg (by dsimp only; omega)]
      have hc := num_Take_v h tw hT
      rw [hh]
      refine Ad (N := 25) (rs := [.tmp 4]) hG Try.func50 rfl rfl rfl rfl rfl ?_
      repeat' (first | (show AL _ _ _ _ _ _ _ _; first | refine so2 ?_ | refine al_onS hc Y Y Y Y Y hs ?_) | (show AW _ _ _ _ _ _; first | (show AW _ _ (.region _ _ _) _ _ _; refine sc0 ?_; intro O1) | (refine sc1 ?_; try intro Q1)) | (show (_ → _) ∧ _; refine ⟨fun h => ?_, fun h => ?_⟩) | fail)
      refine al_on (v1_takesO (l := l) (o := o) (m := m) (e := 0) (n := n) (by omega) i tw) rfl rfl rfl rfl rfl rfl hs ?_
      rintro u L' ⟨rfl, rfl⟩
      repeat' (first | (show AL _ _ _ _ _ _ _ _; first | refine so2 ?_) | (show AW _ _ _ _ _ _; first | (show AW _ _ (.region _ _ _) _ _ _; refine sc0 ?_; intro O1) | (refine sc1 ?_; try intro Q1)) | (show (_ → _) ∧ _; refine ⟨fun h => ?_, fun h => ?_⟩) | fail)
      exact ret_on (L' := [(i, .cells [tvT tw (o + n) (m - n), .int .i64 0]), (tw, .cells (l.map bT))]) (Ab rfl Ac) hs (.refl _) rfl ⟨o + n, m - n, by omega, win_drop.symm, rfl, rfl⟩
  · have hh : rdN ⟨win l o m, e⟩ n = (0, ⟨win l o m, e⟩) := by rw [rdN, if_neg he]
    rw [hh]
    refine Ad (N := 25) (rs := [.tmp 4]) hG Try.func50 rfl rfl rfl rfl rfl ?_
    repeat' (first | (show AL _ _ _ _ _ _ _ _; first | refine so2 ?_) | (show AW _ _ _ _ _ _; first | (show AW _ _ (.region _ _ _) _ _ _; refine sc0 ?_; intro O1) | (refine sc1 ?_; try intro Q1)) | (show (_ → _) ∧ _; refine ⟨fun h => ?_, fun h => ?_⟩) | fail)
    exact ret_on (L' := [(i, .cells [tvT tw o m, .int .i64 e]), (tw, .cells (l.map bT))]) (Ab rfl Ac) hs (.refl _) rfl ⟨o, m, h, rfl, rfl, rfl⟩
theorem v1_bytes {r : RS} {l : List UInt8} {o m : Nat} (h : o + m ≤ l.length) (hr : win l o m = r.b) (hl : l.length ≤ 4294967296) (i tw : Nat) :
    OnL Try.prog 77 [.ptr i 0] [(i, .cells [tvT tw o m, .int .i64 r.e]), (tw, .cells (l.map bT))] (fun u L => ∃ o' m', o' + m' ≤ l.length ∧ win l o' m' = (rdB r).2.b ∧ u = sT (rdB r).1 ∧ L = [(i, .cells [tvT tw o' m', .int .i64 (rdB r).2.e]), (tw, .cells (l.map bT))]) := by
  intro off
  obtain ⟨b, e⟩ := r
  dsimp only at hr ⊢
  subst hr
  have hb := win_len h
  by_cases he : e = 0
  · subst he
    have hc := num_TakeBytes_v h (by omega) tw
    have h3 := takeBE_3 (win l o m)
    have hh : rdB ⟨win l o m, 0⟩ = (if (Ay (win l o m)).2.2 = 0 then ((Ay (win l o m)).1, ⟨(win l o m).drop (Ay (win l o m)).2.1, 0⟩) else ([], ⟨win l o m, 3⟩)) := by rw [rdB, if_pos rfl]
    have hz : (Ay (win l o m)).2.2 ≠ 0 → (Ay (win l o m)).1 = [] ∧ (Ay (win l o m)).2.2 = 3 := fun h => by
      rcases takeBE_e (win l o m) with q | q
      · exact absurd q.1 h
      · rw [q]; exact ⟨rfl, rfl⟩
    generalize Ay (win l o m) = t at *
    obtain ⟨s, n, e⟩ := t
    dsimp only at *
    by_cases h1 : e = 0
    · subst h1
      rw [if_pos rfl] at hh
      rw [hh]
      refine Ad (N := 24) (rs := [.tmp 2]) hG Try.func77 rfl rfl rfl rfl rfl ?_
      repeat' (first | (show AL _ _ _ _ _ _ _ _; first | refine so2 ?_ | refine al_onS hc Y Y Y Y Y hs ?_) | (show AW _ _ _ _ _ _; first | (show AW _ _ (.region _ _ _) _ _ _; refine sc0 ?_; intro O1) | (refine sc1 ?_; try intro Q1)) | (show (_ → _) ∧ _; refine ⟨fun h => ?_, fun h => ?_⟩) | fail)
      refine al_on (v1_takesO (l := l) (o := o) (m := m) (e := 0) (n := n) (by omega) i tw) rfl rfl rfl rfl rfl rfl hs ?_
      rintro u L' ⟨rfl, rfl⟩
      repeat' (first | (show AL _ _ _ _ _ _ _ _; first | refine so2 ?_) | (show AW _ _ _ _ _ _; first | (show AW _ _ (.region _ _ _) _ _ _; refine sc0 ?_; intro O1) | (refine sc1 ?_; try intro Q1)) | (show (_ → _) ∧ _; refine ⟨fun h => ?_, fun h => ?_⟩) | fail)
      exact ret_on (L' := [(i, .cells [tvT tw (o + n) (m - n), .int .i64 0]), (tw, .cells (l.map bT))]) (Ab rfl Ac) hs (.refl _) rfl ⟨o + n, m - n, by omega, win_drop.symm, rfl, rfl⟩
    · rw [if_neg h1] at hh
      rw [hh]
      obtain ⟨rfl, rfl⟩ := hz h1
      refine Ad (N := 24) (rs := [.tmp 2]) hG Try.func77 rfl rfl rfl rfl rfl ?_
      repeat' (first | (show AL _ _ _ _ _ _ _ _; first | refine so2 ?_ | refine al_onS hc Y Y Y Y Y hs ?_) | (show AW _ _ _ _ _ _; first | (show AW _ _ (.region _ _ _) _ _ _; refine sc0 ?_; intro O1) | (refine sc1 ?_; try intro Q1)) | (show (_ → _) ∧ _; refine ⟨fun h => ?_, fun h => ?_⟩) | fail)
      refine al_on (v1_takesE (l := l) (o := o) (m := m) (e := 0) (e' := 3) (n := n) (by omega) i tw) rfl rfl rfl rfl rfl rfl hs ?_
      rintro u L' ⟨rfl, rfl⟩
      repeat' (first | (show AL _ _ _ _ _ _ _ _; first | refine so2 ?_) | (show AW _ _ _ _ _ _; first | (show AW _ _ (.region _ _ _) _ _ _; refine sc0 ?_; intro O1) | (refine sc1 ?_; try intro Q1)) | (show (_ → _) ∧ _; refine ⟨fun h => ?_, fun h => ?_⟩) | fail)
      exact ret_on (L' := [(i, .cells [tvT tw o m, .int .i64 3]), (tw, .cells (l.map bT))]) (Ab rfl Ac) hs (.refl _) rfl ⟨o, m, h, rfl, rfl, rfl⟩
  · have hh : rdB ⟨win l o m, e⟩ = ([], ⟨win l o m, e⟩) := by rw [rdB, if_neg he]
    rw [hh]
    refine Ad (N := 24) (rs := [.tmp 2]) hG Try.func77 rfl rfl rfl rfl rfl ?_
    repeat' (first | (show AL _ _ _ _ _ _ _ _; first | refine so2 ?_) | (show AW _ _ _ _ _ _; first | (show AW _ _ (.region _ _ _) _ _ _; refine sc0 ?_; intro O1) | (refine sc1 ?_; try intro Q1)) | (show (_ → _) ∧ _; refine ⟨fun h => ?_, fun h => ?_⟩) | fail)
    exact ret_on (L' := [(i, .cells [tvT tw o m, .int .i64 e]), (tw, .cells (l.map bT))]) (Ab rfl Ac) hs (.nil 1) rfl ⟨o, m, h, rfl, rfl, rfl⟩
theorem v1_cats {r : RS} {l : List UInt8} {o m : Nat} (h : o + m ≤ l.length) (hr : win l o m = r.b) (hl : l.length ≤ 4294967296) (i tw : Nat) :
    OnL Try.prog 97 [.ptr i 0] [(i, .cells [tvT tw o m, .int .i64 r.e]), (tw, .cells (l.map bT))] (fun u L => ∃ o' m', o' + m' ≤ l.length ∧ win l o' m' = (rdC r).2.b ∧ u = cT (rdC r).1 ∧ L = [(i, .cells [tvT tw o' m', .int .i64 (rdC r).2.e]), (tw, .cells (l.map bT))]) := by
  intro off
  obtain ⟨b, e⟩ := r
  dsimp only at hr ⊢
  subst hr
  have hb := win_len h
  by_cases he : e = 0
  · subst he
    have hc := cats_Take_v h (by omega) tw
    have h3 := takeC_3 (win l o m)
    have hh : rdC ⟨win l o m, 0⟩ = (if (takeC (win l o m)).2.2 = 0 then ((takeC (win l o m)).1, ⟨(win l o m).drop (takeC (win l o m)).2.1, 0⟩) else ([], ⟨win l o m, (takeC (win l o m)).2.2⟩)) := by rw [rdC, if_pos rfl]
    have hz : (takeC (win l o m)).2.2 ≠ 0 → (takeC (win l o m)).1 = [] := takeC_no
    generalize takeC (win l o m) = t at *
    obtain ⟨s, n, e⟩ := t
    dsimp only at *
    by_cases h1 : e = 0
    · subst h1
      rw [if_pos rfl] at hh
      rw [hh]
      refine Ad (N := 24) (rs := [.tmp 2]) hG Try.func97 rfl rfl rfl rfl rfl ?_
      repeat' (first | (show AL _ _ _ _ _ _ _ _; first | refine so2 ?_ | refine al_onS hc Y Y Y Y Y hs ?_) | (show AW _ _ _ _ _ _; first | (show AW _ _ (.region _ _ _) _ _ _; refine sc0 ?_; intro O1) | (refine sc1 ?_; try intro Q1)) | (show (_ → _) ∧ _; refine ⟨fun h => ?_, fun h => ?_⟩) | fail)
      refine al_on (v1_takesO (l := l) (o := o) (m := m) (e := 0) (n := n) (by omega) i tw) rfl rfl rfl rfl rfl rfl hs ?_
      rintro u L' ⟨rfl, rfl⟩
      repeat' (first | (show AL _ _ _ _ _ _ _ _; first | refine so2 ?_) | (show AW _ _ _ _ _ _; first | (show AW _ _ (.region _ _ _) _ _ _; refine sc0 ?_; intro O1) | (refine sc1 ?_; try intro Q1)) | (show (_ → _) ∧ _; refine ⟨fun h => ?_, fun h => ?_⟩) | fail)
      exact ret_on (L' := [(i, .cells [tvT tw (o + n) (m - n), .int .i64 0]), (tw, .cells (l.map bT))]) (Ab rfl Ac) hs (.refl _) rfl ⟨o + n, m - n, by omega, win_drop.symm, rfl, rfl⟩
    · rw [if_neg h1] at hh
      rw [hh]
      obtain rfl := hz h1
      refine Ad (N := 24) (rs := [.tmp 2]) hG Try.func97 rfl rfl rfl rfl rfl ?_
      repeat' (first | (show AL _ _ _ _ _ _ _ _; first | refine so2 ?_ | refine al_onS hc Y Y Y Y Y hs ?_) | (show AW _ _ _ _ _ _; first | (show AW _ _ (.region _ _ _) _ _ _; refine sc0 ?_; intro O1) | (refine sc1 ?_; try intro Q1)) | (show (_ → _) ∧ _; refine ⟨fun h => ?_, fun h => ?_⟩) | fail)
      refine al_on (v1_takesE (l := l) (o := o) (m := m) (e := 0) (e' := e) (n := n) (by omega) i tw) rfl rfl rfl rfl rfl rfl hs ?_
      rintro u L' ⟨rfl, rfl⟩
      repeat' (first | (show AL _ _ _ _ _ _ _ _; first | refine so2 ?_) | (show AW _ _ _ _ _ _; first | (show AW _ _ (.region _ _ _) _ _ _; refine sc0 ?_; intro O1) | (refine sc1 ?_; try intro Q1)) | (show (_ → _) ∧ _; refine ⟨fun h => ?_, fun h => ?_⟩) | fail)
      exact ret_on (L' := [(i, .cells [tvT tw o m, .int .i64 e]), (tw, .cells (l.map bT))]) (Ab rfl Ac) hs (.refl _) rfl ⟨o, m, h, rfl, rfl, rfl⟩
  · have hh : rdC ⟨win l o m, e⟩ = ([], ⟨win l o m, e⟩) := by rw [rdC, if_neg he]
    rw [hh]
    refine Ad (N := 24) (rs := [.tmp 2]) hG Try.func97 rfl rfl rfl rfl rfl ?_
    repeat' (first | (show AL _ _ _ _ _ _ _ _; first | refine so2 ?_) | (show AW _ _ _ _ _ _; first | (show AW _ _ (.region _ _ _) _ _ _; refine sc0 ?_; intro O1) | (refine sc1 ?_; try intro Q1)) | (show (_ → _) ∧ _; refine ⟨fun h => ?_, fun h => ?_⟩) | fail)
    exact ret_on (L' := [(i, .cells [tvT tw o m, .int .i64 e]), (tw, .cells (l.map bT))]) (Ab rfl Ac) hs (.nil 1) rfl ⟨o, m, h, rfl, rfl, rfl⟩
end Go.Proofs.Ythfgocinlbogeaa
set_option maxHeartbeats 4000000
namespace Go.Ts
set_option linter.unusedSimpArgs false
set_option linter.unusedVariables false
section
variable {P : Program} {G : Nat → Option TI} {N : Nat} {σ : St} {a : Env} {K : Env → St → Prop} {d : Tmp} {ty : TypeId} {pos : String} {af : Array Edge} {gd : Option (Nat × Bool)}
theorem r_tvI {t : TypeId} {x ix : Operand} {k : IntKind} {zi : Int} {z e i o m : Nat} {ti te : TI} (hG : Fits P G)
    (hx : Aa a x = some (tvT i o m)) (hn : Aa a ix = some (.int k zi)) (hz : zi = ((z : Nat) : Int)) (ht : G t = some ti) (htd : ti.d = .slice e) (hte : G e = some te) (hsz : Nat.beq 1 te.size = true) (hd : Ae N (some d) = true)
    (h0 : z < m) (kk : K (put a (some d) (.ptr i (o + z))) σ) : AOp P N ⟨some d, .indexAddr t x ix, ty, pos, af, gd⟩ a σ K := by
  subst hz
  have h1 : 1 = te.size := Nat.eq_of_beq_eq_true hsz
  refine op_q hG (t := .ptr i (o + z)) ?_ rfl hd kk
  obtain ⟨d1, s1, s2, s3⟩ := ti
  simp only at htd; subst htd
  have h2 : sizeT G e = some 1 := by simp [sizeT, hte, ← h1]
  simp only [Am, hx, hn, ht, h2]
  simp [h0]
theorem r_tvW {t : TypeId} {x : Operand} {i o m z : Nat} {ti : TI} {l b : List UInt8} (hG : Fits P G) (hb : win l o m = b) (hx : Aa a x = some (.ptr i (o + z))) (hob : Has σ.L i (.cells (l.map bT))) (ht : G t = some ti) (hag : ti.d.agg = false)
    (h : o + m ≤ l.length) (hz : z < m) (hd : Ae N (some d) = true) (kk : K (put a (some d) (bT (b.getD z default))) σ) : AOp P N ⟨some d, .load t x, ty, pos, af, gd⟩ a σ K := by
  subst hb
  rw [win_get hz] at kk
  exact r_tvB hG hx hob ht hag (by omega) hd kk
end
end Go.Ts
namespace Go.Proofs.Ythfgocinlbogeaa
open Go.Ts
set_option linter.unusedSimpArgs false
set_option linter.unusedVariables false
attribute [local irreducible] Go.Ts.AW Go.Ts.AOps Go.Ts.AL Go.Ts.AOp Go.Ts.ACalls Go.Ts.DL Go.Ts.DQ Go.Ts.EL
set_option maxHeartbeats 9000000 in
theorem lcode_Take_v {l : List UInt8} {o mm : Nat} (h : o + mm ≤ l.length) (hl : mm ≤ 4294967296) (tw : Nat) :
    OnL Try.prog 96 [tvT tw o mm] [(tw, .cells (l.map bT))] (fun u L => u = tlT (Al (win l o mm)) ∧ L = [(tw, .cells (l.map bT))]) := by
  obtain ⟨b, hbb⟩ : ∃ b, win l o mm = b := ⟨_, rfl⟩
  have hbl : b.length = mm := by rw [← hbb, win_len h]
  rw [hbb]
  intro off
  refine Ad (N := 59) (rs := [.cell 2 43, .tmp 3, .tmp 4]) hG Try.func96 rfl rfl rfl rfl rfl ?_
  repeat' (first | (show AL _ _ _ _ _ _ _ _; first | refine so0 ?_ | (refine sa ?_; intro k) | (refine sb ?_; intro i)) | (show DL _ _ _ _ _ _ _; first | refine do0 ?_) | (show AW _ _ _ _ _ _; first | (show AW _ _ (.region _ _ _) _ _ _; refine sc0 ?_; intro O1) | (refine sc0 ?_; try intro Q1)) | (show (_ → _) ∧ _; refine ⟨fun h => ?_, fun h => ?_⟩) | fail)
  refine aw_scope' 0 rfl (X := LtX b) (fun x => [(0, tvT tw o mm), (2, .ptr x.q 0), (3, .int .i64 x.p), (5, .int .i64 x.left)])
    (fun x => match x.k with
      | none => ⟨[(x.q, .cells [bT (b.getD 0 default), .nilsl]), (tw, .cells (l.map bT))], [], off, none⟩
      | some k => ⟨[(x.q, .cells [bT (b.getD 0 default), .sl 2 (.tok k) (x.acc.map pT)]), (tw, .cells (l.map bT))], [k], off, none⟩) (fun x => x.left) ?_ ?_
  · rintro ⟨left, h256, acc, p, q, h2, hp, hr, k, hk, hacc⟩
    dsimp only
    have hu8 := (b.getD 1 default).toNat_lt
    have hT : Al b = match takeP b left acc p with
      | none => ⟨0, [], 0, 3⟩
      | some (l, q) => if mayLab (b.getD 0 default) l then ⟨b.getD 0 default, l, q, 0⟩ else ⟨0, [], 0, 2⟩ := by rw [Al, if_neg h2, ← hr] <;> rfl
    by_cases hlft : left = 0
    · subst hlft
      rw [takeP] at hT
      dsimp only at hT
      have hM := label_May (df := b.getD 0 default) (l := acc) (by omega)
      cases k with
      | none =>
        obtain rfl := hk rfl
        have hM1 := Pure.weak hM (ts := [.agg [bT (b.getD 0 default), .nilsl]]) (wk1 (Wk.aggL (wk2 (.refl _) (.nil 2))))
        cases hm : mayLab (b.getD 0 default) [] <;> rw [hm] at hM1 hT
        · rw [if_neg Bool.false_ne_true] at hT
          repeat' (first | (show AL _ _ _ _ _ _ _ _; first | refine so0 ?_ | refine sp Y Y Y Y Y Y (by apply hM1 <;> exact sd) ?_ | (refine sa ?_; intro k) | (refine sb ?_; intro i)) | (show DL _ _ _ _ _ _ _; first | refine do0 ?_ | refine dp Y Y Y Y Y Y Y (by apply hM1 <;> exact sd) ?_) | (show AW _ _ _ _ _ _; first | (show AW _ _ (.region _ _ _) _ _ _; refine sc0 ?_; intro O1) | (refine sc0 ?_; try intro Q1)) | (show (_ → _) ∧ _; refine ⟨fun h => ?_, fun h => ?_⟩) | fail)
          refine ret_on (L' := [(tw, .cells (l.map bT))]) (res_cellM rfl hs (by exact rfl) (Ab rfl (Ab rfl Ac))) hs ?_ rfl ⟨rfl, rfl⟩
          rw [hT]
          exact Wk.tupL (wk3 (Wk.aggL (wk2 (.refl _) (.nil 2))) (.refl _) (.refl _))
        · rw [if_pos rfl] at hT
          repeat' (first | (show AL _ _ _ _ _ _ _ _; first | refine so0 ?_ | refine sp Y Y Y Y Y Y (by apply hM1 <;> exact sd) ?_ | (refine sa ?_; intro k) | (refine sb ?_; intro i)) | (show DL _ _ _ _ _ _ _; first | refine do0 ?_ | refine dp Y Y Y Y Y Y Y (by apply hM1 <;> exact sd) ?_) | (show AW _ _ _ _ _ _; first | (show AW _ _ (.region _ _ _) _ _ _; refine sc0 ?_; intro O1) | (refine sc0 ?_; try intro Q1)) | (show (_ → _) ∧ _; refine ⟨fun h => ?_, fun h => ?_⟩) | fail)
          refine ret_on (L' := [(tw, .cells (l.map bT))]) (res_cellM rfl hs (by exact rfl) (Ab rfl (Ab rfl Ac))) hs ?_ rfl ⟨rfl, rfl⟩
          rw [hT]
          exact Wk.tupL (wk3 (Wk.aggL (wk2 (.refl _) (.nil 2))) (.refl _) (.refl _))
      | some k =>
        have hM1 := Pure.weak hM (ts := [.agg [bT (b.getD 0 default), .sl 2 (.tok k) (acc.map pT)]]) (wk1 (Wk.aggL (wk2 (.refl _) (Wk.own _ _ _))))
        cases hm : mayLab (b.getD 0 default) acc <;> rw [hm] at hM1 hT
        · rw [if_neg Bool.false_ne_true] at hT
          repeat' (first | (show AL _ _ _ _ _ _ _ _; first | refine so0 ?_ | refine sp Y Y Y Y Y Y (by apply hM1 <;> exact sd) ?_ | (refine sa ?_; intro k) | (refine sb ?_; intro i)) | (show DL _ _ _ _ _ _ _; first | refine do0 ?_ | refine dp Y Y Y Y Y Y Y (by apply hM1 <;> exact sd) ?_) | (show AW _ _ _ _ _ _; first | (show AW _ _ (.region _ _ _) _ _ _; refine sc0 ?_; intro O1) | (refine sc0 ?_; try intro Q1)) | (show (_ → _) ∧ _; refine ⟨fun h => ?_, fun h => ?_⟩) | fail)
          refine ret_on (L' := [(tw, .cells (l.map bT))]) (res_cellM rfl hs (by exact rfl) (Ab rfl (Ab rfl Ac))) hs ?_ rfl ⟨rfl, rfl⟩
          rw [hT]
          exact Wk.tupL (wk3 (Wk.aggL (wk2 (.refl _) (.nil 2))) (.refl _) (.refl _))
        · rw [if_pos rfl] at hT
          repeat' (first | (show AL _ _ _ _ _ _ _ _; first | refine so0 ?_ | refine sp Y Y Y Y Y Y (by apply hM1 <;> exact sd) ?_ | (refine sa ?_; intro k) | (refine sb ?_; intro i)) | (show DL _ _ _ _ _ _ _; first | refine do0 ?_ | refine dp Y Y Y Y Y Y Y (by apply hM1 <;> exact sd) ?_) | (show AW _ _ _ _ _ _; first | (show AW _ _ (.region _ _ _) _ _ _; refine sc0 ?_; intro O1) | (refine sc0 ?_; try intro Q1)) | (show (_ → _) ∧ _; refine ⟨fun h => ?_, fun h => ?_⟩) | fail)
          refine ret_on (L' := [(tw, .cells (l.map bT))]) (res_cellM rfl hs (by exact rfl) (Ab rfl (Ab rfl Ac))) hs ?_ rfl ⟨rfl, rfl⟩
          rw [hT]
          exact Wk.tupL (wk3 (Wk.aggL (wk2 (.refl _) (Wk.own _ _ _))) (.refl _) (.refl _))
    · obtain ⟨m, rfl⟩ : ∃ m, left = m + 1 := ⟨left - 1, by omega⟩
      by_cases h3 : b.length - p < 3
      · have hT3 : Al b = ⟨0, [], 0, 3⟩ := by rw [hT, takeP, if_pos h3]
        cases k with
        | none =>
          repeat' (first | (show AL _ _ _ _ _ _ _ _; first | refine so0 ?_ | (refine sa ?_; intro k) | (refine sb ?_; intro i)) | (show DL _ _ _ _ _ _ _; first | refine do0 ?_) | (show AW _ _ _ _ _ _; first | (show AW _ _ (.region _ _ _) _ _ _; refine sc0 ?_; intro O1) | (refine sc0 ?_; try intro Q1)) | (show (_ → _) ∧ _; refine ⟨fun h => ?_, fun h => ?_⟩) | fail)
          refine ret_on (L' := [(tw, .cells (l.map bT))]) (res_cellM rfl hs (by exact rfl) (Ab rfl (Ab rfl Ac))) hs ?_ rfl ⟨rfl, rfl⟩
          rw [hT3]
          exact Wk.tupL (wk3 (Wk.aggL (wk2 (.refl _) (.nil 2))) (.refl _) (.refl _))
        | some k =>
          repeat' (first | (show AL _ _ _ _ _ _ _ _; first | refine so0 ?_ | (refine sa ?_; intro k) | (refine sb ?_; intro i)) | (show DL _ _ _ _ _ _ _; first | refine do0 ?_) | (show AW _ _ _ _ _ _; first | (show AW _ _ (.region _ _ _) _ _ _; refine sc0 ?_; intro O1) | (refine sc0 ?_; try intro Q1)) | (show (_ → _) ∧ _; refine ⟨fun h => ?_, fun h => ?_⟩) | fail)
          refine ret_on (L' := [(tw, .cells (l.map bT))]) (res_cellM rfl hs (by exact rfl) (Ab rfl (Ab rfl Ac))) hs ?_ rfl ⟨rfl, rfl⟩
          rw [hT3]
          exact Wk.tupL (wk3 (Wk.aggL (wk2 (.refl _) (.nil 2))) (.refl _) (.refl _))
      · have hd : (b.drop p).length = b.length - p := List.length_drop
        have hE := takeE2 (b.drop p)
        rw [if_neg (by omega)] at hE
        have hwd : win l (o + p) (mm - p) = b.drop p := by rw [← hbb, win_drop]
        have hc := num_Take_v (l := l) (o := o + p) (m := mm - p) (by omega) tw (n := 2) (v := beV ((b.drop p).take 2)) (e := 0) (by rw [hwd]; exact hE)
        have hv := beV2 (b.drop p) (by omega)
        have e2 : ((p : Int) + 3 - 1).toNat = p + 2 := by omega
        have hr2 : takeP b m (acc ++ [(UInt16.ofNat (beV ((b.drop p).take 2)), b.getD (p + 2) default)]) (p + 3) = takeP b (b.getD 1 default).toNat [] 2 := by rw [← hr, takeP, if_neg h3]
        generalize hvv : beV ((b.drop p).take 2) = v at *
        have ht := hT_of v hv
        cases k with
        | none =>
          obtain rfl := hk rfl
          repeat' (first | (show AL _ _ _ _ _ _ _ _; (fail_if_success show AL _ _ _ _ _ (⟨_, .slice _ _ _ _ _, _, _, _, _⟩ :: _) _ _); first | refine so0 ?_ | (refine sa ?_; intro k) | (refine sb ?_; intro i)) | (show DL _ _ _ _ _ _ _; first | refine do0 ?_) | (show AW _ _ _ _ _ _; first | (show AW _ _ (.region _ _ _) _ _ _; refine sc0 ?_; intro O1) | (refine sc0 ?_; try intro Q1)) | (show (_ → _) ∧ _; refine ⟨fun h => ?_, fun h => ?_⟩) | fail)
          refine Ar rfl (r_tvS (l := p) hG rfl rfl rfl rfl rfl rfl rfl (by omega) ?_)
          repeat' (first | (show AL _ _ _ _ _ _ _ _; first | refine so0 ?_ | refine al_onS hc Y Y Y Y Y hs ?_ | (refine sa ?_; intro k) | (refine sb ?_; intro i)) | (show DL _ _ _ _ _ _ _; first | refine do0 ?_ | refine dl_on hc Y Y Y Y Y Y hs ?_) | (show AW _ _ _ _ _ _; (fail_if_success show AW _ _ (.region 9 _ _) _ _ _); first | (show AW _ _ (.region _ _ _) _ _ _; refine sc0 ?_; intro O1) | (refine sc0 ?_; try intro Q1)) | (show (_ → _) ∧ _; refine ⟨fun h => ?_, fun h => ?_⟩) | fail)
          refine aw_drawE' (m := 15) [1, 12, 14] (fun σ => ∃ x : List T × List Nat, σ = ⟨[(q, .cells x.1), (tw, .cells (l.map bT))], x.2, off, none⟩) mix rfl (by repeat (first | exact Sp.zero _ | apply Sp.succ)) ?_; intro O1 F1 Z1 Q2
          repeat' (first
    | (refine' dq_cons Y Y Y (fun σ hσ K kk => ?_) ?_; (try (show Go.Ts.T; rotate_left)); (obtain ⟨R, rfl⟩ := hσ); (first
      | (show AOp _ _ ⟨_, .move _, _, _, _, _⟩ _ _ _; refine r_move hG Y Y ?_)
      | (show AOp _ _ ⟨_, .assign _, _, _, _, _⟩ _ _ _; refine r_asg hG Y Y ?_)
      | (show AOp _ _ ⟨_, .call ⟨.builtin .len, _, _⟩, _, _, _, _⟩ _ _ _; first | refine r_lenm hG Y Y Y Y ?_ | refine r_len hG Y Y Y Y Y ?_)
      | (show AOp _ _ ⟨_, .binOp .add _ _ _ _, _, _, _, _⟩ _ _ _; first | refine Ap hG Y Y Y Y Y (by omega) ?_)
      | (show AOp _ _ ⟨_, .binOp .sub _ _ _ _, _, _, _, _⟩ _ _ _; first | refine Ap hG Y Y Y Y Y (by omega) ?_)
      | (show AOp _ _ ⟨_, .binOp _ _ _ _ _, _, _, _, _⟩ _ _ _; first | refine r_cmpT hG Y Y Y Y Y (by omega) ?_ | refine r_cmpF hG Y Y Y Y Y (by omega) ?_)
      | (show AOp _ _ ⟨_, .load _ _, _, _, _, _⟩ _ _ _; first | refine r_ldro hG Y Y Y ?_ | refine r_ld 0 hG Y Y Y Y ?_ | refine r_ld 1 hG Y Y Y Y ?_)
      | (show AOp _ _ ⟨_, .indexAddr _ _ _, _, _, _, _⟩ _ _ _; first | refine r_idx0 hG Y Y Y Y Y Y Y ?_ | refine r_idxn hG Y Y Y Y Y Y Y (by omega) ?_ | refine r_idxm hG Y Y Y Y Y Y Y (by omega) ?_ | refine r_idx hG Y Y ?_)
      | (show AOp _ _ ⟨_, .convert _ _ _, _, _, _, _⟩ _ _ _; first | refine r_cv8 hG Y Y Y Y Y Y ?_ | refine A2 hG Y Y Y Y Y (by omega) ?_ | refine r_cv_u16 hG Y Y Y Y Y (by omega) ?_ | refine r_cvw hG Y Y Y Y Y ?_)
      | (show AOp _ _ ⟨_, .slice _ _ _ _ _, _, _, _, _⟩ _ _ _; first | refine r_sl_lon hG Y Y Y Y Y Y Y (by omega) ?_ | refine r_sl_lo hG Y Y Y Y Y Y Y (by omega) ?_ | refine r_sl hG Y Y ?_)
      | (show AOp _ _ ⟨_, .unOp _ _ _, _, _, _, _⟩ _ _ _; refine r_not hG Y Y Y ?_)
      | (show AOp _ _ ⟨_, .buildSlice _ _ _, _, _, _, _⟩ _ _ _; first | refine r_mk (sz := 2) hG Y Y Y Y Y Y Y ?_)
      | (show AOp _ _ ⟨_, .build _ _, _, _, _, _⟩ _ _ _; refine r_build hG Y Y Y Y Y ?_)
      | (show AOp _ _ ⟨_, .alloc _, _, _, _, _⟩ _ _ _; refine r_alloc hG Y Y (fun i => ?_))
      | (show AOp _ _ ⟨_, .store _ _ _, _, _, _, _⟩ _ _ _; first | refine r_st 0 hG Y Y Y Y Y Y Y ?_ | refine r_st 1 hG Y Y Y Y Y Y Y ?_)
      | (show AOp _ _ ⟨_, .call ⟨.builtin .append, _, _⟩, _, _, _, _⟩ _ _ _; first | refine r_app0m (sz := 1) (xs := []) hG Y Y Y Y Y Y Y ⟨_, Y⟩ Y Y Y Y Y Y Y (by first | omega | (simp; omega)) (fun k => ?_) | refine r_appm 0 hG Y Y Y Y Y Y Y ⟨_, Y⟩ Y Y Y Y Y (by first | omega | (simp only [List.length_append, List.length_cons, List.length_nil]; omega)) (fun k => ?_) | fail)
      | refine r_q hG Y Y Y ?_); exact kk)
    | refine dq_d Y Y Y (fun σ hσ K kt kf => by obtain ⟨R, rfl⟩ := hσ; exact r_cmp hG Y Y Y Y Y kt kf) (fun h => ?_) (fun h => ?_)
    | refine dq_d Y Y Y (fun σ hσ K kt kf => by obtain ⟨R, rfl⟩ := hσ; exact r_str hG Y Y Y Y kt kf) (fun h => ?_) (fun h => ?_)
    | refine dq_s Y Y Y Y ?_ | refine dq_e Y ?_ | (refine dq_nil ?_; show EL _ _ _ _ _ _ _ _ _) | refine el_s ⟨_, Y⟩ Y Y Y Y ?_
    | ((first | refine el_cons ⟨_, Y⟩ Y Y Y (fun K ke => ?_) | refine el_consN ⟨_, Y⟩ Y Y Y (fun K ke => ?_)); (first
      | (show AOp _ _ ⟨_, .move _, _, _, _, _⟩ _ _ _; refine r_move hG Y Y ?_)
      | (show AOp _ _ ⟨_, .assign _, _, _, _, _⟩ _ _ _; refine r_asg hG Y Y ?_)
      | (show AOp _ _ ⟨_, .call ⟨.builtin .len, _, _⟩, _, _, _, _⟩ _ _ _; first | refine r_lenm hG Y Y Y Y ?_ | refine r_len hG Y Y Y Y Y ?_)
      | (show AOp _ _ ⟨_, .binOp .add _ _ _ _, _, _, _, _⟩ _ _ _; first | refine Ap hG Y Y Y Y Y (by omega) ?_)
      | (show AOp _ _ ⟨_, .binOp .sub _ _ _ _, _, _, _, _⟩ _ _ _; first | refine Ap hG Y Y Y Y Y (by omega) ?_)
      | (show AOp _ _ ⟨_, .binOp _ _ _ _ _, _, _, _, _⟩ _ _ _; first | refine r_cmpT hG Y Y Y Y Y (by omega) ?_ | refine r_cmpF hG Y Y Y Y Y (by omega) ?_)
      | (show AOp _ _ ⟨_, .load _ _, _, _, _, _⟩ _ _ _; first | refine r_ldro hG Y Y Y ?_ | refine r_ld 0 hG Y Y Y Y ?_ | refine r_ld 1 hG Y Y Y Y ?_)
      | (show AOp _ _ ⟨_, .indexAddr _ _ _, _, _, _, _⟩ _ _ _; first | refine r_idx0 hG Y Y Y Y Y Y Y ?_ | refine r_idxn hG Y Y Y Y Y Y Y (by omega) ?_ | refine r_idxm hG Y Y Y Y Y Y Y (by omega) ?_ | refine r_idx hG Y Y ?_)
      | (show AOp _ _ ⟨_, .convert _ _ _, _, _, _, _⟩ _ _ _; first | refine r_cv8 hG Y Y Y Y Y Y ?_ | refine A2 hG Y Y Y Y Y (by omega) ?_ | refine r_cv_u16 hG Y Y Y Y Y (by omega) ?_ | refine r_cvw hG Y Y Y Y Y ?_)
      | (show AOp _ _ ⟨_, .slice _ _ _ _ _, _, _, _, _⟩ _ _ _; first | refine r_sl_lon hG Y Y Y Y Y Y Y (by omega) ?_ | refine r_sl_lo hG Y Y Y Y Y Y Y (by omega) ?_ | refine r_sl hG Y Y ?_)
      | (show AOp _ _ ⟨_, .unOp _ _ _, _, _, _, _⟩ _ _ _; refine r_not hG Y Y Y ?_)
      | (show AOp _ _ ⟨_, .buildSlice _ _ _, _, _, _, _⟩ _ _ _; first | refine r_mk (sz := 2) hG Y Y Y Y Y Y Y ?_)
      | (show AOp _ _ ⟨_, .build _ _, _, _, _, _⟩ _ _ _; refine r_build hG Y Y Y Y Y ?_)
      | (show AOp _ _ ⟨_, .alloc _, _, _, _, _⟩ _ _ _; refine r_alloc hG Y Y (fun i => ?_))
      | (show AOp _ _ ⟨_, .store _ _ _, _, _, _, _⟩ _ _ _; first | refine r_st 0 hG Y Y Y Y Y Y Y ?_ | refine r_st 1 hG Y Y Y Y Y Y Y ?_)
      | (show AOp _ _ ⟨_, .call ⟨.builtin .append, _, _⟩, _, _, _, _⟩ _ _ _; first | refine r_app0m (sz := 1) (xs := []) hG Y Y Y Y Y Y Y ⟨_, Y⟩ Y Y Y Y Y Y Y (by first | omega | (simp; omega)) (fun k => ?_) | refine r_appm 0 hG Y Y Y Y Y Y Y ⟨_, Y⟩ Y Y Y Y Y (by first | omega | (simp only [List.length_append, List.length_cons, List.length_nil]; omega)) (fun k => ?_) | fail)
      | refine r_q hG Y Y Y ?_); refine ke _ _ ?_)
    | (refine el_nil ⟨_, Y⟩ ?_; show AL _ _ _ _ _ _ _ _) | fail)
          refine' dq_cons rfl rfl rfl (fun σ hσ K kk => by obtain ⟨x, rfl⟩ := hσ; exact r_tvI (z := p + 2) hG rfl rfl (by omega) rfl rfl rfl rfl rfl (by omega) kk) ?_
          refine' dq_cons rfl rfl rfl (fun σ hσ K kk => by obtain ⟨x, rfl⟩ := hσ; exact r_tvW (z := p + 2) hG hbb rfl hs rfl rfl h (by omega) rfl kk) ?_
          repeat' (first
    | (refine' dq_cons Y Y Y (fun σ hσ K kk => ?_) ?_; (try (show Go.Ts.T; rotate_left)); (obtain ⟨R, rfl⟩ := hσ); (first
      | (show AOp _ _ ⟨_, .move _, _, _, _, _⟩ _ _ _; refine r_move hG Y Y ?_)
      | (show AOp _ _ ⟨_, .assign _, _, _, _, _⟩ _ _ _; refine r_asg hG Y Y ?_)
      | (show AOp _ _ ⟨_, .call ⟨.builtin .len, _, _⟩, _, _, _, _⟩ _ _ _; first | refine r_lenm hG Y Y Y Y ?_ | refine r_len hG Y Y Y Y Y ?_)
      | (show AOp _ _ ⟨_, .binOp .add _ _ _ _, _, _, _, _⟩ _ _ _; first | refine Ap hG Y Y Y Y Y (by omega) ?_)
      | (show AOp _ _ ⟨_, .binOp .sub _ _ _ _, _, _, _, _⟩ _ _ _; first | refine Ap hG Y Y Y Y Y (by omega) ?_)
      | (show AOp _ _ ⟨_, .binOp _ _ _ _ _, _, _, _, _⟩ _ _ _; first | refine r_cmpT hG Y Y Y Y Y (by omega) ?_ | refine r_cmpF hG Y Y Y Y Y (by omega) ?_)
      | (show AOp _ _ ⟨_, .load _ _, _, _, _, _⟩ _ _ _; first | refine r_ldro hG Y Y Y ?_ | refine r_ld 0 hG Y Y Y Y ?_ | refine r_ld 1 hG Y Y Y Y ?_)
      | (show AOp _ _ ⟨_, .indexAddr _ _ _, _, _, _, _⟩ _ _ _; first | refine r_idx0 hG Y Y Y Y Y Y Y ?_ | refine r_idxn hG Y Y Y Y Y Y Y (by omega) ?_ | refine r_idxm hG Y Y Y Y Y Y Y (by omega) ?_ | refine r_idx hG Y Y ?_)
      | (show AOp _ _ ⟨_, .convert _ _ _, _, _, _, _⟩ _ _ _; first | refine r_cv8 hG Y Y Y Y Y Y ?_ | refine A2 hG Y Y Y Y Y (by omega) ?_ | refine r_cv_u16 hG Y Y Y Y Y (by omega) ?_ | refine r_cvw hG Y Y Y Y Y ?_)
      | (show AOp _ _ ⟨_, .slice _ _ _ _ _, _, _, _, _⟩ _ _ _; first | refine r_sl_lon hG Y Y Y Y Y Y Y (by omega) ?_ | refine r_sl_lo hG Y Y Y Y Y Y Y (by omega) ?_ | refine r_sl hG Y Y ?_)
      | (show AOp _ _ ⟨_, .unOp _ _ _, _, _, _, _⟩ _ _ _; refine r_not hG Y Y Y ?_)
      | (show AOp _ _ ⟨_, .buildSlice _ _ _, _, _, _, _⟩ _ _ _; first | refine r_mk (sz := 2) hG Y Y Y Y Y Y Y ?_)
      | (show AOp _ _ ⟨_, .build _ _, _, _, _, _⟩ _ _ _; refine r_build hG Y Y Y Y Y ?_)
      | (show AOp _ _ ⟨_, .alloc _, _, _, _, _⟩ _ _ _; refine r_alloc hG Y Y (fun i => ?_))
      | (show AOp _ _ ⟨_, .store _ _ _, _, _, _, _⟩ _ _ _; first | refine r_st 0 hG Y Y Y Y Y Y Y ?_ | refine r_st 1 hG Y Y Y Y Y Y Y ?_)
      | (show AOp _ _ ⟨_, .call ⟨.builtin .append, _, _⟩, _, _, _, _⟩ _ _ _; first | refine r_app0m (sz := 1) (xs := []) hG Y Y Y Y Y Y Y ⟨_, Y⟩ Y Y Y Y Y Y Y (by first | omega | (simp; omega)) (fun k => ?_) | refine r_appm 0 hG Y Y Y Y Y Y Y ⟨_, Y⟩ Y Y Y Y Y (by first | omega | (simp only [List.length_append, List.length_cons, List.length_nil]; omega)) (fun k => ?_) | fail)
      | refine r_q hG Y Y Y ?_); exact kk)
    | refine dq_d Y Y Y (fun σ hσ K kt kf => by obtain ⟨R, rfl⟩ := hσ; exact r_cmp hG Y Y Y Y Y kt kf) (fun h => ?_) (fun h => ?_)
    | refine dq_d Y Y Y (fun σ hσ K kt kf => by obtain ⟨R, rfl⟩ := hσ; exact r_str hG Y Y Y Y kt kf) (fun h => ?_) (fun h => ?_)
    | refine dq_s Y Y Y Y ?_ | refine dq_e Y ?_ | (refine dq_nil ?_; show EL _ _ _ _ _ _ _ _ _) | refine el_s ⟨_, Y⟩ Y Y Y Y ?_
    | ((first | refine el_cons ⟨_, Y⟩ Y Y Y (fun K ke => ?_) | refine el_consN ⟨_, Y⟩ Y Y Y (fun K ke => ?_)); (first
      | (show AOp _ _ ⟨_, .move _, _, _, _, _⟩ _ _ _; refine r_move hG Y Y ?_)
      | (show AOp _ _ ⟨_, .assign _, _, _, _, _⟩ _ _ _; refine r_asg hG Y Y ?_)
      | (show AOp _ _ ⟨_, .call ⟨.builtin .len, _, _⟩, _, _, _, _⟩ _ _ _; first | refine r_lenm hG Y Y Y Y ?_ | refine r_len hG Y Y Y Y Y ?_)
      | (show AOp _ _ ⟨_, .binOp .add _ _ _ _, _, _, _, _⟩ _ _ _; first | refine Ap hG Y Y Y Y Y (by omega) ?_)
      | (show AOp _ _ ⟨_, .binOp .sub _ _ _ _, _, _, _, _⟩ _ _ _; first | refine Ap hG Y Y Y Y Y (by omega) ?_)
      | (show AOp _ _ ⟨_, .binOp _ _ _ _ _, _, _, _, _⟩ _ _ _; first | refine r_cmpT hG Y Y Y Y Y (by omega) ?_ | refine r_cmpF hG Y Y Y Y Y (by omega) ?_)
      | (show AOp _ _ ⟨_, .load _ _, _, _, _, _⟩ _ _ _; first | refine r_ldro hG Y Y Y ?_ | refine r_ld 0 hG Y Y Y Y ?_ | refine r_ld 1 hG Y Y Y Y ?_)
      | (show AOp _ _ ⟨_, .indexAddr _ _ _, _, _, _, _⟩ _ _ _; first | refine r_idx0 hG Y Y Y Y Y Y Y ?_ | refine r_idxn hG Y Y Y Y Y Y Y (by omega) ?_ | refine r_idxm hG Y Y Y Y Y Y Y (by omega) ?_ | refine r_idx hG Y Y ?_)
      | (show AOp _ _ ⟨_, .convert _ _ _, _, _, _, _⟩ _ _ _; first | refine r_cv8 hG Y Y Y Y Y Y ?_ | refine A2 hG Y Y Y Y Y (by omega) ?_ | refine r_cv_u16 hG Y Y Y Y Y (by omega) ?_ | refine r_cvw hG Y Y Y Y Y ?_)
      | (show AOp _ _ ⟨_, .slice _ _ _ _ _, _, _, _, _⟩ _ _ _; first | refine r_sl_lon hG Y Y Y Y Y Y Y (by omega) ?_ | refine r_sl_lo hG Y Y Y Y Y Y Y (by omega) ?_ | refine r_sl hG Y Y ?_)
      | (show AOp _ _ ⟨_, .unOp _ _ _, _, _, _, _⟩ _ _ _; refine r_not hG Y Y Y ?_)
      | (show AOp _ _ ⟨_, .buildSlice _ _ _, _, _, _, _⟩ _ _ _; first | refine r_mk (sz := 2) hG Y Y Y Y Y Y Y ?_)
      | (show AOp _ _ ⟨_, .build _ _, _, _, _, _⟩ _ _ _; refine r_build hG Y Y Y Y Y ?_)
      | (show AOp _ _ ⟨_, .alloc _, _, _, _, _⟩ _ _ _; refine r_alloc hG Y Y (fun i => ?_))
      | (show AOp _ _ ⟨_, .store _ _ _, _, _, _, _⟩ _ _ _; first | refine r_st 0 hG Y Y Y Y Y Y Y ?_ | refine r_st 1 hG Y Y Y Y Y Y Y ?_)
      | (show AOp _ _ ⟨_, .call ⟨.builtin .append, _, _⟩, _, _, _, _⟩ _ _ _; first | refine r_app0m (sz := 1) (xs := []) hG Y Y Y Y Y Y Y ⟨_, Y⟩ Y Y Y Y Y Y Y (by first | omega | (simp; omega)) (fun k => ?_) | refine r_appm 0 hG Y Y Y Y Y Y Y ⟨_, Y⟩ Y Y Y Y Y (by first | omega | (simp only [List.length_append, List.length_cons, List.length_nil]; omega)) (fun k => ?_) | fail)
      | refine r_q hG Y Y Y ?_); refine ke _ _ ?_)
    | (refine el_nil ⟨_, Y⟩ ?_; show AL _ _ _ _ _ _ _ _) | fail)
          refine el_cons ⟨(_, _), rfl⟩ rfl rfl rfl (fun K ke => ?_)
          refine r_ld 0 hG rfl rfl rfl rfl ?_
          refine ke _ _ ?_
          refine el_cons ⟨(_, _), rfl⟩ rfl rfl rfl (fun K ke => ?_)
          refine r_app0m (sz := 2) (f := pT) (xs := []) (ys := [(UInt16.ofNat v, b.getD (p + 2) default)]) hG rfl rfl rfl rfl rfl rfl rfl ⟨_, rfl⟩ rfl rfl rfl rfl rfl rfl (show [T.agg [.int .u16 (v : Int), bT (b.getD (p + 2) default)]] = [(UInt16.ofNat v, b.getD (p + 2) default)].map pT from by rw [ht]; rfl) (by simp) (fun k2 => ?_)
          refine ke _ _ ?_
          refine el_consN ⟨(_, _), rfl⟩ rfl rfl rfl (fun K ke => ?_)
          refine r_st 0 hG rfl rfl rfl rfl rfl rfl rfl ?_
          refine ke (.tup []) _ ?_
          refine el_nil ⟨(_, _), rfl⟩ ?_
          show AL _ _ _ _ _ _ _ _
          repeat' (first | (show AL _ _ _ _ _ _ _ _; first | refine so0 ?_ | (refine sa ?_; intro k) | (refine sb ?_; intro i)) | (show DL _ _ _ _ _ _ _; first | refine do0 ?_) | (show AW _ _ _ _ _ _; first | (show AW _ _ (.region _ _ _) _ _ _; refine sc0 ?_; intro O1) | (refine sc0 ?_; try intro Q1)) | (show (_ → _) ∧ _; refine ⟨fun h => ?_, fun h => ?_⟩) | fail)
          refine ⟨rfl, ⟨m, by omega, [] ++ [(UInt16.ofNat v, b.getD (p + 2) default)], p + 3, q, h2, by omega, hr2, some k2, (fun h => by cases h), by simp at hacc ⊢; omega⟩, by dsimp only; omega, ?_, .refl _⟩
          exact .cons rfl (.cons rfl (.consW rfl (.int (by simp)) (.consW rfl (.int (by simp)) (.nil _))))
        | some k =>
          repeat' (first | (show AL _ _ _ _ _ _ _ _; (fail_if_success show AL _ _ _ _ _ (⟨_, .slice _ _ _ _ _, _, _, _, _⟩ :: _) _ _); first | refine so0 ?_ | (refine sa ?_; intro k) | (refine sb ?_; intro i)) | (show DL _ _ _ _ _ _ _; first | refine do0 ?_) | (show AW _ _ _ _ _ _; first | (show AW _ _ (.region _ _ _) _ _ _; refine sc0 ?_; intro O1) | (refine sc0 ?_; try intro Q1)) | (show (_ → _) ∧ _; refine ⟨fun h => ?_, fun h => ?_⟩) | fail)
          refine Ar rfl (r_tvS (l := p) hG rfl rfl rfl rfl rfl rfl rfl (by omega) ?_)
          repeat' (first | (show AL _ _ _ _ _ _ _ _; first | refine so0 ?_ | refine al_onS hc Y Y Y Y Y hs ?_ | (refine sa ?_; intro k) | (refine sb ?_; intro i)) | (show DL _ _ _ _ _ _ _; first | refine do0 ?_ | refine dl_on hc Y Y Y Y Y Y hs ?_) | (show AW _ _ _ _ _ _; (fail_if_success show AW _ _ (.region 9 _ _) _ _ _); first | (show AW _ _ (.region _ _ _) _ _ _; refine sc0 ?_; intro O1) | (refine sc0 ?_; try intro Q1)) | (show (_ → _) ∧ _; refine ⟨fun h => ?_, fun h => ?_⟩) | fail)
          refine aw_drawE' (m := 15) [1, 12, 14] (fun σ => ∃ x : List T × List Nat, σ = ⟨[(q, .cells x.1), (tw, .cells (l.map bT))], x.2, off, none⟩) mix rfl (by repeat (first | exact Sp.zero _ | apply Sp.succ)) ?_; intro O1 F1 Z1 Q2
          repeat' (first
    | (refine' dq_cons Y Y Y (fun σ hσ K kk => ?_) ?_; (try (show Go.Ts.T; rotate_left)); (obtain ⟨R, rfl⟩ := hσ); (first
      | (show AOp _ _ ⟨_, .move _, _, _, _, _⟩ _ _ _; refine r_move hG Y Y ?_)
      | (show AOp _ _ ⟨_, .assign _, _, _, _, _⟩ _ _ _; refine r_asg hG Y Y ?_)
      | (show AOp _ _ ⟨_, .call ⟨.builtin .len, _, _⟩, _, _, _, _⟩ _ _ _; first | refine r_lenm hG Y Y Y Y ?_ | refine r_len hG Y Y Y Y Y ?_)
      | (show AOp _ _ ⟨_, .binOp .add _ _ _ _, _, _, _, _⟩ _ _ _; first | refine Ap hG Y Y Y Y Y (by omega) ?_)
      | (show AOp _ _ ⟨_, .binOp .sub _ _ _ _, _, _, _, _⟩ _ _ _; first | refine Ap hG Y Y Y Y Y (by omega) ?_)
      | (show AOp _ _ ⟨_, .binOp _ _ _ _ _, _, _, _, _⟩ _ _ _; first | refine r_cmpT hG Y Y Y Y Y (by omega) ?_ | refine r_cmpF hG Y Y Y Y Y (by omega) ?_)
      | (show AOp _ _ ⟨_, .load _ _, _, _, _, _⟩ _ _ _; first | refine r_ldro hG Y Y Y ?_ | refine r_ld 0 hG Y Y Y Y ?_ | refine r_ld 1 hG Y Y Y Y ?_)
      | (show AOp _ _ ⟨_, .indexAddr _ _ _, _, _, _, _⟩ _ _ _; first | refine r_idx0 hG Y Y Y Y Y Y Y ?_ | refine r_idxn hG Y Y Y Y Y Y Y (by omega) ?_ | refine r_idxm hG Y Y Y Y Y Y Y (by omega) ?_ | refine r_idx hG Y Y ?_)
      | (show AOp _ _ ⟨_, .convert _ _ _, _, _, _, _⟩ _ _ _; first | refine r_cv8 hG Y Y Y Y Y Y ?_ | refine A2 hG Y Y Y Y Y (by omega) ?_ | refine r_cv_u16 hG Y Y Y Y Y (by omega) ?_ | refine r_cvw hG Y Y Y Y Y ?_)
      | (show AOp _ _ ⟨_, .slice _ _ _ _ _, _, _, _, _⟩ _ _ _; first | refine r_sl_lon hG Y Y Y Y Y Y Y (by omega) ?_ | refine r_sl_lo hG Y Y Y Y Y Y Y (by omega) ?_ | refine r_sl hG Y Y ?_)
      | (show AOp _ _ ⟨_, .unOp _ _ _, _, _, _, _⟩ _ _ _; refine r_not hG Y Y Y ?_)
      | (show AOp _ _ ⟨_, .buildSlice _ _ _, _, _, _, _⟩ _ _ _; first | refine r_mk (sz := 2) hG Y Y Y Y Y Y Y ?_)
      | (show AOp _ _ ⟨_, .build _ _, _, _, _, _⟩ _ _ _; refine r_build hG Y Y Y Y Y ?_)
      | (show AOp _ _ ⟨_, .alloc _, _, _, _, _⟩ _ _ _; refine r_alloc hG Y Y (fun i => ?_))
      | (show AOp _ _ ⟨_, .store _ _ _, _, _, _, _⟩ _ _ _; first | refine r_st 0 hG Y Y Y Y Y Y Y ?_ | refine r_st 1 hG Y Y Y Y Y Y Y ?_)
      | (show AOp _ _ ⟨_, .call ⟨.builtin .append, _, _⟩, _, _, _, _⟩ _ _ _; first | refine r_app0m (sz := 1) (xs := []) hG Y Y Y Y Y Y Y ⟨_, Y⟩ Y Y Y Y Y Y Y (by first | omega | (simp; omega)) (fun k => ?_) | refine r_appm 0 hG Y Y Y Y Y Y Y ⟨_, Y⟩ Y Y Y Y Y (by first | omega | (simp only [List.length_append, List.length_cons, List.length_nil]; omega)) (fun k => ?_) | fail)
      | refine r_q hG Y Y Y ?_); exact kk)
    | refine dq_d Y Y Y (fun σ hσ K kt kf => by obtain ⟨R, rfl⟩ := hσ; exact r_cmp hG Y Y Y Y Y kt kf) (fun h => ?_) (fun h => ?_)
    | refine dq_d Y Y Y (fun σ hσ K kt kf => by obtain ⟨R, rfl⟩ := hσ; exact r_str hG Y Y Y Y kt kf) (fun h => ?_) (fun h => ?_)
    | refine dq_s Y Y Y Y ?_ | refine dq_e Y ?_ | (refine dq_nil ?_; show EL _ _ _ _ _ _ _ _ _) | refine el_s ⟨_, Y⟩ Y Y Y Y ?_
    | ((first | refine el_cons ⟨_, Y⟩ Y Y Y (fun K ke => ?_) | refine el_consN ⟨_, Y⟩ Y Y Y (fun K ke => ?_)); (first
      | (show AOp _ _ ⟨_, .move _, _, _, _, _⟩ _ _ _; refine r_move hG Y Y ?_)
      | (show AOp _ _ ⟨_, .assign _, _, _, _, _⟩ _ _ _; refine r_asg hG Y Y ?_)
      | (show AOp _ _ ⟨_, .call ⟨.builtin .len, _, _⟩, _, _, _, _⟩ _ _ _; first | refine r_lenm hG Y Y Y Y ?_ | refine r_len hG Y Y Y Y Y ?_)
      | (show AOp _ _ ⟨_, .binOp .add _ _ _ _, _, _, _, _⟩ _ _ _; first | refine Ap hG Y Y Y Y Y (by omega) ?_)
      | (show AOp _ _ ⟨_, .binOp .sub _ _ _ _, _, _, _, _⟩ _ _ _; first | refine Ap hG Y Y Y Y Y (by omega) ?_)
      | (show AOp _ _ ⟨_, .binOp _ _ _ _ _, _, _, _, _⟩ _ _ _; first | refine r_cmpT hG Y Y Y Y Y (by omega) ?_ | refine r_cmpF hG Y Y Y Y Y (by omega) ?_)
      | (show AOp _ _ ⟨_, .load _ _, _, _, _, _⟩ _ _ _; first | refine r_ldro hG Y Y Y ?_ | refine r_ld 0 hG Y Y Y Y ?_ | refine r_ld 1 hG Y Y Y Y ?_)
      | (show AOp _ _ ⟨_, .indexAddr _ _ _, _, _, _, _⟩ _ _ _; first | refine r_idx0 hG Y Y Y Y Y Y Y ?_ | refine r_idxn hG Y Y Y Y Y Y Y (by omega) ?_ | refine r_idxm hG Y Y Y Y Y Y Y (by omega) ?_ | refine r_idx hG Y Y ?_)
      | (show AOp _ _ ⟨_, .convert _ _ _, _, _, _, _⟩ _ _ _; first | refine r_cv8 hG Y Y Y Y Y Y ?_ | refine A2 hG Y Y Y Y Y (by omega) ?_ | refine r_cv_u16 hG Y Y Y Y Y (by omega) ?_ | refine r_cvw hG Y Y Y Y Y ?_)
      | (show AOp _ _ ⟨_, .slice _ _ _ _ _, _, _, _, _⟩ _ _ _; first | refine r_sl_lon hG Y Y Y Y Y Y Y (by omega) ?_ | refine r_sl_lo hG Y Y Y Y Y Y Y (by omega) ?_ | refine r_sl hG Y Y ?_)
      | (show AOp _ _ ⟨_, .unOp _ _ _, _, _, _, _⟩ _ _ _; refine r_not hG Y Y Y ?_)
      | (show AOp _ _ ⟨_, .buildSlice _ _ _, _, _, _, _⟩ _ _ _; first | refine r_mk (sz := 2) hG Y Y Y Y Y Y Y ?_)
      | (show AOp _ _ ⟨_, .build _ _, _, _, _, _⟩ _ _ _; refine r_build hG Y Y Y Y Y ?_)
      | (show AOp _ _ ⟨_, .alloc _, _, _, _, _⟩ _ _ _; refine r_alloc hG Y Y (fun i => ?_))
      | (show AOp _ _ ⟨_, .store _ _ _, _, _, _, _⟩ _ _ _; first | refine r_st 0 hG Y Y Y Y Y Y Y ?_ | refine r_st 1 hG Y Y Y Y Y Y Y ?_)
      | (show AOp _ _ ⟨_, .call ⟨.builtin .append, _, _⟩, _, _, _, _⟩ _ _ _; first | refine r_app0m (sz := 1) (xs := []) hG Y Y Y Y Y Y Y ⟨_, Y⟩ Y Y Y Y Y Y Y (by first | omega | (simp; omega)) (fun k => ?_) | refine r_appm 0 hG Y Y Y Y Y Y Y ⟨_, Y⟩ Y Y Y Y Y (by first | omega | (simp only [List.length_append, List.length_cons, List.length_nil]; omega)) (fun k => ?_) | fail)
      | refine r_q hG Y Y Y ?_); refine ke _ _ ?_)
    | (refine el_nil ⟨_, Y⟩ ?_; show AL _ _ _ _ _ _ _ _) | fail)
          refine' dq_cons rfl rfl rfl (fun σ hσ K kk => by obtain ⟨x, rfl⟩ := hσ; exact r_tvI (z := p + 2) hG rfl rfl (by omega) rfl rfl rfl rfl rfl (by omega) kk) ?_
          refine' dq_cons rfl rfl rfl (fun σ hσ K kk => by obtain ⟨x, rfl⟩ := hσ; exact r_tvW (z := p + 2) hG hbb rfl hs rfl rfl h (by omega) rfl kk) ?_
          repeat' (first
    | (refine' dq_cons Y Y Y (fun σ hσ K kk => ?_) ?_; (try (show Go.Ts.T; rotate_left)); (obtain ⟨R, rfl⟩ := hσ); (first
      | (show AOp _ _ ⟨_, .move _, _, _, _, _⟩ _ _ _; refine r_move hG Y Y ?_)
      | (show AOp _ _ ⟨_, .assign _, _, _, _, _⟩ _ _ _; refine r_asg hG Y Y ?_)
      | (show AOp _ _ ⟨_, .call ⟨.builtin .len, _, _⟩, _, _, _, _⟩ _ _ _; first | refine r_lenm hG Y Y Y Y ?_ | refine r_len hG Y Y Y Y Y ?_)
      | (show AOp _ _ ⟨_, .binOp .add _ _ _ _, _, _, _, _⟩ _ _ _; first | refine Ap hG Y Y Y Y Y (by omega) ?_)
      | (show AOp _ _ ⟨_, .binOp .sub _ _ _ _, _, _, _, _⟩ _ _ _; first | refine Ap hG Y Y Y Y Y (by omega) ?_)
      | (show AOp _ _ ⟨_, .binOp _ _ _ _ _, _, _, _, _⟩ _ _ _; first | refine r_cmpT hG Y Y Y Y Y (by omega) ?_ | refine r_cmpF hG Y Y Y Y Y (by omega) ?_)
      | (show AOp _ _ ⟨_, .load _ _, _, _, _, _⟩ _ _ _; first | refine r_ldro hG Y Y Y ?_ | refine r_ld 0 hG Y Y Y Y ?_ | refine r_ld 1 hG Y Y Y Y ?_)
      | (show AOp _ _ ⟨_, .indexAddr _ _ _, _, _, _, _⟩ _ _ _; first | refine r_idx0 hG Y Y Y Y Y Y Y ?_ | refine r_idxn hG Y Y Y Y Y Y Y (by omega) ?_ | refine r_idxm hG Y Y Y Y Y Y Y (by omega) ?_ | refine r_idx hG Y Y ?_)
      | (show AOp _ _ ⟨_, .convert _ _ _, _, _, _, _⟩ _ _ _; first | refine r_cv8 hG Y Y Y Y Y Y ?_ | refine A2 hG Y Y Y Y Y (by omega) ?_ | refine r_cv_u16 hG Y Y Y Y Y (by omega) ?_ | refine r_cvw hG Y Y Y Y Y ?_)
      | (show AOp _ _ ⟨_, .slice _ _ _ _ _, _, _, _, _⟩ _ _ _; first | refine r_sl_lon hG Y Y Y Y Y Y Y (by omega) ?_ | refine r_sl_lo hG Y Y Y Y Y Y Y (by omega) ?_ | refine r_sl hG Y Y ?_)
      | (show AOp _ _ ⟨_, .unOp _ _ _, _, _, _, _⟩ _ _ _; refine r_not hG Y Y Y ?_)
      | (show AOp _ _ ⟨_, .buildSlice _ _ _, _, _, _, _⟩ _ _ _; first | refine r_mk (sz := 2) hG Y Y Y Y Y Y Y ?_)
      | (show AOp _ _ ⟨_, .build _ _, _, _, _, _⟩ _ _ _; refine r_build hG Y Y Y Y Y ?_)
      | (show AOp _ _ ⟨_, .alloc _, _, _, _, _⟩ _ _ _; refine r_alloc hG Y Y (fun i => ?_))
      | (show AOp _ _ ⟨_, .store _ _ _, _, _, _, _⟩ _ _ _; first | refine r_st 0 hG Y Y Y Y Y Y Y ?_ | refine r_st 1 hG Y Y Y Y Y Y Y ?_)
      | (show AOp _ _ ⟨_, .call ⟨.builtin .append, _, _⟩, _, _, _, _⟩ _ _ _; first | refine r_app0m (sz := 1) (xs := []) hG Y Y Y Y Y Y Y ⟨_, Y⟩ Y Y Y Y Y Y Y (by first | omega | (simp; omega)) (fun k => ?_) | refine r_appm 0 hG Y Y Y Y Y Y Y ⟨_, Y⟩ Y Y Y Y Y (by first | omega | (simp only [List.length_append, List.length_cons, List.length_nil]; omega)) (fun k => ?_) | fail)
      | refine r_q hG Y Y Y ?_); exact kk)
    | refine dq_d Y Y Y (fun σ hσ K kt kf => by obtain ⟨R, rfl⟩ := hσ; exact r_cmp hG Y Y Y Y Y kt kf) (fun h => ?_) (fun h => ?_)
    | refine dq_d Y Y Y (fun σ hσ K kt kf => by obtain ⟨R, rfl⟩ := hσ; exact r_str hG Y Y Y Y kt kf) (fun h => ?_) (fun h => ?_)
    | refine dq_s Y Y Y Y ?_ | refine dq_e Y ?_ | (refine dq_nil ?_; show EL _ _ _ _ _ _ _ _ _) | refine el_s ⟨_, Y⟩ Y Y Y Y ?_
    | ((first | refine el_cons ⟨_, Y⟩ Y Y Y (fun K ke => ?_) | refine el_consN ⟨_, Y⟩ Y Y Y (fun K ke => ?_)); (first
      | (show AOp _ _ ⟨_, .move _, _, _, _, _⟩ _ _ _; refine r_move hG Y Y ?_)
      | (show AOp _ _ ⟨_, .assign _, _, _, _, _⟩ _ _ _; refine r_asg hG Y Y ?_)
      | (show AOp _ _ ⟨_, .call ⟨.builtin .len, _, _⟩, _, _, _, _⟩ _ _ _; first | refine r_lenm hG Y Y Y Y ?_ | refine r_len hG Y Y Y Y Y ?_)
      | (show AOp _ _ ⟨_, .binOp .add _ _ _ _, _, _, _, _⟩ _ _ _; first | refine Ap hG Y Y Y Y Y (by omega) ?_)
      | (show AOp _ _ ⟨_, .binOp .sub _ _ _ _, _, _, _, _⟩ _ _ _; first | refine Ap hG Y Y Y Y Y (by omega) ?_)
      | (show AOp _ _ ⟨_, .binOp _ _ _ _ _, _, _, _, _⟩ _ _ _; first | refine r_cmpT hG Y Y Y Y Y (by omega) ?_ | refine r_cmpF hG Y Y Y Y Y (by omega) ?_)
      | (show AOp _ _ ⟨_, .load _ _, _, _, _, _⟩ _ _ _; first | refine r_ldro hG Y Y Y ?_ | refine r_ld 0 hG Y Y Y Y ?_ | refine r_ld 1 hG Y Y Y Y ?_)
      | (show AOp _ _ ⟨_, .indexAddr _ _ _, _, _, _, _⟩ _ _ _; first | refine r_idx0 hG Y Y Y Y Y Y Y ?_ | refine r_idxn hG Y Y Y Y Y Y Y (by omega) ?_ | refine r_idxm hG Y Y Y Y Y Y Y (by omega) ?_ | refine r_idx hG Y Y ?_)
      | (show AOp _ _ ⟨_, .convert _ _ _, _, _, _, _⟩ _ _ _; first | refine r_cv8 hG Y Y Y Y Y Y ?_ | refine A2 hG Y Y Y Y Y (by omega) ?_ | refine r_cv_u16 hG Y Y Y Y Y (by omega) ?_ | refine r_cvw hG Y Y Y Y Y ?_)
      | (show AOp _ _ ⟨_, .slice _ _ _ _ _, _, _, _, _⟩ _ _ _; first | refine r_sl_lon hG Y Y Y Y Y Y Y (by omega) ?_ | refine r_sl_lo hG Y Y Y Y Y Y Y (by omega) ?_ | refine r_sl hG Y Y ?_)
      | (show AOp _ _ ⟨_, .unOp _ _ _, _, _, _, _⟩ _ _ _; refine r_not hG Y Y Y ?_)
      | (show AOp _ _ ⟨_, .buildSlice _ _ _, _, _, _, _⟩ _ _ _; first | refine r_mk (sz := 2) hG Y Y Y Y Y Y Y ?_)
      | (show AOp _ _ ⟨_, .build _ _, _, _, _, _⟩ _ _ _; refine r_build hG Y Y Y Y Y ?_)
      | (show AOp _ _ ⟨_, .alloc _, _, _, _, _⟩ _ _ _; refine r_alloc hG Y Y (fun i => ?_))
      | (show AOp _ _ ⟨_, .store _ _ _, _, _, _, _⟩ _ _ _; first | refine r_st 0 hG Y Y Y Y Y Y Y ?_ | refine r_st 1 hG Y Y Y Y Y Y Y ?_)
      | (show AOp _ _ ⟨_, .call ⟨.builtin .append, _, _⟩, _, _, _, _⟩ _ _ _; first | refine r_app0m (sz := 1) (xs := []) hG Y Y Y Y Y Y Y ⟨_, Y⟩ Y Y Y Y Y Y Y (by first | omega | (simp; omega)) (fun k => ?_) | refine r_appm 0 hG Y Y Y Y Y Y Y ⟨_, Y⟩ Y Y Y Y Y (by first | omega | (simp only [List.length_append, List.length_cons, List.length_nil]; omega)) (fun k => ?_) | fail)
      | refine r_q hG Y Y Y ?_); refine ke _ _ ?_)
    | (refine el_nil ⟨_, Y⟩ ?_; show AL _ _ _ _ _ _ _ _) | fail)
          refine el_cons ⟨(_, _), rfl⟩ rfl rfl rfl (fun K ke => ?_)
          refine r_ld 0 hG rfl rfl rfl rfl ?_
          refine ke _ _ ?_
          refine el_cons ⟨(_, _), rfl⟩ rfl rfl rfl (fun K ke => ?_)
          refine r_appm 0 (sz := 2) (f := pT) (xs := acc) (ys := [(UInt16.ofNat v, b.getD (p + 2) default)]) hG rfl rfl rfl rfl rfl rfl rfl ⟨_, rfl⟩ rfl rfl rfl rfl (show [T.agg [.int .u16 (v : Int), bT (b.getD (p + 2) default)]] = [(UInt16.ofNat v, b.getD (p + 2) default)].map pT from by rw [ht]; rfl) (by simp; omega) (fun k2 => ?_)
          refine ke _ _ ?_
          refine el_consN ⟨(_, _), rfl⟩ rfl rfl rfl (fun K ke => ?_)
          refine r_st 0 hG rfl rfl rfl rfl rfl rfl rfl ?_
          refine ke (.tup []) _ ?_
          refine el_nil ⟨(_, _), rfl⟩ ?_
          show AL _ _ _ _ _ _ _ _
          repeat' (first | (show AL _ _ _ _ _ _ _ _; first | refine so0 ?_ | (refine sa ?_; intro k) | (refine sb ?_; intro i)) | (show DL _ _ _ _ _ _ _; first | refine do0 ?_) | (show AW _ _ _ _ _ _; first | (show AW _ _ (.region _ _ _) _ _ _; refine sc0 ?_; intro O1) | (refine sc0 ?_; try intro Q1)) | (show (_ → _) ∧ _; refine ⟨fun h => ?_, fun h => ?_⟩) | fail)
          refine ⟨rfl, ⟨m, by omega, acc ++ [(UInt16.ofNat v, b.getD (p + 2) default)], p + 3, q, h2, by omega, hr2, some k2, (fun h => by cases h), by simp at hacc ⊢; omega⟩, by dsimp only; omega, ?_, .refl _⟩
          exact .cons rfl (.cons rfl (.consW rfl (.int (by simp)) (.consW rfl (.int (by simp)) (.nil _))))
  · intro key
    by_cases h2 : b.length < 2
    · have hT : Al b = ⟨0, [], 0, 3⟩ := by rw [Al, if_pos h2]
      repeat' (first | (show AL _ _ _ _ _ _ _ _; first | refine so0 ?_ | (refine sa ?_; intro k) | (refine sb ?_; intro i)) | (show DL _ _ _ _ _ _ _; first | refine do0 ?_) | (show AW _ _ _ _ _ _; first | (show AW _ _ (.region _ _ _) _ _ _; refine sc0 ?_; intro O1) | (refine sc0 ?_; try intro Q1)) | (show (_ → _) ∧ _; refine ⟨fun h => ?_, fun h => ?_⟩) | fail)
      refine ret_on (L' := [(tw, .cells (l.map bT))]) (res_cellM rfl hs (by exact rfl) (Ab rfl (Ab rfl Ac))) hs ?_ rfl ⟨rfl, rfl⟩
      rw [hT]
      exact Wk.tupL (wk3 (Wk.aggL (wk2 (.refl _) (.nil 2))) (.refl _) (.refl _))
    · have hu8 := (b.getD 1 default).toNat_lt
      repeat' (first | (show AL _ _ _ _ _ _ _ _; (fail_if_success show AL _ _ _ _ _ (⟨_, .indexAddr _ _ _, _, _, _, _⟩ :: _) _ _); first | refine so0 ?_ | (refine sa ?_; intro k) | (refine sb ?_; intro i)) | (show DL _ _ _ _ _ _ _; first | refine do0 ?_) | (show AW _ _ _ _ _ _; first | (show AW _ _ (.region _ _ _) _ _ _; refine sc0 ?_; intro O1) | (refine sc0 ?_; try intro Q1)) | (show (_ → _) ∧ _; refine ⟨fun h => ?_, fun h => ?_⟩) | fail)
      refine Ar rfl (r_tvI (z := 0) hG rfl rfl rfl rfl rfl rfl rfl rfl (by omega) ?_)
      refine Ar rfl (r_tvW (z := 0) hG hbb rfl hs rfl rfl h (by omega) rfl ?_)
      repeat' (first | (show AL _ _ _ _ _ _ _ _; (fail_if_success show AL _ _ _ _ _ (⟨_, .indexAddr _ _ _, _, _, _, _⟩ :: _) _ _); first | refine so0 ?_ | (refine sa ?_; intro k) | (refine sb ?_; intro i)) | (show DL _ _ _ _ _ _ _; first | refine do0 ?_) | (show AW _ _ _ _ _ _; first | (show AW _ _ (.region _ _ _) _ _ _; refine sc0 ?_; intro O1) | (refine sc0 ?_; try intro Q1)) | (show (_ → _) ∧ _; refine ⟨fun h => ?_, fun h => ?_⟩) | fail)
      refine Ar rfl (r_tvI (z := 1) hG rfl rfl rfl rfl rfl rfl rfl rfl (by omega) ?_)
      refine Ar rfl (r_tvW (z := 1) hG hbb rfl hs rfl rfl h (by omega) rfl ?_)
      repeat' (first | (show AL _ _ _ _ _ _ _ _; first | refine so0 ?_ | (refine sa ?_; intro k) | (refine sb ?_; intro i)) | (show DL _ _ _ _ _ _ _; first | refine do0 ?_) | (show AW _ _ _ _ _ _; first | (show AW _ _ (.region _ _ _) _ _ _; refine sc0 ?_; intro O1) | (refine sc0 ?_; try intro Q1)) | (show (_ → _) ∧ _; refine ⟨fun h => ?_, fun h => ?_⟩) | fail)
      refine aw_label ?_
      show AW _ _ _ _ _ _
      refine aw_forget ?_ (key ⟨(b.getD 1 default).toNat, hu8, [], 2, i, h2, by omega, rfl, none, fun _ => rfl, by simp⟩)
      exact .cons rfl (.cons rfl (.consW rfl (.int rfl) (.consW rfl (.int rfl) (.nil _))))
end Go.Proofs.Ythfgocinlbogeaa
set_option maxHeartbeats 4000000
namespace Go.Proofs.Ythfgocinlbogeaa
open Go.Ts Go.Sets
set_option linter.unusedSimpArgs false
set_option linter.unusedVariables false
attribute [local irreducible] Go.Ts.AW Go.Ts.AOps Go.Ts.AL Go.Ts.AOp Go.Ts.ACalls Go.Ts.DL Go.Ts.DQ Go.Ts.DQ0 Go.Ts.EL
theorem v1_label {r : RS} {l : List UInt8} {o m : Nat} {c0 c1 c2 c3 c4 c5 c8 c9 c10 c11 c12 : T} (h : o + m ≤ l.length) (hr : win l o m = r.b) (hl : l.length ≤ 4294967296) (i j tw : Nat) :
    OnL Try.prog 75 [.ptr i 0, .ptr j 0] [(i, .cells [tvT tw o m, .int .i64 r.e]), (j, .cells [c0, c1, c2, c3, c4, c5, .int .u8 0, .nilsl, c8, c9, c10, c11, c12]), (tw, .cells (l.map bT))] (fun u L => ∃ o' m' Pp, o' + m' ≤ l.length ∧ win l o' m' = (rdS r).2.b ∧ Wk Pp (.sl 2 .no ((rdS r).1.ps.map pT)) ∧ Pp.scalar = true ∧ u = .tup [] ∧ L = [(i, .cells [tvT tw o' m', .int .i64 (rdS r).2.e]), (j, .cells [c0, c1, c2, c3, c4, c5, bT (rdS r).1.df, Pp, c8, c9, c10, c11, c12]), (tw, .cells (l.map bT))]) := by
  intro off
  obtain ⟨b, e⟩ := r
  dsimp only at hr ⊢
  subst hr
  have hb := win_len h
  by_cases he : e = 0
  · subst he
    have hc := lcode_Take_v h (by omega) tw
    have hsm := takeLab_small (win l o m)
    have hh : rdS ⟨win l o m, 0⟩ = (if (Al (win l o m)).e = 0 then (⟨(Al (win l o m)).df, (Al (win l o m)).ps⟩, ⟨(win l o m).drop (Al (win l o m)).n, 0⟩) else (⟨0, []⟩, ⟨win l o m, (Al (win l o m)).e⟩)) := by rw [rdS, if_pos rfl]
    have hz := (fun h => by rw [takeLab_no h]; exact ⟨rfl, rfl, rfl⟩ : (Al (win l o m)).e ≠ 0 → (Al (win l o m)).df = 0 ∧ (Al (win l o m)).ps = [] ∧ (Al (win l o m)).n = 0)
    generalize Al (win l o m) = t at *
    obtain ⟨ta, tb, n, e⟩ := t
    unfold tlT at hc
    dsimp only at *
    by_cases h1 : e = 0
    · subst h1
      rw [if_pos rfl] at hh
      rw [hh]
      refine Ad (N := 29) (rs := []) hG Try.func75 rfl rfl rfl rfl rfl ?_
      repeat' (first | (show AL _ _ _ _ _ _ _ _; first | refine so2 ?_ | refine al_onS hc Y Y Y Y Y hs ?_ | (refine sb ?_; intro bx)) | (show AW _ _ _ _ _ _; first | (show AW _ _ (.region _ _ _) _ _ _; refine sc0 ?_; intro O1) | (refine sc1 ?_; try intro Q1)) | (show (_ → _) ∧ _; refine ⟨fun h => ?_, fun h => ?_⟩) | fail)
      refine al_on (v1_takesO (l := l) (o := o) (m := m) (e := 0) (n := n) (by have := hsm.2; omega) i tw) rfl rfl rfl rfl rfl rfl hs ?_
      rintro u L' ⟨rfl, rfl⟩
      repeat' (first | (show AL _ _ _ _ _ _ _ _; first | refine so2 ?_ | (refine sb ?_; intro i)) | (show AW _ _ _ _ _ _; first | (show AW _ _ (.region _ _ _) _ _ _; refine sc0 ?_; intro O1) | (refine sc1 ?_; try intro Q1)) | (show (_ → _) ∧ _; refine ⟨fun h => ?_, fun h => ?_⟩) | fail)
      refine al_nil ?_
      exact A1 (L' := [(i, .cells [tvT tw (o + n) (m - n), .int .i64 0]), (j, .cells _), (tw, .cells (l.map bT))]) Ac hs (.refl _) rfl ⟨o + n, m - n, _, by omega, win_drop.symm, .refl _, rfl, rfl, rfl⟩
    · rw [if_neg h1] at hh
      rw [hh]
      obtain ⟨rfl, rfl, rfl⟩ := hz h1
      refine Ad (N := 29) (rs := []) hG Try.func75 rfl rfl rfl rfl rfl ?_
      repeat' (first | (show AL _ _ _ _ _ _ _ _; first | refine so2 ?_ | refine al_onS hc Y Y Y Y Y hs ?_ | (refine sb ?_; intro bx)) | (show AW _ _ _ _ _ _; first | (show AW _ _ (.region _ _ _) _ _ _; refine sc0 ?_; intro O1) | (refine sc1 ?_; try intro Q1)) | (show (_ → _) ∧ _; refine ⟨fun h => ?_, fun h => ?_⟩) | fail)
      refine al_on (v1_takesE (l := l) (o := o) (m := m) (e := 0) (e' := e) (n := 0) (by omega) i tw) rfl rfl rfl rfl rfl rfl hs ?_
      rintro u L' ⟨rfl, rfl⟩
      repeat' (first | (show AL _ _ _ _ _ _ _ _; first | refine so2 ?_ | (refine sb ?_; intro i)) | (show AW _ _ _ _ _ _; first | (show AW _ _ (.region _ _ _) _ _ _; refine sc0 ?_; intro O1) | (refine sc1 ?_; try intro Q1)) | (show (_ → _) ∧ _; refine ⟨fun h => ?_, fun h => ?_⟩) | fail)
      refine al_nil ?_
      exact A1 (L' := [(i, .cells [tvT tw o m, .int .i64 e]), (j, .cells _), (tw, .cells (l.map bT))]) Ac hs (.refl _) rfl ⟨o, m, _, h, rfl, .refl _, rfl, rfl, rfl⟩
  · have hh : rdS ⟨win l o m, e⟩ = (⟨0, []⟩, ⟨win l o m, e⟩) := by rw [rdS, if_neg he]
    rw [hh]
    refine Ad (N := 29) (rs := []) hG Try.func75 rfl rfl rfl rfl rfl ?_
    repeat' (first | (show AL _ _ _ _ _ _ _ _; first | refine so2 ?_ | (refine sb ?_; intro i)) | (show AW _ _ _ _ _ _; first | (show AW _ _ (.region _ _ _) _ _ _; refine sc0 ?_; intro O1) | (refine sc1 ?_; try intro Q1)) | (show (_ → _) ∧ _; refine ⟨fun h => ?_, fun h => ?_⟩) | fail)
    refine aw_skip ?_
    exact A1 (L' := [(i, .cells [tvT tw o m, .int .i64 e]), (j, .cells _), (tw, .cells (l.map bT))]) Ac hs (.refl _) rfl ⟨o, m, _, h, rfl, .nil 2, rfl, rfl, rfl⟩
set_option maxHeartbeats 9000000 in
theorem v1_fresh {r : RS} {l : List UInt8} {o0 m0 : Nat} {op : Nat} (h0 : o0 + m0 ≤ l.length) (w0 : win l o0 m0 = r.b) (hl : l.length ≤ 4294967296) (i j tw : Nat) :
    OnL Try.prog 76 [.ptr i 0, .ptr j 0] [(i, .cells [tvT tw o0 m0, .int .i64 r.e]), (j, .cells [.int .i64 op, .int .i64 0, .int .u64 0, .int .u64 0, .int .i64 0, .int .i64 0, .int .u8 0, .nilsl, .nilsl, .nilsl, .nilsl, .nilsl, .nilsl]), (tw, .cells (l.map bT))] (fun u L => ∃ o' m' ds', o' + m' ≤ l.length ∧ win l o' m' = (freshF op r).2.b ∧ DS ds' (freshF op r).1 ∧ u = .tup [] ∧ L = [(i, .cells [tvT tw o' m', .int .i64 (freshF op r).2.e]), (j, .cells ds'), (tw, .cells (l.map bT))]) := by
  intro off
  have v1 : (rdN r 1).1 < 256 := rdN_lt r 1
  have v4 : (rdN (rdS (rdN (rdN r 1).2 8).2).2 2).1 < 65536 := rdN_lt _ 2
  refine Ad (N := 44) (rs := []) hG Try.func76 rfl rfl rfl rfl rfl ?_
  repeat' (first | (show AL _ _ _ _ _ _ _ _; first | refine so0 ?_) | (show AW _ _ _ _ _ _; first | (show AW _ _ (.region _ _ _) _ _ _; refine sc0 ?_; intro O1) | (refine sc0 ?_; try intro Q1)) | (show (_ → _) ∧ _; refine ⟨fun h => ?_, fun h => ?_⟩) | fail)
  refine al_on (v1_number (r := r) (n := 1) h0 w0 (by omega) hl i tw) rfl rfl rfl rfl rfl rfl hs ?_
  rintro u9 L9 ⟨o1, m1, h1, w1, rfl, rfl⟩
  repeat' (first | (show AL _ _ _ _ _ _ _ _; first | refine so0 ?_) | (show AW _ _ _ _ _ _; first | (show AW _ _ (.region _ _ _) _ _ _; refine sc0 ?_; intro O1) | (refine sc0 ?_; try intro Q1)) | (show (_ → _) ∧ _; refine ⟨fun h => ?_, fun h => ?_⟩) | fail)
  refine al_on (v1_number (r := (rdN r 1).2) (n := 8) h1 w1 (by omega) hl i tw) rfl rfl rfl rfl rfl rfl hs ?_
  rintro u9 L9 ⟨o2, m2, h2, w2, rfl, rfl⟩
  repeat' (first | (show AL _ _ _ _ _ _ _ _; first | refine so0 ?_) | (show AW _ _ _ _ _ _; first | (show AW _ _ (.region _ _ _) _ _ _; refine sc0 ?_; intro O1) | (refine sc0 ?_; try intro Q1)) | (show (_ → _) ∧ _; refine ⟨fun h => ?_, fun h => ?_⟩) | fail)
  refine al_on (v1_label (r := (rdN (rdN r 1).2 8).2) h2 w2 hl i j tw) rfl rfl rfl rfl rfl rfl hs ?_
  rintro u9 L9 ⟨o3, m3, Pp, h3, w3, wP, hsc, rfl, rfl⟩
  by_cases k1 : (rdN r 1).1 = 1
  · have hF := by have := @freshF.eq_1 op r; rw [if_pos k1] at this; exact this
    repeat' (first | (show AL _ _ _ _ _ _ _ _; first | refine so0 ?_) | (show AW _ _ _ _ _ _; first | (show AW _ _ (.region _ _ _) _ _ _; refine sc0 ?_; intro O1) | (refine sc0 ?_; try intro Q1)) | (show (_ → _) ∧ _; refine ⟨fun h => ?_, fun h => ?_⟩) | fail)
    refine al_on (v1_number (r := (rdS (rdN (rdN r 1).2 8).2).2) (n := 2) h3 w3 (by omega) hl i tw) rfl rfl rfl rfl rfl rfl hs ?_
    rintro u9 L9 ⟨o4, m4, h4, w4, rfl, rfl⟩
    repeat' (first | (show AL _ _ _ _ _ _ _ _; first | refine so0 ?_) | (show AW _ _ _ _ _ _; first | (show AW _ _ (.region _ _ _) _ _ _; refine sc0 ?_; intro O1) | (refine sc0 ?_; try intro Q1)) | (show (_ → _) ∧ _; refine ⟨fun h => ?_, fun h => ?_⟩) | fail)
    refine al_nil ?_
    dsimp (config := { zetaDelta := true }) only [thenA, Ah, jumpA, Ao]
    refine A1 (L' := [(i, .cells [tvT tw o4 m4, .int .i64 (rdN (rdS (rdN (rdN r 1).2 8).2).2 2).2.e]), (j, .cells _), (tw, .cells (l.map bT))]) Ac hs (.refl _) rfl ⟨o4, m4, _, h4, by rw [hF]; exact w4, by rw [hF]; exact ⟨Pp, _, _, rfl, wP, .nil 1, .nil 1, by simp only [hsc]; rfl⟩, rfl, by rw [hF] <;> rfl⟩
  by_cases k2 : (rdN r 1).1 = 2
  · have hF := by have := @freshF.eq_1 op r; rw [if_neg k1, if_pos k2] at this; exact this
    repeat' (first | (show AL _ _ _ _ _ _ _ _; first | refine so0 ?_) | (show AW _ _ _ _ _ _; first | (show AW _ _ (.region _ _ _) _ _ _; refine sc0 ?_; intro O1) | (refine sc0 ?_; try intro Q1)) | (show (_ → _) ∧ _; refine ⟨fun h => ?_, fun h => ?_⟩) | fail)
    refine al_on (v1_bytes (r := (rdS (rdN (rdN r 1).2 8).2).2) h3 w3 hl i tw) rfl rfl rfl rfl rfl rfl hs ?_
    rintro u9 L9 ⟨o4, m4, h4, w4, rfl, rfl⟩
    repeat' (first | (show AL _ _ _ _ _ _ _ _; first | refine so0 ?_) | (show AW _ _ _ _ _ _; first | (show AW _ _ (.region _ _ _) _ _ _; refine sc0 ?_; intro O1) | (refine sc0 ?_; try intro Q1)) | (show (_ → _) ∧ _; refine ⟨fun h => ?_, fun h => ?_⟩) | fail)
    refine al_nil ?_
    dsimp (config := { zetaDelta := true }) only [thenA, Ah, jumpA, Ao]
    refine A1 (L' := [(i, .cells [tvT tw o4 m4, .int .i64 (rdB (rdS (rdN (rdN r 1).2 8).2).2).2.e]), (j, .cells _), (tw, .cells (l.map bT))]) Ac hs (.refl _) rfl ⟨o4, m4, _, h4, by rw [hF]; exact w4, by rw [hF]; exact ⟨Pp, _, _, rfl, wP, .refl _, .nil 1, by simp only [hsc]; rfl⟩, rfl, by rw [hF] <;> rfl⟩
  by_cases k3 : (rdN r 1).1 = 3
  · have hF := by have := @freshF.eq_1 op r; rw [if_neg k1, if_neg k2, if_pos k3] at this; exact this
    repeat' (first | (show AL _ _ _ _ _ _ _ _; first | refine so0 ?_) | (show AW _ _ _ _ _ _; first | (show AW _ _ (.region _ _ _) _ _ _; refine sc0 ?_; intro O1) | (refine sc0 ?_; try intro Q1)) | (show (_ → _) ∧ _; refine ⟨fun h => ?_, fun h => ?_⟩) | fail)
    refine al_on (v1_cats (r := (rdS (rdN (rdN r 1).2 8).2).2) h3 w3 hl i tw) rfl rfl rfl rfl rfl rfl hs ?_
    rintro u9 L9 ⟨o4, m4, h4, w4, rfl, rfl⟩
    repeat' (first | (show AL _ _ _ _ _ _ _ _; first | refine so0 ?_) | (show AW _ _ _ _ _ _; first | (show AW _ _ (.region _ _ _) _ _ _; refine sc0 ?_; intro O1) | (refine sc0 ?_; try intro Q1)) | (show (_ → _) ∧ _; refine ⟨fun h => ?_, fun h => ?_⟩) | fail)
    refine al_nil ?_
    dsimp (config := { zetaDelta := true }) only [thenA, Ah, jumpA, Ao]
    refine A1 (L' := [(i, .cells [tvT tw o4 m4, .int .i64 (rdC (rdS (rdN (rdN r 1).2 8).2).2).2.e]), (j, .cells _), (tw, .cells (l.map bT))]) Ac hs (.refl _) rfl ⟨o4, m4, _, h4, by rw [hF]; exact w4, by rw [hF]; exact ⟨Pp, _, _, rfl, wP, .nil 1, .refl _, by simp only [hsc]; rfl⟩, rfl, by rw [hF] <;> rfl⟩
  · have hF := by have := @freshF.eq_1 op r; rw [if_neg k1, if_neg k2, if_neg k3] at this; exact this
    repeat' (first | (show AL _ _ _ _ _ _ _ _; first | refine so0 ?_) | (show AW _ _ _ _ _ _; first | (show AW _ _ (.region _ _ _) _ _ _; refine sc0 ?_; intro O1) | (refine sc0 ?_; try intro Q1)) | (show (_ → _) ∧ _; refine ⟨fun h => ?_, fun h => ?_⟩) | fail)
    refine aw_skip ?_
    dsimp (config := { zetaDelta := true }) only [thenA, Ah, jumpA, Ao]
    refine A1 (L' := [(i, .cells [tvT tw o3 m3, .int .i64 (rdS (rdN (rdN r 1).2 8).2).2.e]), (j, .cells _), (tw, .cells (l.map bT))]) Ac hs (.refl _) rfl ⟨o3, m3, _, h3, by rw [hF]; exact w3, by rw [hF]; exact ⟨Pp, _, _, rfl, wP, .nil 1, .nil 1, by simp only [hsc]; rfl⟩, rfl, by rw [hF] <;> rfl⟩
set_option maxHeartbeats 9000000 in
theorem v1_call {r : RS} {l : List UInt8} {o0 m0 : Nat} {op : Nat} (h0 : o0 + m0 ≤ l.length) (w0 : win l o0 m0 = r.b) (hl : l.length ≤ 4294967296) (i j tw : Nat) :
    OnL Try.prog 51 [.ptr i 0, .ptr j 0] [(i, .cells [tvT tw o0 m0, .int .i64 r.e]), (j, .cells [.int .i64 op, .int .i64 0, .int .u64 0, .int .u64 0, .int .i64 0, .int .i64 0, .int .u8 0, .nilsl, .nilsl, .nilsl, .nilsl, .nilsl, .nilsl]), (tw, .cells (l.map bT))] (fun u L => ∃ o' m' ds', o' + m' ≤ l.length ∧ win l o' m' = (Ai op r).2.b ∧ DS ds' (Ai op r).1 ∧ u = .tup [] ∧ L = [(i, .cells [tvT tw o' m', .int .i64 (Ai op r).2.e]), (j, .cells ds'), (tw, .cells (l.map bT))]) := by
  intro off
  have v2 : (rdN (rdN r 8).2 2).1 < 65536 := rdN_lt _ 2
  have v3 : (rdN (rdN (rdN r 8).2 2).2 2).1 < 65536 := rdN_lt _ 2
  have v4 : (rdN (rdN (rdN r 8).2 8).2 2).1 < 65536 := rdN_lt _ 2
  by_cases k0 : op = 2
  · have hF := by have := @Ai.eq_1 op r; rw [if_pos k0] at this; exact this
    refine Ad (N := 107) (rs := []) hG Try.func51 rfl rfl rfl rfl rfl ?_
    repeat' (first | (show AL _ _ _ _ _ _ _ _; first | refine so0 ?_) | (show AW _ _ _ _ _ _; first | (show AW _ _ (.region _ _ _) _ _ _; refine sc0 ?_; intro O1) | (refine sc0 ?_; try intro Q1)) | (show (_ → _) ∧ _; refine ⟨fun h => ?_, fun h => ?_⟩) | fail)
    refine al_on (v1_label (r := r) h0 w0 hl i j tw) rfl rfl rfl rfl rfl rfl hs ?_
    rintro u9 L9 ⟨o1, m1, Pp, h1, w1, wP, hsc, rfl, rfl⟩
    repeat' (first | (show AL _ _ _ _ _ _ _ _; first | refine so0 ?_) | (show AW _ _ _ _ _ _; first | (show AW _ _ (.region _ _ _) _ _ _; refine sc0 ?_; intro O1) | (refine sc0 ?_; try intro Q1)) | (show (_ → _) ∧ _; refine ⟨fun h => ?_, fun h => ?_⟩) | fail)
    refine al_nil ?_
    dsimp (config := { zetaDelta := true }) only [thenA, Ah, jumpA, Ao]
    refine A1 (L' := [(i, .cells [tvT tw o1 m1, .int .i64 (rdS r).2.e]), (j, .cells _), (tw, .cells (l.map bT))]) Ac hs (.refl _) rfl ⟨o1, m1, _, h1, by rw [hF]; exact w1, by rw [hF]; exact ⟨_, _, _, rfl, wP, .nil 1, .nil 1, by simp only [hsc]; rfl⟩, rfl, by rw [hF] <;> rfl⟩
  by_cases k1 : op = 3
  · have hF := by have := @Ai.eq_1 op r; rw [if_neg k0, if_pos k1] at this; exact this
    refine Ad (N := 107) (rs := []) hG Try.func51 rfl rfl rfl rfl rfl ?_
    repeat' (first | (show AL _ _ _ _ _ _ _ _; first | refine so0 ?_) | (show AW _ _ _ _ _ _; first | (show AW _ _ (.region _ _ _) _ _ _; refine sc0 ?_; intro O1) | (refine sc0 ?_; try intro Q1)) | (show (_ → _) ∧ _; refine ⟨fun h => ?_, fun h => ?_⟩) | fail)
    refine al_on (v1_fresh (r := r) (op := op) h0 w0 hl i j tw) rfl rfl rfl rfl rfl rfl hs ?_
    rintro u9 L9 ⟨o1, m1, ds, h1, w1, hD, rfl, rfl⟩
    repeat' (first | (show AL _ _ _ _ _ _ _ _; first | refine so0 ?_) | (show AW _ _ _ _ _ _; first | (show AW _ _ (.region _ _ _) _ _ _; refine sc0 ?_; intro O1) | (refine sc0 ?_; try intro Q1)) | (show (_ → _) ∧ _; refine ⟨fun h => ?_, fun h => ?_⟩) | fail)
    refine al_nil ?_
    dsimp (config := { zetaDelta := true }) only [thenA, Ah, jumpA, Ao]
    refine A1 (L' := [(i, .cells [tvT tw o1 m1, .int .i64 (freshF op r).2.e]), (j, .cells _), (tw, .cells (l.map bT))]) Ac hs (.refl _) rfl ⟨o1, m1, _, h1, by rw [hF]; exact w1, by rw [hF]; exact hD, rfl, by rw [hF] <;> rfl⟩
  by_cases k2 : op = 4
  · have hF := by have := @Ai.eq_1 op r; rw [if_neg k0, if_neg k1, if_pos k2] at this; exact this
    refine Ad (N := 107) (rs := []) hG Try.func51 rfl rfl rfl rfl rfl ?_
    repeat' (first | (show AL _ _ _ _ _ _ _ _; first | refine so0 ?_) | (show AW _ _ _ _ _ _; first | (show AW _ _ (.region _ _ _) _ _ _; refine sc0 ?_; intro O1) | (refine sc0 ?_; try intro Q1)) | (show (_ → _) ∧ _; refine ⟨fun h => ?_, fun h => ?_⟩) | fail)
    refine al_on (v1_number (r := r) (n := 8) h0 w0 (by omega) hl i tw) rfl rfl rfl rfl rfl rfl hs ?_
    rintro u9 L9 ⟨o1, m1, h1, w1, rfl, rfl⟩
    repeat' (first | (show AL _ _ _ _ _ _ _ _; first | refine so0 ?_) | (show AW _ _ _ _ _ _; first | (show AW _ _ (.region _ _ _) _ _ _; refine sc0 ?_; intro O1) | (refine sc0 ?_; try intro Q1)) | (show (_ → _) ∧ _; refine ⟨fun h => ?_, fun h => ?_⟩) | fail)
    refine al_on (v1_number (r := (rdN r 8).2) (n := 2) h1 w1 (by omega) hl i tw) rfl rfl rfl rfl rfl rfl hs ?_
    rintro u9 L9 ⟨o2, m2, h2, w2, rfl, rfl⟩
    repeat' (first | (show AL _ _ _ _ _ _ _ _; first | refine so0 ?_) | (show AW _ _ _ _ _ _; first | (show AW _ _ (.region _ _ _) _ _ _; refine sc0 ?_; intro O1) | (refine sc0 ?_; try intro Q1)) | (show (_ → _) ∧ _; refine ⟨fun h => ?_, fun h => ?_⟩) | fail)
    refine al_on (v1_number (r := (rdN (rdN r 8).2 2).2) (n := 2) h2 w2 (by omega) hl i tw) rfl rfl rfl rfl rfl rfl hs ?_
    rintro u9 L9 ⟨o3, m3, h3, w3, rfl, rfl⟩
    repeat' (first | (show AL _ _ _ _ _ _ _ _; first | refine so0 ?_) | (show AW _ _ _ _ _ _; first | (show AW _ _ (.region _ _ _) _ _ _; refine sc0 ?_; intro O1) | (refine sc0 ?_; try intro Q1)) | (show (_ → _) ∧ _; refine ⟨fun h => ?_, fun h => ?_⟩) | fail)
    refine al_nil ?_
    dsimp (config := { zetaDelta := true }) only [thenA, Ah, jumpA, Ao]
    refine A1 (L' := [(i, .cells [tvT tw o3 m3, .int .i64 (rdN (rdN (rdN r 8).2 2).2 2).2.e]), (j, .cells _), (tw, .cells (l.map bT))]) Ac hs (.refl _) rfl ⟨o3, m3, _, h3, by rw [hF]; exact w3, by rw [hF]; exact ⟨_, _, _, rfl, .nil 2, .nil 1, .nil 1, rfl⟩, rfl, by rw [hF] <;> rfl⟩
  by_cases k3 : op = 5
  · have hF := by have := @Ai.eq_1 op r; rw [if_neg k0, if_neg k1, if_neg k2, if_pos k3] at this; exact this
    refine Ad (N := 107) (rs := []) hG Try.func51 rfl rfl rfl rfl rfl ?_
    repeat' (first | (show AL _ _ _ _ _ _ _ _; first | refine so0 ?_) | (show AW _ _ _ _ _ _; first | (show AW _ _ (.region _ _ _) _ _ _; refine sc0 ?_; intro O1) | (refine sc0 ?_; try intro Q1)) | (show (_ → _) ∧ _; refine ⟨fun h => ?_, fun h => ?_⟩) | fail)
    refine al_on (v1_number (r := r) (n := 8) h0 w0 (by omega) hl i tw) rfl rfl rfl rfl rfl rfl hs ?_
    rintro u9 L9 ⟨o1, m1, h1, w1, rfl, rfl⟩
    repeat' (first | (show AL _ _ _ _ _ _ _ _; first | refine so0 ?_) | (show AW _ _ _ _ _ _; first | (show AW _ _ (.region _ _ _) _ _ _; refine sc0 ?_; intro O1) | (refine sc0 ?_; try intro Q1)) | (show (_ → _) ∧ _; refine ⟨fun h => ?_, fun h => ?_⟩) | fail)
    refine al_on (v1_number (r := (rdN r 8).2) (n := 2) h1 w1 (by omega) hl i tw) rfl rfl rfl rfl rfl rfl hs ?_
    rintro u9 L9 ⟨o2, m2, h2, w2, rfl, rfl⟩
    repeat' (first | (show AL _ _ _ _ _ _ _ _; first | refine so0 ?_) | (show AW _ _ _ _ _ _; first | (show AW _ _ (.region _ _ _) _ _ _; refine sc0 ?_; intro O1) | (refine sc0 ?_; try intro Q1)) | (show (_ → _) ∧ _; refine ⟨fun h => ?_, fun h => ?_⟩) | fail)
    refine al_on (v1_bytes (r := (rdN (rdN r 8).2 2).2) h2 w2 hl i tw) rfl rfl rfl rfl rfl rfl hs ?_
    rintro u9 L9 ⟨o3, m3, h3, w3, rfl, rfl⟩
    repeat' (first | (show AL _ _ _ _ _ _ _ _; first | refine so0 ?_) | (show AW _ _ _ _ _ _; first | (show AW _ _ (.region _ _ _) _ _ _; refine sc0 ?_; intro O1) | (refine sc0 ?_; try intro Q1)) | (show (_ → _) ∧ _; refine ⟨fun h => ?_, fun h => ?_⟩) | fail)
    refine al_nil ?_
    dsimp (config := { zetaDelta := true }) only [thenA, Ah, jumpA, Ao]
    refine A1 (L' := [(i, .cells [tvT tw o3 m3, .int .i64 (rdB (rdN (rdN r 8).2 2).2).2.e]), (j, .cells _), (tw, .cells (l.map bT))]) Ac hs (.refl _) rfl ⟨o3, m3, _, h3, by rw [hF]; exact w3, by rw [hF]; exact ⟨_, _, _, rfl, .nil 2, .refl _, .nil 1, rfl⟩, rfl, by rw [hF] <;> rfl⟩
  by_cases k4 : op = 6 ∨ op = 7 ∨ op = 9 ∨ op = 11
  · have hF := by have := @Ai.eq_1 op r; rw [if_neg k0, if_neg k1, if_neg k2, if_neg k3, if_pos k4] at this; exact this
    rcases k4 with rfl | rfl | rfl | rfl
    · refine Ad (N := 107) (rs := []) hG Try.func51 rfl rfl rfl rfl rfl ?_
      repeat' (first | (show AL _ _ _ _ _ _ _ _; first | refine so0 ?_) | (show AW _ _ _ _ _ _; first | (show AW _ _ (.region _ _ _) _ _ _; refine sc0 ?_; intro O1) | (refine sc0 ?_; try intro Q1)) | (show (_ → _) ∧ _; refine ⟨fun h => ?_, fun h => ?_⟩) | fail)
      refine al_on (v1_number (r := r) (n := 8) h0 w0 (by omega) hl i tw) rfl rfl rfl rfl rfl rfl hs ?_
      rintro u9 L9 ⟨o1, m1, h1, w1, rfl, rfl⟩
      repeat' (first | (show AL _ _ _ _ _ _ _ _; first | refine so0 ?_) | (show AW _ _ _ _ _ _; first | (show AW _ _ (.region _ _ _) _ _ _; refine sc0 ?_; intro O1) | (refine sc0 ?_; try intro Q1)) | (show (_ → _) ∧ _; refine ⟨fun h => ?_, fun h => ?_⟩) | fail)
      refine al_nil ?_
      dsimp (config := { zetaDelta := true }) only [thenA, Ah, jumpA, Ao]
      refine A1 (L' := [(i, .cells [tvT tw o1 m1, .int .i64 (rdN r 8).2.e]), (j, .cells _), (tw, .cells (l.map bT))]) Ac hs (.refl _) rfl ⟨o1, m1, _, h1, by rw [hF]; exact w1, by rw [hF]; exact ⟨_, _, _, rfl, .nil 2, .nil 1, .nil 1, rfl⟩, rfl, by rw [hF] <;> rfl⟩
    · refine Ad (N := 107) (rs := []) hG Try.func51 rfl rfl rfl rfl rfl ?_
      repeat' (first | (show AL _ _ _ _ _ _ _ _; first | refine so0 ?_) | (show AW _ _ _ _ _ _; first | (show AW _ _ (.region _ _ _) _ _ _; refine sc0 ?_; intro O1) | (refine sc0 ?_; try intro Q1)) | (show (_ → _) ∧ _; refine ⟨fun h => ?_, fun h => ?_⟩) | fail)
      refine al_on (v1_number (r := r) (n := 8) h0 w0 (by omega) hl i tw) rfl rfl rfl rfl rfl rfl hs ?_
      rintro u9 L9 ⟨o1, m1, h1, w1, rfl, rfl⟩
      repeat' (first | (show AL _ _ _ _ _ _ _ _; first | refine so0 ?_) | (show AW _ _ _ _ _ _; first | (show AW _ _ (.region _ _ _) _ _ _; refine sc0 ?_; intro O1) | (refine sc0 ?_; try intro Q1)) | (show (_ → _) ∧ _; refine ⟨fun h => ?_, fun h => ?_⟩) | fail)
      refine al_nil ?_
      dsimp (config := { zetaDelta := true }) only [thenA, Ah, jumpA, Ao]
      refine A1 (L' := [(i, .cells [tvT tw o1 m1, .int .i64 (rdN r 8).2.e]), (j, .cells _), (tw, .cells (l.map bT))]) Ac hs (.refl _) rfl ⟨o1, m1, _, h1, by rw [hF]; exact w1, by rw [hF]; exact ⟨_, _, _, rfl, .nil 2, .nil 1, .nil 1, rfl⟩, rfl, by rw [hF] <;> rfl⟩
    · refine Ad (N := 107) (rs := []) hG Try.func51 rfl rfl rfl rfl rfl ?_
      repeat' (first | (show AL _ _ _ _ _ _ _ _; first | refine so0 ?_) | (show AW _ _ _ _ _ _; first | (show AW _ _ (.region _ _ _) _ _ _; refine sc0 ?_; intro O1) | (refine sc0 ?_; try intro Q1)) | (show (_ → _) ∧ _; refine ⟨fun h => ?_, fun h => ?_⟩) | fail)
      refine al_on (v1_number (r := r) (n := 8) h0 w0 (by omega) hl i tw) rfl rfl rfl rfl rfl rfl hs ?_
      rintro u9 L9 ⟨o1, m1, h1, w1, rfl, rfl⟩
      repeat' (first | (show AL _ _ _ _ _ _ _ _; first | refine so0 ?_) | (show AW _ _ _ _ _ _; first | (show AW _ _ (.region _ _ _) _ _ _; refine sc0 ?_; intro O1) | (refine sc0 ?_; try intro Q1)) | (show (_ → _) ∧ _; refine ⟨fun h => ?_, fun h => ?_⟩) | fail)
      refine al_nil ?_
      dsimp (config := { zetaDelta := true }) only [thenA, Ah, jumpA, Ao]
      refine A1 (L' := [(i, .cells [tvT tw o1 m1, .int .i64 (rdN r 8).2.e]), (j, .cells _), (tw, .cells (l.map bT))]) Ac hs (.refl _) rfl ⟨o1, m1, _, h1, by rw [hF]; exact w1, by rw [hF]; exact ⟨_, _, _, rfl, .nil 2, .nil 1, .nil 1, rfl⟩, rfl, by rw [hF] <;> rfl⟩
    · refine Ad (N := 107) (rs := []) hG Try.func51 rfl rfl rfl rfl rfl ?_
      repeat' (first | (show AL _ _ _ _ _ _ _ _; first | refine so0 ?_) | (show AW _ _ _ _ _ _; first | (show AW _ _ (.region _ _ _) _ _ _; refine sc0 ?_; intro O1) | (refine sc0 ?_; try intro Q1)) | (show (_ → _) ∧ _; refine ⟨fun h => ?_, fun h => ?_⟩) | fail)
      refine al_on (v1_number (r := r) (n := 8) h0 w0 (by omega) hl i tw) rfl rfl rfl rfl rfl rfl hs ?_
      rintro u9 L9 ⟨o1, m1, h1, w1, rfl, rfl⟩
      repeat' (first | (show AL _ _ _ _ _ _ _ _; first | refine so0 ?_) | (show AW _ _ _ _ _ _; first | (show AW _ _ (.region _ _ _) _ _ _; refine sc0 ?_; intro O1) | (refine sc0 ?_; try intro Q1)) | (show (_ → _) ∧ _; refine ⟨fun h => ?_, fun h => ?_⟩) | fail)
      refine al_nil ?_
      dsimp (config := { zetaDelta := true }) only [thenA, Ah, jumpA, Ao]
      refine A1 (L' := [(i, .cells [tvT tw o1 m1, .int .i64 (rdN r 8).2.e]), (j, .cells _), (tw, .cells (l.map bT))]) Ac hs (.refl _) rfl ⟨o1, m1, _, h1, by rw [hF]; exact w1, by rw [hF]; exact ⟨_, _, _, rfl, .nil 2, .nil 1, .nil 1, rfl⟩, rfl, by rw [hF] <;> rfl⟩
  by_cases k5 : op = 8
  · have hF := by have := @Ai.eq_1 op r; rw [if_neg k0, if_neg k1, if_neg k2, if_neg k3, if_neg k4, if_pos k5] at this; exact this
    refine Ad (N := 107) (rs := []) hG Try.func51 rfl rfl rfl rfl rfl ?_
    repeat' (first | (show AL _ _ _ _ _ _ _ _; first | refine so0 ?_) | (show AW _ _ _ _ _ _; first | (show AW _ _ (.region _ _ _) _ _ _; refine sc0 ?_; intro O1) | (refine sc0 ?_; try intro Q1)) | (show (_ → _) ∧ _; refine ⟨fun h => ?_, fun h => ?_⟩) | fail)
    refine al_on (v1_number (r := r) (n := 8) h0 w0 (by omega) hl i tw) rfl rfl rfl rfl rfl rfl hs ?_
    rintro u9 L9 ⟨o1, m1, h1, w1, rfl, rfl⟩
    repeat' (first | (show AL _ _ _ _ _ _ _ _; first | refine so0 ?_) | (show AW _ _ _ _ _ _; first | (show AW _ _ (.region _ _ _) _ _ _; refine sc0 ?_; intro O1) | (refine sc0 ?_; try intro Q1)) | (show (_ → _) ∧ _; refine ⟨fun h => ?_, fun h => ?_⟩) | fail)
    refine al_on (v1_bytes (r := (rdN r 8).2) h1 w1 hl i tw) rfl rfl rfl rfl rfl rfl hs ?_
    rintro u9 L9 ⟨o2, m2, h2, w2, rfl, rfl⟩
    repeat' (first | (show AL _ _ _ _ _ _ _ _; first | refine so0 ?_) | (show AW _ _ _ _ _ _; first | (show AW _ _ (.region _ _ _) _ _ _; refine sc0 ?_; intro O1) | (refine sc0 ?_; try intro Q1)) | (show (_ → _) ∧ _; refine ⟨fun h => ?_, fun h => ?_⟩) | fail)
    refine al_nil ?_
    dsimp (config := { zetaDelta := true }) only [thenA, Ah, jumpA, Ao]
    refine A1 (L' := [(i, .cells [tvT tw o2 m2, .int .i64 (rdB (rdN r 8).2).2.e]), (j, .cells _), (tw, .cells (l.map bT))]) Ac hs (.refl _) rfl ⟨o2, m2, _, h2, by rw [hF]; exact w2, by rw [hF]; exact ⟨_, _, _, rfl, .nil 2, .refl _, .nil 1, rfl⟩, rfl, by rw [hF] <;> rfl⟩
  by_cases k6 : op = 10
  · have hF := by have := @Ai.eq_1 op r; rw [if_neg k0, if_neg k1, if_neg k2, if_neg k3, if_neg k4, if_neg k5, if_pos k6] at this; exact this
    refine Ad (N := 107) (rs := []) hG Try.func51 rfl rfl rfl rfl rfl ?_
    repeat' (first | (show AL _ _ _ _ _ _ _ _; first | refine so0 ?_) | (show AW _ _ _ _ _ _; first | (show AW _ _ (.region _ _ _) _ _ _; refine sc0 ?_; intro O1) | (refine sc0 ?_; try intro Q1)) | (show (_ → _) ∧ _; refine ⟨fun h => ?_, fun h => ?_⟩) | fail)
    refine al_on (v1_number (r := r) (n := 8) h0 w0 (by omega) hl i tw) rfl rfl rfl rfl rfl rfl hs ?_
    rintro u9 L9 ⟨o1, m1, h1, w1, rfl, rfl⟩
    repeat' (first | (show AL _ _ _ _ _ _ _ _; first | refine so0 ?_) | (show AW _ _ _ _ _ _; first | (show AW _ _ (.region _ _ _) _ _ _; refine sc0 ?_; intro O1) | (refine sc0 ?_; try intro Q1)) | (show (_ → _) ∧ _; refine ⟨fun h => ?_, fun h => ?_⟩) | fail)
    refine al_on (v1_number (r := (rdN r 8).2) (n := 8) h1 w1 (by omega) hl i tw) rfl rfl rfl rfl rfl rfl hs ?_
    rintro u9 L9 ⟨o2, m2, h2, w2, rfl, rfl⟩
    repeat' (first | (show AL _ _ _ _ _ _ _ _; first | refine so0 ?_) | (show AW _ _ _ _ _ _; first | (show AW _ _ (.region _ _ _) _ _ _; refine sc0 ?_; intro O1) | (refine sc0 ?_; try intro Q1)) | (show (_ → _) ∧ _; refine ⟨fun h => ?_, fun h => ?_⟩) | fail)
    refine al_on (v1_number (r := (rdN (rdN r 8).2 8).2) (n := 2) h2 w2 (by omega) hl i tw) rfl rfl rfl rfl rfl rfl hs ?_
    rintro u9 L9 ⟨o3, m3, h3, w3, rfl, rfl⟩
    repeat' (first | (show AL _ _ _ _ _ _ _ _; first | refine so0 ?_) | (show AW _ _ _ _ _ _; first | (show AW _ _ (.region _ _ _) _ _ _; refine sc0 ?_; intro O1) | (refine sc0 ?_; try intro Q1)) | (show (_ → _) ∧ _; refine ⟨fun h => ?_, fun h => ?_⟩) | fail)
    refine al_nil ?_
    dsimp (config := { zetaDelta := true }) only [thenA, Ah, jumpA, Ao]
    refine A1 (L' := [(i, .cells [tvT tw o3 m3, .int .i64 (rdN (rdN (rdN r 8).2 8).2 2).2.e]), (j, .cells _), (tw, .cells (l.map bT))]) Ac hs (.refl _) rfl ⟨o3, m3, _, h3, by rw [hF]; exact w3, by rw [hF]; exact ⟨_, _, _, rfl, .nil 2, .nil 1, .nil 1, rfl⟩, rfl, by rw [hF] <;> rfl⟩
  by_cases k7 : op = 1 ∨ op = 12 ∨ op = 13
  · have hF := by have := @Ai.eq_1 op r; rw [if_neg k0, if_neg k1, if_neg k2, if_neg k3, if_neg k4, if_neg k5, if_neg k6, if_pos k7] at this; exact this
    rcases k7 with rfl | rfl | rfl
    · refine Ad (N := 107) (rs := []) hG Try.func51 rfl rfl rfl rfl rfl ?_
      repeat' (first | (show AL _ _ _ _ _ _ _ _; first | refine so0 ?_) | (show AW _ _ _ _ _ _; first | (show AW _ _ (.region _ _ _) _ _ _; refine sc0 ?_; intro O1) | (refine sc0 ?_; try intro Q1)) | (show (_ → _) ∧ _; refine ⟨fun h => ?_, fun h => ?_⟩) | fail)
      refine aw_skip ?_
      dsimp (config := { zetaDelta := true }) only [thenA, Ah, jumpA, Ao]
      refine A1 (L' := [(i, .cells [tvT tw o0 m0, .int .i64 r.e]), (j, .cells _), (tw, .cells (l.map bT))]) Ac hs (.refl _) rfl ⟨o0, m0, _, h0, by rw [hF]; exact w0, by rw [hF]; exact ⟨_, _, _, rfl, .nil 2, .nil 1, .nil 1, rfl⟩, rfl, by rw [hF] <;> rfl⟩
    · refine Ad (N := 107) (rs := []) hG Try.func51 rfl rfl rfl rfl rfl ?_
      repeat' (first | (show AL _ _ _ _ _ _ _ _; first | refine so0 ?_) | (show AW _ _ _ _ _ _; first | (show AW _ _ (.region _ _ _) _ _ _; refine sc0 ?_; intro O1) | (refine sc0 ?_; try intro Q1)) | (show (_ → _) ∧ _; refine ⟨fun h => ?_, fun h => ?_⟩) | fail)
      refine aw_skip ?_
      dsimp (config := { zetaDelta := true }) only [thenA, Ah, jumpA, Ao]
      refine A1 (L' := [(i, .cells [tvT tw o0 m0, .int .i64 r.e]), (j, .cells _), (tw, .cells (l.map bT))]) Ac hs (.refl _) rfl ⟨o0, m0, _, h0, by rw [hF]; exact w0, by rw [hF]; exact ⟨_, _, _, rfl, .nil 2, .nil 1, .nil 1, rfl⟩, rfl, by rw [hF] <;> rfl⟩
    · refine Ad (N := 107) (rs := []) hG Try.func51 rfl rfl rfl rfl rfl ?_
      repeat' (first | (show AL _ _ _ _ _ _ _ _; first | refine so0 ?_) | (show AW _ _ _ _ _ _; first | (show AW _ _ (.region _ _ _) _ _ _; refine sc0 ?_; intro O1) | (refine sc0 ?_; try intro Q1)) | (show (_ → _) ∧ _; refine ⟨fun h => ?_, fun h => ?_⟩) | fail)
      refine aw_skip ?_
      dsimp (config := { zetaDelta := true }) only [thenA, Ah, jumpA, Ao]
      refine A1 (L' := [(i, .cells [tvT tw o0 m0, .int .i64 r.e]), (j, .cells _), (tw, .cells (l.map bT))]) Ac hs (.refl _) rfl ⟨o0, m0, _, h0, by rw [hF]; exact w0, by rw [hF]; exact ⟨_, _, _, rfl, .nil 2, .nil 1, .nil 1, rfl⟩, rfl, by rw [hF] <;> rfl⟩
  by_cases he : r.e = 0
  · have hF := by have := @Ai.eq_1 op r; rw [if_neg k0, if_neg k1, if_neg k2, if_neg k3, if_neg k4, if_neg k5, if_neg k6, if_neg k7, if_pos he] at this; exact this
    refine Ad (N := 107) (rs := []) hG Try.func51 rfl rfl rfl rfl rfl ?_
    repeat' (first | (show AL _ _ _ _ _ _ _ _; first | refine so0 ?_) | (show AW _ _ _ _ _ _; first | (show AW _ _ (.region _ _ _) _ _ _; refine sc0 ?_; intro O1) | (refine sc0 ?_; try intro Q1)) | (show (_ → _) ∧ _; refine ⟨fun h => ?_, fun h => ?_⟩) | fail)
    refine al_nil ?_
    dsimp (config := { zetaDelta := true }) only [thenA, Ah, jumpA, Ao]
    refine A1 (L' := [(i, .cells [tvT tw o0 m0, .int .i64 2]), (j, .cells _), (tw, .cells (l.map bT))]) Ac hs (.refl _) rfl ⟨o0, m0, _, h0, by rw [hF]; exact w0, by rw [hF]; exact ⟨_, _, _, rfl, .nil 2, .nil 1, .nil 1, rfl⟩, rfl, by rw [hF] <;> rfl⟩
  · have hF := by have := @Ai.eq_1 op r; rw [if_neg k0, if_neg k1, if_neg k2, if_neg k3, if_neg k4, if_neg k5, if_neg k6, if_neg k7, if_neg he] at this; exact this
    refine Ad (N := 107) (rs := []) hG Try.func51 rfl rfl rfl rfl rfl ?_
    repeat' (first | (show AL _ _ _ _ _ _ _ _; first | refine so0 ?_) | (show AW _ _ _ _ _ _; first | (show AW _ _ (.region _ _ _) _ _ _; refine sc0 ?_; intro O1) | (refine sc0 ?_; try intro Q1)) | (show (_ → _) ∧ _; refine ⟨fun h => ?_, fun h => ?_⟩) | fail)
    refine aw_skip ?_
    dsimp (config := { zetaDelta := true }) only [thenA, Ah, jumpA, Ao]
    refine A1 (L' := [(i, .cells [tvT tw o0 m0, .int .i64 r.e]), (j, .cells _), (tw, .cells (l.map bT))]) Ac hs (.refl _) rfl ⟨o0, m0, _, h0, by rw [hF]; exact w0, by rw [hF]; exact ⟨_, _, _, rfl, .nil 2, .nil 1, .nil 1, rfl⟩, rfl, by rw [hF] <;> rfl⟩
end Go.Proofs.Ythfgocinlbogeaa
set_option maxHeartbeats 4000000
namespace Go.Proofs.Ythfgocinlbogeaa
open Go.Ts Go.Sets
set_option linter.unusedSimpArgs false
set_option linter.unusedVariables false
attribute [local irreducible] Go.Ts.AW Go.Ts.AOps Go.Ts.AL Go.Ts.AOp Go.Ts.ACalls Go.Ts.DL Go.Ts.DQ Go.Ts.DQ0 Go.Ts.EL
structure TvK where
  e : Int
  i : Nat
  p : Nat
  o : Nat
  m : Nat
set_option maxHeartbeats 9000000 in
theorem abi1_Take_v {l : List UInt8} {o m : Nat} (h : o + m ≤ l.length) (hl : l.length ≤ 4294967296) (tw : Nat) :
    OnL Try.prog 24 [tvT tw o m] [(tw, .cells (l.map bT))] (fun u L => u = .tup [(takeK (win l o m)).1.t, .int .i64 (takeK (win l o m)).2] ∧ L = [(tw, .cells (l.map bT))]) := by
  intro off
  refine Ad (N := 40) (rs := [.cell 2 48, .tmp 3]) hG Try.func24 rfl rfl rfl rfl rfl ?_
  repeat' (first | (show AL _ _ _ _ _ _ _ _; first | refine so0 ?_ | (refine sb ?_; intro i)) | (show DL _ _ _ _ _ _ _; first | refine do0 ?_) | (show AW _ _ _ _ _ _; first | (show AW _ _ (.region _ _ _) _ _ _; refine sc0 ?_; intro O1) | (refine sc0 ?_; try intro Q1)) | (show (_ → _) ∧ _; refine ⟨fun h => ?_, fun h => ?_⟩) | fail)
  refine aw_scope' 0 rfl (X := { x : TvK // takeK (win l o m) = (zeroK, x.e) }) (fun x => [(2, .ptr x.1.p 0), (4, .ptr x.1.i 0)]) (fun x => ⟨[(x.1.i, .cells [tvT tw x.1.o x.1.m, .int .i64 x.1.e]), (x.1.p, .cells (zeroKC 0)), (tw, .cells (l.map bT))], [], off, none⟩) (fun _ => 0) ?_ ?_
  · rintro ⟨⟨e, i, p, oo, mm⟩, hx⟩
    dsimp only at hx ⊢
    unfold zeroKC
    repeat' (first | (show AL _ _ _ _ _ _ _ _; first | refine so0 ?_ | (refine sb ?_; intro i)) | (show DL _ _ _ _ _ _ _; first | refine do0 ?_) | (show AW _ _ _ _ _ _; (fail_if_success show AW _ _ (.region 10 _ _) _ _ _); first | (show AW _ _ (.region _ _ _) _ _ _; refine sc0 ?_; intro O1) | (refine sc0 ?_; try intro Q1)) | (show (_ → _) ∧ _; refine ⟨fun h => ?_, fun h => ?_⟩) | fail)
    refine aw_drawE' (m := 7) [5] (fun σ => ∃ c, σ = ⟨[(i, .cells [tvT tw oo mm, .int .i64 e]), (p, .cells c), (tw, .cells (l.map bT))], [], off, none⟩) mix rfl (by repeat (first | exact Sp.zero _ | apply Sp.succ)) ?_; intro O1 F1 Z1 Q2
    repeat' (first
    | (refine' dq_cons Y Y Y (fun σ hσ K kk => ?_) ?_; (try (show Go.Ts.T; rotate_left)); (obtain ⟨R, rfl⟩ := hσ); (first
      | (show AOp _ _ ⟨_, .move _, _, _, _, _⟩ _ _ _; refine r_move hG Y Y ?_)
      | (show AOp _ _ ⟨_, .assign _, _, _, _, _⟩ _ _ _; refine r_asg hG Y Y ?_)
      | (show AOp _ _ ⟨_, .call ⟨.builtin .len, _, _⟩, _, _, _, _⟩ _ _ _; first | refine r_lenm hG Y Y Y Y ?_ | refine r_len hG Y Y Y Y Y ?_)
      | (show AOp _ _ ⟨_, .binOp _ _ _ _ _, _, _, _, _⟩ _ _ _; first | refine r_cmpT hG Y Y Y Y Y (by omega) ?_ | refine r_cmpF hG Y Y Y Y Y (by omega) ?_)
      | (show AOp _ _ ⟨_, .load _ _, _, _, _, _⟩ _ _ _; first | refine r_ld 0 hG Y Y Y Y ?_ | refine r_ld 1 hG Y Y Y Y ?_ | refine r_ld 2 hG Y Y Y Y ?_ | refine r_ld 3 hG Y Y Y Y ?_)
      | (show AOp _ _ ⟨_, .convert _ _ _, _, _, _, _⟩ _ _ _; first | refine A2 hG Y Y Y Y Y (by omega) ?_ | refine r_cvw hG Y Y Y Y Y ?_)
      | (show AOp _ _ ⟨_, .build _ _, _, _, _, _⟩ _ _ _; refine r_build hG Y Y Y Y Y ?_)
      | (show AOp _ _ ⟨_, .box _ _, _, _, _, _⟩ _ _ _; refine r_box hG Y Y Y (fun i => ?_))
      | (show AOp _ _ ⟨_, .alloc _, _, _, _, _⟩ _ _ _; refine r_alloc hG Y Y (fun i => ?_))
      | (show AOp _ _ ⟨_, .store _ _ _, _, _, _, _⟩ _ _ _; first | refine r_st 0 hG Y Y Y Y Y Y Y ?_ | refine r_st 1 hG Y Y Y Y Y Y Y ?_ | refine r_st 2 hG Y Y Y Y Y Y Y ?_ | refine r_st 3 hG Y Y Y Y Y Y Y ?_)
      | refine r_q hG Y Y Y ?_); exact kk)
    | refine dq_d Y Y Y (fun σ hσ K kt kf => by obtain ⟨R, rfl⟩ := hσ; exact r_cmp hG Y Y Y Y Y kt kf) (fun h => ?_) (fun h => ?_)
    | refine dq_d Y Y Y (fun σ hσ K kt kf => by obtain ⟨R, rfl⟩ := hσ; exact r_str hG Y Y Y Y kt kf) (fun h => ?_) (fun h => ?_)
    | refine dq_s Y Y Y Y ?_ | refine dq_e Y ?_ | (refine dq_nil ?_; show EL _ _ _ _ _ _ _ _ _) | refine el_s ⟨_, Y⟩ Y Y Y Y ?_
    | ((first | refine el_cons ⟨_, Y⟩ Y Y Y (fun K ke => ?_) | refine el_consN ⟨_, Y⟩ Y Y Y (fun K ke => ?_)); (first
      | (show AOp _ _ ⟨_, .move _, _, _, _, _⟩ _ _ _; refine r_move hG Y Y ?_)
      | (show AOp _ _ ⟨_, .assign _, _, _, _, _⟩ _ _ _; refine r_asg hG Y Y ?_)
      | (show AOp _ _ ⟨_, .call ⟨.builtin .len, _, _⟩, _, _, _, _⟩ _ _ _; first | refine r_lenm hG Y Y Y Y ?_ | refine r_len hG Y Y Y Y Y ?_)
      | (show AOp _ _ ⟨_, .binOp _ _ _ _ _, _, _, _, _⟩ _ _ _; first | refine r_cmpT hG Y Y Y Y Y (by omega) ?_ | refine r_cmpF hG Y Y Y Y Y (by omega) ?_)
      | (show AOp _ _ ⟨_, .load _ _, _, _, _, _⟩ _ _ _; first | refine r_ld 0 hG Y Y Y Y ?_ | refine r_ld 1 hG Y Y Y Y ?_ | refine r_ld 2 hG Y Y Y Y ?_ | refine r_ld 3 hG Y Y Y Y ?_)
      | (show AOp _ _ ⟨_, .convert _ _ _, _, _, _, _⟩ _ _ _; first | refine A2 hG Y Y Y Y Y (by omega) ?_ | refine r_cvw hG Y Y Y Y Y ?_)
      | (show AOp _ _ ⟨_, .build _ _, _, _, _, _⟩ _ _ _; refine r_build hG Y Y Y Y Y ?_)
      | (show AOp _ _ ⟨_, .box _ _, _, _, _, _⟩ _ _ _; refine r_box hG Y Y Y (fun i => ?_))
      | (show AOp _ _ ⟨_, .alloc _, _, _, _, _⟩ _ _ _; refine r_alloc hG Y Y (fun i => ?_))
      | (show AOp _ _ ⟨_, .store _ _ _, _, _, _, _⟩ _ _ _; first | refine r_st 0 hG Y Y Y Y Y Y Y ?_ | refine r_st 1 hG Y Y Y Y Y Y Y ?_ | refine r_st 2 hG Y Y Y Y Y Y Y ?_ | refine r_st 3 hG Y Y Y Y Y Y Y ?_)
      | refine r_q hG Y Y Y ?_); refine ke _ _ ?_)
    | (refine el_nil ⟨_, Y⟩ ?_; show AL _ _ _ _ _ _ _ _) | fail)
    refine el_consN ⟨_, rfl⟩ rfl rfl rfl (fun K ke => ?_)
    refine r_st 1 hG rfl rfl rfl rfl rfl rfl rfl ?_
    refine ke (.tup []) _ ?_
    refine el_nil ⟨_, rfl⟩ ?_
    show AL _ _ _ _ _ _ _ _
    repeat' (first | (show AL _ _ _ _ _ _ _ _; first | refine so0 ?_ | (refine sb ?_; intro i)) | (show DL _ _ _ _ _ _ _; first | refine do0 ?_) | (show AW _ _ _ _ _ _; first | (show AW _ _ (.region _ _ _) _ _ _; refine sc0 ?_; intro O1) | (refine sc0 ?_; try intro Q1)) | (show (_ → _) ∧ _; refine ⟨fun h => ?_, fun h => ?_⟩) | fail)
    refine ret_on (L' := [(tw, .cells (l.map bT))]) (res_cellM rfl hs (by exact rfl) (Ab rfl Ac)) hs ?_ rfl ⟨rfl, rfl⟩
    rw [hx]
    exact Wk.tupL (wk2 zeroK_wk (.refl _))
  · intro key
    have v1 : (rdN ⟨win l o m, 0⟩ 1).1 < 256 := rdN_lt _ 1
    repeat' (first | (show AL _ _ _ _ _ _ _ _; first | refine so0 ?_ | (refine sb ?_; intro i)) | (show DL _ _ _ _ _ _ _; first | refine do0 ?_) | (show AW _ _ _ _ _ _; first | (show AW _ _ (.region _ _ _) _ _ _; refine sc0 ?_; intro O1) | (refine sc0 ?_; try intro Q1)) | (show (_ → _) ∧ _; refine ⟨fun h => ?_, fun h => ?_⟩) | fail)
    refine al_on (v1_number (r := ⟨win l o m, 0⟩) (n := 1) h rfl (by omega) hl _ tw) rfl rfl rfl rfl rfl rfl hs ?_
    rintro u9 L9 ⟨o1, m1, h1, w1, rfl, rfl⟩
    by_cases he : (rdN ⟨win l o m, 0⟩ 1).2.e ≠ 0
    · have hT : takeK (win l o m) = (zeroK, (rdN ⟨win l o m, 0⟩ 1).2.e) := by rw [takeK, if_pos he]
      repeat' (first | (show AL _ _ _ _ _ _ _ _; first | refine so0 ?_ | (refine sb ?_; intro i)) | (show DL _ _ _ _ _ _ _; first | refine do0 ?_) | (show AW _ _ _ _ _ _; first | (show AW _ _ (.region _ _ _) _ _ _; refine sc0 ?_; intro O1) | (refine sc0 ?_; try intro Q1)) | (show (_ → _) ∧ _; refine ⟨fun h => ?_, fun h => ?_⟩) | fail)
      dsimp (config := { zetaDelta := true }) only [thenA, Ah, jumpA, Ao]
      refine ⟨rfl, ⟨⟨(rdN ⟨win l o m, 0⟩ 1).2.e, _, _, o1, m1⟩, hT⟩, .cons rfl (.cons rfl (.nil _)), ?_⟩
      exact pk_step hs (List.nil_sublist _)
    repeat' (first | (show AL _ _ _ _ _ _ _ _; first | refine so0 ?_ | (refine sb ?_; intro i)) | (show DL _ _ _ _ _ _ _; first | refine do0 ?_) | (show AW _ _ _ _ _ _; first | (show AW _ _ (.region _ _ _) _ _ _; refine sc0 ?_; intro O1) | (refine sc0 ?_; try intro Q1)) | (show (_ → _) ∧ _; refine ⟨fun h => ?_, fun h => ?_⟩) | fail)
    refine al_on (v1_call (r := (rdN ⟨win l o m, 0⟩ 1).2) (op := (rdN ⟨win l o m, 0⟩ 1).1) h1 w1 hl _ _ tw) rfl rfl rfl rfl rfl rfl hs ?_
    rintro u9 L9 ⟨o2, m2, ds, h2, w2, hD, rfl, rfl⟩
    obtain ⟨Pp, d, cc, rfl, wP, wd, wc, hsc⟩ := hD
    have hm2 : (Ai (rdN ⟨win l o m, 0⟩ 1).1 (rdN ⟨win l o m, 0⟩ 1).2).2.b.length = m2 := by rw [← w2, win_len h2]
    by_cases he2 : (Ai (rdN ⟨win l o m, 0⟩ 1).1 (rdN ⟨win l o m, 0⟩ 1).2).2.e ≠ 0
    · have hT : takeK (win l o m) = (zeroK, (Ai (rdN ⟨win l o m, 0⟩ 1).1 (rdN ⟨win l o m, 0⟩ 1).2).2.e) := by rw [takeK, if_neg he, if_pos he2]
      repeat' (first | (show AL _ _ _ _ _ _ _ _; first | refine so0 ?_ | (refine sb ?_; intro i)) | (show DL _ _ _ _ _ _ _; first | refine do0 ?_) | (show AW _ _ _ _ _ _; first | (show AW _ _ (.region _ _ _) _ _ _; refine sc0 ?_; intro O1) | (refine sc0 ?_; try intro Q1)) | (show (_ → _) ∧ _; refine ⟨fun h => ?_, fun h => ?_⟩) | fail)
      dsimp (config := { zetaDelta := true }) only [thenA, Ah, jumpA, Ao]
      refine ⟨rfl, ⟨⟨(Ai (rdN ⟨win l o m, 0⟩ 1).1 (rdN ⟨win l o m, 0⟩ 1).2).2.e, _, _, o2, m2⟩, hT⟩, .cons rfl (.cons rfl (.nil _)), ?_⟩
      exact pk_step hs (List.nil_sublist _)
    by_cases h0 : 0 < (Ai (rdN ⟨win l o m, 0⟩ 1).1 (rdN ⟨win l o m, 0⟩ 1).2).2.b.length
    · have hT : takeK (win l o m) = (zeroK, 2) := by rw [takeK, if_neg he, if_neg he2, if_pos h0]
      repeat' (first | (show AL _ _ _ _ _ _ _ _; first | refine so0 ?_ | (refine sb ?_; intro i)) | (show DL _ _ _ _ _ _ _; first | refine do0 ?_) | (show AW _ _ _ _ _ _; first | (show AW _ _ (.region _ _ _) _ _ _; refine sc0 ?_; intro O1) | (refine sc0 ?_; try intro Q1)) | (show (_ → _) ∧ _; refine ⟨fun h => ?_, fun h => ?_⟩) | fail)
      dsimp (config := { zetaDelta := true }) only [thenA, Ah, jumpA, Ao]
      refine ⟨rfl, ⟨⟨2, _, _, o2, m2⟩, hT⟩, .cons rfl (.cons rfl (.nil _)), ?_⟩
      exact pk_step hs (List.nil_sublist _)
    · have hT : takeK (win l o m) = ((Ai (rdN ⟨win l o m, 0⟩ 1).1 (rdN ⟨win l o m, 0⟩ 1).2).1, 0) := by rw [takeK, if_neg he, if_neg he2, if_neg h0]
      simp only [Bool.and_eq_true] at hsc
      obtain ⟨⟨s1, s2⟩, s3⟩ := hsc
      have hsc : (notRaw (.agg [.int .i64 (Ai (rdN ⟨win l o m, 0⟩ 1).1 (rdN ⟨win l o m, 0⟩ 1).2).1.op, .int .i64 (Ai (rdN ⟨win l o m, 0⟩ 1).1 (rdN ⟨win l o m, 0⟩ 1).2).1.kind, .int .u64 (Ai (rdN ⟨win l o m, 0⟩ 1).1 (rdN ⟨win l o m, 0⟩ 1).2).1.id, .int .u64 (Ai (rdN ⟨win l o m, 0⟩ 1).1 (rdN ⟨win l o m, 0⟩ 1).2).1.to, .int .i64 (Ai (rdN ⟨win l o m, 0⟩ 1).1 (rdN ⟨win l o m, 0⟩ 1).2).1.off, .int .i64 (Ai (rdN ⟨win l o m, 0⟩ 1).1 (rdN ⟨win l o m, 0⟩ 1).2).1.n, bT (Ai (rdN ⟨win l o m, 0⟩ 1).1 (rdN ⟨win l o m, 0⟩ 1).2).1.df, Pp, .nilsl, .nilsl, .nilsl, d, cc]) && (T.agg [.int .i64 (Ai (rdN ⟨win l o m, 0⟩ 1).1 (rdN ⟨win l o m, 0⟩ 1).2).1.op, .int .i64 (Ai (rdN ⟨win l o m, 0⟩ 1).1 (rdN ⟨win l o m, 0⟩ 1).2).1.kind, .int .u64 (Ai (rdN ⟨win l o m, 0⟩ 1).1 (rdN ⟨win l o m, 0⟩ 1).2).1.id, .int .u64 (Ai (rdN ⟨win l o m, 0⟩ 1).1 (rdN ⟨win l o m, 0⟩ 1).2).1.to, .int .i64 (Ai (rdN ⟨win l o m, 0⟩ 1).1 (rdN ⟨win l o m, 0⟩ 1).2).1.off, .int .i64 (Ai (rdN ⟨win l o m, 0⟩ 1).1 (rdN ⟨win l o m, 0⟩ 1).2).1.n, bT (Ai (rdN ⟨win l o m, 0⟩ 1).1 (rdN ⟨win l o m, 0⟩ 1).2).1.df, Pp, .nilsl, .nilsl, .nilsl, d, cc]).cells.all T.scalar) = true := by
        simp only [notRaw, T.cells, List.all_cons, List.all_nil, s1, s2, s3]; rfl
      repeat' (first | (show AL _ _ _ _ _ _ _ _; first | refine so0 ?_ | (refine sb ?_; intro i)) | (show DL _ _ _ _ _ _ _; first | refine do0 ?_) | (show AW _ _ _ _ _ _; first | (show AW _ _ (.region _ _ _) _ _ _; refine sc0 ?_; intro O1) | (refine sc0 ?_; try intro Q1)) | (show (_ → _) ∧ _; refine ⟨fun h => ?_, fun h => ?_⟩) | fail)
      refine Ar rfl (r_stM hG rfl rfl hs hsc rfl rfl rfl ?_)
      repeat' (first | (show AL _ _ _ _ _ _ _ _; first | refine so0 ?_ | (refine sb ?_; intro i)) | (show DL _ _ _ _ _ _ _; first | refine do0 ?_) | (show AW _ _ _ _ _ _; first | (show AW _ _ (.region _ _ _) _ _ _; refine sc0 ?_; intro O1) | (refine sc0 ?_; try intro Q1)) | (show (_ → _) ∧ _; refine ⟨fun h => ?_, fun h => ?_⟩) | fail)
      dsimp (config := { zetaDelta := true }) only [thenA, Ah, jumpA, Ao]
      refine ret_on (L' := [(tw, .cells (l.map bT))]) (res_cellM rfl hs (by exact rfl) (Ab rfl Ac)) hs ?_ rfl ⟨rfl, rfl⟩
      rw [hT]
      exact Wk.tupL (wk2 (Wk.aggL (wkc (.refl _) (wkc (.refl _) (wkc (.refl _) (wkc (.refl _) (wkc (.refl _) (wkc (.refl _) (wkc (.refl _) (wkc wP (wkc (.nil 1) (wkc (.nil 1) (wkc (.nil 1) (wkc wd (wkc wc trivial)))))))))))))) (.refl _))
end Go.Proofs.Ythfgocinlbogeaa
set_option maxHeartbeats 4000000
namespace Go.Proofs.Ythfgocinlbogeaa
open Go.Ts
set_option linter.unusedSimpArgs false
set_option linter.unusedVariables false
attribute [local irreducible] Go.Ts.AW Go.Ts.AOps Go.Ts.AL Go.Ts.AOp Go.Ts.ACalls Go.Ts.DL Go.Ts.DQ Go.Ts.DQ0 Go.Ts.EL
def prAt (b : List UInt8) (p : Nat) : PR := (UInt16.ofNat (beV ((b.drop p).take 2)), b.getD (p + 2) default)
theorem takeP_eq (b : List UInt8) : ∀ (n : Nat) (acc : List PR) (p : Nat), p ≤ b.length → takeP b n acc p = if b.length - p < 3 * n then none else some (acc ++ (List.range n).map (fun i => prAt b (p + 3 * i)), p + 3 * n)
  | 0, acc, p, h => by simp [takeP]
  | n + 1, acc, p, h => by
    rw [takeP]
    by_cases h3 : b.length - p < 3
    · rw [if_pos h3, if_pos (by omega)]
    · rw [if_neg h3, takeP_eq b n _ _ (by omega)]
      by_cases h4 : b.length - (p + 3) < 3 * n
      · rw [if_pos h4, if_pos (by omega)]
      · rw [if_neg h4, if_neg (by omega), List.range_succ_eq_map, List.map_cons, List.map_map]
        have e : (fun i => prAt b (p + 3 + 3 * i)) = (fun i => prAt b (p + 3 * i)) ∘ Nat.succ := by funext i; simp only [Function.comp]; congr 1; omega
        rw [e, show p + 3 + 3 * n = p + 3 * (n + 1) by omega, List.append_assoc]
        rfl
def labL (b : List UInt8) (n : Nat) : List PR := (List.range n).map (fun i => prAt b (2 + 3 * i))
theorem labL_len (b : List UInt8) (n : Nat) : (labL b n).length = n := by simp [labL]
theorem labL_succ (b : List UInt8) (n : Nat) : labL b (n + 1) = labL b n ++ [prAt b (2 + 3 * n)] := by simp [labL, List.range_succ]
structure LqX (N : Nat) where
  i : Nat
  q : Nat
  q2 : Nat
  k : Option Nat
  hi : i ≤ N
  hk : k = none → i = 0
set_option maxHeartbeats 9000000 in
theorem ref_TakeLabel {x : T} {b : List UInt8} (hx : bytesT x = some b) (hl : b.length ≤ 4294967296) : Ts.Pure Try.prog 79 [x] (tlT (Al b)) := by
  refine Pure.weak (us := [sT b]) ?_ (wk1 (bytesT_wk hx))
  intro off
  have hu8 := (b.getD 1 default).toNat_lt
  have hu9 : (b.getD (Int.toNat 1) default).toNat = (b.getD 1 default).toNat := rfl
  by_cases h2 : b.length < 2
  · have hT : Al b = ⟨0, [], 0, 3⟩ := by rw [Al, if_pos h2]
    refine Ad (N := 69) (rs := [.cell 2 43, .tmp 3, .tmp 4]) hG Try.func79 rfl rfl rfl rfl rfl ?_
    repeat' (first | (show AL _ _ _ _ _ _ _ _; first | refine so0 ?_ | (refine sa ?_; intro k) | (refine sb ?_; intro i)) | (show DL _ _ _ _ _ _ _; first | refine do0 ?_) | (show AW _ _ _ _ _ _; first | (show AW _ _ (.region _ _ _) _ _ _; refine sc0 ?_; intro O1) | (refine sc0 ?_; try intro Q1)) | (show (_ → _) ∧ _; refine ⟨fun h => ?_, fun h => ?_⟩) | fail)
    refine Ag (res_cell 0 rfl rfl rfl (Ab rfl (Ab rfl Ac))) ?_ rfl
    rw [hT]
    exact Wk.tupL (wk3 (Wk.aggL (wk2 (.refl _) (.nil 2))) (.refl _) (.refl _))
  have hE := takeP_eq b (b.getD 1 default).toNat [] 2 (by omega)
  by_cases h3 : b.length - 2 < 3 * (b.getD 1 default).toNat
  · have hT : Al b = ⟨0, [], 0, 3⟩ := by rw [Al, if_neg h2, hE, if_pos h3]
    refine Ad (N := 69) (rs := [.cell 2 43, .tmp 3, .tmp 4]) hG Try.func79 rfl rfl rfl rfl rfl ?_
    repeat' (first | (show AL _ _ _ _ _ _ _ _; first | refine so0 ?_ | (refine sa ?_; intro k) | (refine sb ?_; intro i)) | (show DL _ _ _ _ _ _ _; first | refine do0 ?_) | (show AW _ _ _ _ _ _; first | (show AW _ _ (.region _ _ _) _ _ _; refine sc0 ?_; intro O1) | (refine sc0 ?_; try intro Q1)) | (show (_ → _) ∧ _; refine ⟨fun h => ?_, fun h => ?_⟩) | fail)
    refine Ag (res_cell 0 rfl rfl rfl (Ab rfl (Ab rfl Ac))) ?_ rfl
    rw [hT]
    exact Wk.tupL (wk3 (Wk.aggL (wk2 (.refl _) (.nil 2))) (.refl _) (.refl _))
  have hT : Al b = if mayLab (b.getD 0 default) (labL b (b.getD 1 default).toNat) then ⟨b.getD 0 default, labL b (b.getD 1 default).toNat, 2 + 3 * (b.getD 1 default).toNat, 0⟩ else ⟨0, [], 0, 2⟩ := by
    rw [Al, if_neg h2, hE, if_neg h3] <;> rfl
  clear hE
  refine Ad (N := 69) (rs := [.cell 2 43, .tmp 3, .tmp 4]) hG Try.func79 rfl rfl rfl rfl rfl ?_
  repeat' (first | (show AL _ _ _ _ _ _ _ _; first | refine so0 ?_ | (refine sa ?_; intro k) | (refine sb ?_; intro i)) | (show DL _ _ _ _ _ _ _; first | refine do0 ?_) | (show AW _ _ _ _ _ _; first | (show AW _ _ (.region _ _ _) _ _ _; refine sc0 ?_; intro O1) | (refine sc0 ?_; try intro Q1)) | (show (_ → _) ∧ _; refine ⟨fun h => ?_, fun h => ?_⟩) | fail)
  refine aw_loop (X := LqX (b.getD 1 default).toNat) (fun x => [(0, sT b), (2, .ptr x.q2 0), (5, .ptr x.q 0), (6, .int .i64 x.i)]) (fun x => match x.k with
      | none => ⟨[(x.q, .cells [bT (b.getD 0 default), .nilsl]), (x.q2, .cells [.int .u8 0, .nilsl])], [], off, none⟩
      | some k => ⟨[(x.q, .cells [bT (b.getD 0 default), .sl 2 (.tok k) ((labL b x.i).map pT)]), (x.q2, .cells [.int .u8 0, .nilsl])], [k], off, none⟩) (fun x => (b.getD 1 default).toNat - x.i) ⟨0, _, _, none, Nat.zero_le _, fun _ => rfl⟩ ?_ (.refl _) ?_
  · exact .cons rfl (.cons rfl (.cons rfl (.consW rfl (.int rfl) (.nil _))))
  rintro ⟨i, q, q2, k, hi, hk⟩
  dsimp only
  have hll := labL_len b i
  by_cases hib : i < (b.getD 1 default).toNat
  · have e : ((2 : Int) + 3 * (i : Int)).toNat = 2 + 3 * i := by omega
    have e4 : ((4 : Int) + 3 * (i : Int)).toNat = 2 + 3 * i + 2 := by omega
    have hd : (b.drop ((2 : Int) + 3 * (i : Int)).toNat).length = b.length - (2 + 3 * i) := by rw [List.length_drop, e]
    have hc2 := takeE2 (b.drop ((2 : Int) + 3 * (i : Int)).toNat)
    rw [if_neg (by omega)] at hc2
    have hc := ref_Take_is (bytesT_s _) hc2
    have hv := beV2 (b.drop ((2 : Int) + 3 * (i : Int)).toNat) (by omega)
    have hp : prAt b (2 + 3 * i) = (UInt16.ofNat (beV ((b.drop ((2 : Int) + 3 * (i : Int)).toNat).take 2)), b.getD (2 + 3 * i + 2) default) := by rw [e]; rfl
    generalize beV ((b.drop ((2 : Int) + 3 * (i : Int)).toNat).take 2) = v at *
    have ht := hT_of v hv
    have hpt : T.agg [.int .u16 (v : Int), bT (b.getD ((4 : Int) + 3 * (i : Int)).toNat default)] = pT (prAt b (2 + 3 * i)) := by rw [hp, ht, e4]; rfl
    cases k with
    | none =>
      obtain rfl := hk rfl
      repeat' (first | (show AL _ _ _ _ _ _ _ _; first | refine so0 ?_ | refine sp Y Y Y Y Y Y (by apply hc <;> exact sd) ?_ | (refine sa ?_; intro k) | (refine sb ?_; intro i)) | (show DL _ _ _ _ _ _ _; first | refine do0 ?_ | refine dp Y Y Y Y Y Y Y (by apply hc <;> exact sd) ?_) | (show AW _ _ _ _ _ _; (fail_if_success show AW _ _ (.region 8 _ _) _ _ _); first | (show AW _ _ (.region _ _ _) _ _ _; refine sc0 ?_; intro O1) | (refine sc0 ?_; try intro Q1)) | (show (_ → _) ∧ _; refine ⟨fun h => ?_, fun h => ?_⟩) | fail)
      refine aw_drawE' (m := 15) [1, 12, 14] (fun σ => ∃ x : List T × List Nat, σ = ⟨[(q, .cells x.1), (q2, .cells [.int .u8 0, .nilsl])], x.2, off, none⟩) mix rfl (by repeat (first | exact Sp.zero _ | apply Sp.succ)) ?_; intro O1 F1 Z1 Q2
      repeat' (first
    | (refine' dq_cons Y Y Y (fun σ hσ K kk => ?_) ?_; (try (show Go.Ts.T; rotate_left)); (obtain ⟨R, rfl⟩ := hσ); (first
      | (show AOp _ _ ⟨_, .move _, _, _, _, _⟩ _ _ _; refine r_move hG Y Y ?_)
      | (show AOp _ _ ⟨_, .assign _, _, _, _, _⟩ _ _ _; refine r_asg hG Y Y ?_)
      | (show AOp _ _ ⟨_, .call ⟨.builtin .len, _, _⟩, _, _, _, _⟩ _ _ _; first | refine r_lenm hG Y Y Y Y ?_ | refine r_len hG Y Y Y Y Y ?_)
      | (show AOp _ _ ⟨_, .binOp .add _ _ _ _, _, _, _, _⟩ _ _ _; first | refine Ap hG Y Y Y Y Y (by omega) ?_)
      | (show AOp _ _ ⟨_, .binOp .sub _ _ _ _, _, _, _, _⟩ _ _ _; first | refine Ap hG Y Y Y Y Y (by omega) ?_)
      | (show AOp _ _ ⟨_, .binOp .mul _ _ _ _, _, _, _, _⟩ _ _ _; first | refine Ap hG Y Y Y Y Y (by omega) ?_)
      | (show AOp _ _ ⟨_, .binOp _ _ _ _ _, _, _, _, _⟩ _ _ _; first | refine r_cmpT hG Y Y Y Y Y (by omega) ?_ | refine r_cmpF hG Y Y Y Y Y (by omega) ?_)
      | (show AOp _ _ ⟨_, .load _ _, _, _, _, _⟩ _ _ _; first | refine r_ldro hG Y Y Y ?_ | refine r_ld 0 hG Y Y Y Y ?_ | refine r_ld 1 hG Y Y Y Y ?_ | refine r_ld 2 hG Y Y Y Y ?_)
      | (show AOp _ _ ⟨_, .indexAddr _ _ _, _, _, _, _⟩ _ _ _; first | refine r_idx0 hG Y Y Y Y Y Y Y ?_ | refine r_idxn hG Y Y Y Y Y Y Y (by omega) ?_ | refine r_idxm hG Y Y Y Y Y Y Y (by omega) ?_ | refine r_idx hG Y Y ?_)
      | (show AOp _ _ ⟨_, .convert _ _ _, _, _, _, _⟩ _ _ _; first | refine r_cv8 hG Y Y Y Y Y Y ?_ | refine A2 hG Y Y Y Y Y (by omega) ?_ | refine r_cv_u16 hG Y Y Y Y Y (by omega) ?_ | refine r_cvw hG Y Y Y Y Y ?_)
      | (show AOp _ _ ⟨_, .slice _ _ _ _ _, _, _, _, _⟩ _ _ _; first | refine r_sl_lon hG Y Y Y Y Y Y Y (by omega) ?_ | refine r_sl_lo hG Y Y Y Y Y Y Y (by omega) ?_ | refine r_sl hG Y Y ?_)
      | (show AOp _ _ ⟨_, .pick _ _ _, _, _, _, _⟩ _ _ _; refine r_pick hG Y Y Y ?_)
      | (show AOp _ _ ⟨_, .unOp _ _ _, _, _, _, _⟩ _ _ _; refine r_not hG Y Y Y ?_)
      | (show AOp _ _ ⟨_, .buildSlice _ _ _, _, _, _, _⟩ _ _ _; first | refine r_mk (sz := 2) hG Y Y Y Y Y Y Y ?_)
      | (show AOp _ _ ⟨_, .build _ _, _, _, _, _⟩ _ _ _; refine r_build hG Y Y Y Y Y ?_)
      | (show AOp _ _ ⟨_, .alloc _, _, _, _, _⟩ _ _ _; refine r_alloc hG Y Y (fun i => ?_))
      | (show AOp _ _ ⟨_, .store _ _ _, _, _, _, _⟩ _ _ _; first | refine r_st 0 hG Y Y Y Y Y Y Y ?_ | refine r_st 1 hG Y Y Y Y Y Y Y ?_ | refine r_st 2 hG Y Y Y Y Y Y Y ?_)
      | (show AOp _ _ ⟨_, .call ⟨.builtin .append, _, _⟩, _, _, _, _⟩ _ _ _; first | refine r_app0m (sz := 1) (xs := []) hG Y Y Y Y Y Y Y ⟨_, Y⟩ Y Y Y Y Y Y Y (by first | omega | (simp; omega)) (fun k => ?_) | refine r_appm 0 hG Y Y Y Y Y Y Y ⟨_, Y⟩ Y Y Y Y Y (by first | omega | (simp only [List.length_append, List.length_cons, List.length_nil]; omega)) (fun k => ?_) | fail)
      | refine r_q hG Y Y Y ?_); exact kk)
    | refine dq_d Y Y Y (fun σ hσ K kt kf => by obtain ⟨R, rfl⟩ := hσ; exact r_cmp hG Y Y Y Y Y kt kf) (fun h => ?_) (fun h => ?_)
    | refine dq_d Y Y Y (fun σ hσ K kt kf => by obtain ⟨R, rfl⟩ := hσ; exact r_str hG Y Y Y Y kt kf) (fun h => ?_) (fun h => ?_)
    | refine dq_s Y Y Y Y ?_ | refine dq_e Y ?_ | (refine dq_nil ?_; show EL _ _ _ _ _ _ _ _ _) | refine el_s ⟨_, Y⟩ Y Y Y Y ?_
    | ((first | refine el_cons ⟨_, Y⟩ Y Y Y (fun K ke => ?_) | refine el_consN ⟨_, Y⟩ Y Y Y (fun K ke => ?_)); (first
      | (show AOp _ _ ⟨_, .move _, _, _, _, _⟩ _ _ _; refine r_move hG Y Y ?_)
      | (show AOp _ _ ⟨_, .assign _, _, _, _, _⟩ _ _ _; refine r_asg hG Y Y ?_)
      | (show AOp _ _ ⟨_, .call ⟨.builtin .len, _, _⟩, _, _, _, _⟩ _ _ _; first | refine r_lenm hG Y Y Y Y ?_ | refine r_len hG Y Y Y Y Y ?_)
      | (show AOp _ _ ⟨_, .binOp .add _ _ _ _, _, _, _, _⟩ _ _ _; first | refine Ap hG Y Y Y Y Y (by omega) ?_)
      | (show AOp _ _ ⟨_, .binOp .sub _ _ _ _, _, _, _, _⟩ _ _ _; first | refine Ap hG Y Y Y Y Y (by omega) ?_)
      | (show AOp _ _ ⟨_, .binOp .mul _ _ _ _, _, _, _, _⟩ _ _ _; first | refine Ap hG Y Y Y Y Y (by omega) ?_)
      | (show AOp _ _ ⟨_, .binOp _ _ _ _ _, _, _, _, _⟩ _ _ _; first | refine r_cmpT hG Y Y Y Y Y (by omega) ?_ | refine r_cmpF hG Y Y Y Y Y (by omega) ?_)
      | (show AOp _ _ ⟨_, .load _ _, _, _, _, _⟩ _ _ _; first | refine r_ldro hG Y Y Y ?_ | refine r_ld 0 hG Y Y Y Y ?_ | refine r_ld 1 hG Y Y Y Y ?_ | refine r_ld 2 hG Y Y Y Y ?_)
      | (show AOp _ _ ⟨_, .indexAddr _ _ _, _, _, _, _⟩ _ _ _; first | refine r_idx0 hG Y Y Y Y Y Y Y ?_ | refine r_idxn hG Y Y Y Y Y Y Y (by omega) ?_ | refine r_idxm hG Y Y Y Y Y Y Y (by omega) ?_ | refine r_idx hG Y Y ?_)
      | (show AOp _ _ ⟨_, .convert _ _ _, _, _, _, _⟩ _ _ _; first | refine r_cv8 hG Y Y Y Y Y Y ?_ | refine A2 hG Y Y Y Y Y (by omega) ?_ | refine r_cv_u16 hG Y Y Y Y Y (by omega) ?_ | refine r_cvw hG Y Y Y Y Y ?_)
      | (show AOp _ _ ⟨_, .slice _ _ _ _ _, _, _, _, _⟩ _ _ _; first | refine r_sl_lon hG Y Y Y Y Y Y Y (by omega) ?_ | refine r_sl_lo hG Y Y Y Y Y Y Y (by omega) ?_ | refine r_sl hG Y Y ?_)
      | (show AOp _ _ ⟨_, .pick _ _ _, _, _, _, _⟩ _ _ _; refine r_pick hG Y Y Y ?_)
      | (show AOp _ _ ⟨_, .unOp _ _ _, _, _, _, _⟩ _ _ _; refine r_not hG Y Y Y ?_)
      | (show AOp _ _ ⟨_, .buildSlice _ _ _, _, _, _, _⟩ _ _ _; first | refine r_mk (sz := 2) hG Y Y Y Y Y Y Y ?_)
      | (show AOp _ _ ⟨_, .build _ _, _, _, _, _⟩ _ _ _; refine r_build hG Y Y Y Y Y ?_)
      | (show AOp _ _ ⟨_, .alloc _, _, _, _, _⟩ _ _ _; refine r_alloc hG Y Y (fun i => ?_))
      | (show AOp _ _ ⟨_, .store _ _ _, _, _, _, _⟩ _ _ _; first | refine r_st 0 hG Y Y Y Y Y Y Y ?_ | refine r_st 1 hG Y Y Y Y Y Y Y ?_ | refine r_st 2 hG Y Y Y Y Y Y Y ?_)
      | (show AOp _ _ ⟨_, .call ⟨.builtin .append, _, _⟩, _, _, _, _⟩ _ _ _; first | refine r_app0m (sz := 1) (xs := []) hG Y Y Y Y Y Y Y ⟨_, Y⟩ Y Y Y Y Y Y Y (by first | omega | (simp; omega)) (fun k => ?_) | refine r_appm 0 hG Y Y Y Y Y Y Y ⟨_, Y⟩ Y Y Y Y Y (by first | omega | (simp only [List.length_append, List.length_cons, List.length_nil]; omega)) (fun k => ?_) | fail)
      | refine r_q hG Y Y Y ?_); refine ke _ _ ?_)
    | (refine el_nil ⟨_, Y⟩ ?_; show AL _ _ _ _ _ _ _ _) | fail)
      refine el_cons ⟨(_, _), rfl⟩ rfl rfl rfl (fun K ke => ?_)
      refine r_ld 0 hG rfl rfl rfl rfl ?_
      refine ke _ _ ?_
      refine el_cons ⟨(_, _), rfl⟩ rfl rfl rfl (fun K ke => ?_)
      refine r_app0m (sz := 2) (f := pT) (xs := []) (ys := [prAt b (2 + 3 * 0)]) hG rfl rfl rfl rfl rfl rfl rfl ⟨_, rfl⟩ rfl rfl rfl rfl rfl rfl (congrArg (fun t => [t]) hpt) (by simp) (fun k2 => ?_)
      refine ke _ _ ?_
      refine el_consN ⟨(_, _), rfl⟩ rfl rfl rfl (fun K ke => ?_)
      refine r_st 0 hG rfl rfl rfl rfl rfl rfl rfl ?_
      refine ke (.tup []) _ ?_
      refine el_nil ⟨(_, _), rfl⟩ ?_
      show AL _ _ _ _ _ _ _ _
      repeat' (first | (show AL _ _ _ _ _ _ _ _; first | refine so0 ?_ | (refine sa ?_; intro k) | (refine sb ?_; intro i)) | (show DL _ _ _ _ _ _ _; first | refine do0 ?_) | (show AW _ _ _ _ _ _; first | (show AW _ _ (.region _ _ _) _ _ _; refine sc0 ?_; intro O1) | (refine sc0 ?_; try intro Q1)) | (show (_ → _) ∧ _; refine ⟨fun h => ?_, fun h => ?_⟩) | fail)
      refine ⟨⟨1, q, q2, some k2, by omega, (fun h => by cases h)⟩, by dsimp only; omega, ?_, .refl _⟩
      exact .cons rfl (.cons rfl (.cons rfl (.consW rfl (.int (by simp)) (.nil _))))
    | some k =>
      repeat' (first | (show AL _ _ _ _ _ _ _ _; first | refine so0 ?_ | refine sp Y Y Y Y Y Y (by apply hc <;> exact sd) ?_ | (refine sa ?_; intro k) | (refine sb ?_; intro i)) | (show DL _ _ _ _ _ _ _; first | refine do0 ?_ | refine dp Y Y Y Y Y Y Y (by apply hc <;> exact sd) ?_) | (show AW _ _ _ _ _ _; (fail_if_success show AW _ _ (.region 8 _ _) _ _ _); first | (show AW _ _ (.region _ _ _) _ _ _; refine sc0 ?_; intro O1) | (refine sc0 ?_; try intro Q1)) | (show (_ → _) ∧ _; refine ⟨fun h => ?_, fun h => ?_⟩) | fail)
      refine aw_drawE' (m := 15) [1, 12, 14] (fun σ => ∃ x : List T × List Nat, σ = ⟨[(q, .cells x.1), (q2, .cells [.int .u8 0, .nilsl])], x.2, off, none⟩) mix rfl (by repeat (first | exact Sp.zero _ | apply Sp.succ)) ?_; intro O1 F1 Z1 Q2
      repeat' (first
    | (refine' dq_cons Y Y Y (fun σ hσ K kk => ?_) ?_; (try (show Go.Ts.T; rotate_left)); (obtain ⟨R, rfl⟩ := hσ); (first
      | (show AOp _ _ ⟨_, .move _, _, _, _, _⟩ _ _ _; refine r_move hG Y Y ?_)
      | (show AOp _ _ ⟨_, .assign _, _, _, _, _⟩ _ _ _; refine r_asg hG Y Y ?_)
      | (show AOp _ _ ⟨_, .call ⟨.builtin .len, _, _⟩, _, _, _, _⟩ _ _ _; first | refine r_lenm hG Y Y Y Y ?_ | refine r_len hG Y Y Y Y Y ?_)
      | (show AOp _ _ ⟨_, .binOp .add _ _ _ _, _, _, _, _⟩ _ _ _; first | refine Ap hG Y Y Y Y Y (by omega) ?_)
      | (show AOp _ _ ⟨_, .binOp .sub _ _ _ _, _, _, _, _⟩ _ _ _; first | refine Ap hG Y Y Y Y Y (by omega) ?_)
      | (show AOp _ _ ⟨_, .binOp .mul _ _ _ _, _, _, _, _⟩ _ _ _; first | refine Ap hG Y Y Y Y Y (by omega) ?_)
      | (show AOp _ _ ⟨_, .binOp _ _ _ _ _, _, _, _, _⟩ _ _ _; first | refine r_cmpT hG Y Y Y Y Y (by omega) ?_ | refine r_cmpF hG Y Y Y Y Y (by omega) ?_)
      | (show AOp _ _ ⟨_, .load _ _, _, _, _, _⟩ _ _ _; first | refine r_ldro hG Y Y Y ?_ | refine r_ld 0 hG Y Y Y Y ?_ | refine r_ld 1 hG Y Y Y Y ?_ | refine r_ld 2 hG Y Y Y Y ?_)
      | (show AOp _ _ ⟨_, .indexAddr _ _ _, _, _, _, _⟩ _ _ _; first | refine r_idx0 hG Y Y Y Y Y Y Y ?_ | refine r_idxn hG Y Y Y Y Y Y Y (by omega) ?_ | refine r_idxm hG Y Y Y Y Y Y Y (by omega) ?_ | refine r_idx hG Y Y ?_)
      | (show AOp _ _ ⟨_, .convert _ _ _, _, _, _, _⟩ _ _ _; first | refine r_cv8 hG Y Y Y Y Y Y ?_ | refine A2 hG Y Y Y Y Y (by omega) ?_ | refine r_cv_u16 hG Y Y Y Y Y (by omega) ?_ | refine r_cvw hG Y Y Y Y Y ?_)
      | (show AOp _ _ ⟨_, .slice _ _ _ _ _, _, _, _, _⟩ _ _ _; first | refine r_sl_lon hG Y Y Y Y Y Y Y (by omega) ?_ | refine r_sl_lo hG Y Y Y Y Y Y Y (by omega) ?_ | refine r_sl hG Y Y ?_)
      | (show AOp _ _ ⟨_, .pick _ _ _, _, _, _, _⟩ _ _ _; refine r_pick hG Y Y Y ?_)
      | (show AOp _ _ ⟨_, .unOp _ _ _, _, _, _, _⟩ _ _ _; refine r_not hG Y Y Y ?_)
      | (show AOp _ _ ⟨_, .buildSlice _ _ _, _, _, _, _⟩ _ _ _; first | refine r_mk (sz := 2) hG Y Y Y Y Y Y Y ?_)
      | (show AOp _ _ ⟨_, .build _ _, _, _, _, _⟩ _ _ _; refine r_build hG Y Y Y Y Y ?_)
      | (show AOp _ _ ⟨_, .alloc _, _, _, _, _⟩ _ _ _; refine r_alloc hG Y Y (fun i => ?_))
      | (show AOp _ _ ⟨_, .store _ _ _, _, _, _, _⟩ _ _ _; first | refine r_st 0 hG Y Y Y Y Y Y Y ?_ | refine r_st 1 hG Y Y Y Y Y Y Y ?_ | refine r_st 2 hG Y Y Y Y Y Y Y ?_)
      | (show AOp _ _ ⟨_, .call ⟨.builtin .append, _, _⟩, _, _, _, _⟩ _ _ _; first | refine r_app0m (sz := 1) (xs := []) hG Y Y Y Y Y Y Y ⟨_, Y⟩ Y Y Y Y Y Y Y (by first | omega | (simp; omega)) (fun k => ?_) | refine r_appm 0 hG Y Y Y Y Y Y Y ⟨_, Y⟩ Y Y Y Y Y (by first | omega | (simp only [List.length_append, List.length_cons, List.length_nil]; omega)) (fun k => ?_) | fail)
      | refine r_q hG Y Y Y ?_); exact kk)
    | refine dq_d Y Y Y (fun σ hσ K kt kf => by obtain ⟨R, rfl⟩ := hσ; exact r_cmp hG Y Y Y Y Y kt kf) (fun h => ?_) (fun h => ?_)
    | refine dq_d Y Y Y (fun σ hσ K kt kf => by obtain ⟨R, rfl⟩ := hσ; exact r_str hG Y Y Y Y kt kf) (fun h => ?_) (fun h => ?_)
    | refine dq_s Y Y Y Y ?_ | refine dq_e Y ?_ | (refine dq_nil ?_; show EL _ _ _ _ _ _ _ _ _) | refine el_s ⟨_, Y⟩ Y Y Y Y ?_
    | ((first | refine el_cons ⟨_, Y⟩ Y Y Y (fun K ke => ?_) | refine el_consN ⟨_, Y⟩ Y Y Y (fun K ke => ?_)); (first
      | (show AOp _ _ ⟨_, .move _, _, _, _, _⟩ _ _ _; refine r_move hG Y Y ?_)
      | (show AOp _ _ ⟨_, .assign _, _, _, _, _⟩ _ _ _; refine r_asg hG Y Y ?_)
      | (show AOp _ _ ⟨_, .call ⟨.builtin .len, _, _⟩, _, _, _, _⟩ _ _ _; first | refine r_lenm hG Y Y Y Y ?_ | refine r_len hG Y Y Y Y Y ?_)
      | (show AOp _ _ ⟨_, .binOp .add _ _ _ _, _, _, _, _⟩ _ _ _; first | refine Ap hG Y Y Y Y Y (by omega) ?_)
      | (show AOp _ _ ⟨_, .binOp .sub _ _ _ _, _, _, _, _⟩ _ _ _; first | refine Ap hG Y Y Y Y Y (by omega) ?_)
      | (show AOp _ _ ⟨_, .binOp .mul _ _ _ _, _, _, _, _⟩ _ _ _; first | refine Ap hG Y Y Y Y Y (by omega) ?_)
      | (show AOp _ _ ⟨_, .binOp _ _ _ _ _, _, _, _, _⟩ _ _ _; first | refine r_cmpT hG Y Y Y Y Y (by omega) ?_ | refine r_cmpF hG Y Y Y Y Y (by omega) ?_)
      | (show AOp _ _ ⟨_, .load _ _, _, _, _, _⟩ _ _ _; first | refine r_ldro hG Y Y Y ?_ | refine r_ld 0 hG Y Y Y Y ?_ | refine r_ld 1 hG Y Y Y Y ?_ | refine r_ld 2 hG Y Y Y Y ?_)
      | (show AOp _ _ ⟨_, .indexAddr _ _ _, _, _, _, _⟩ _ _ _; first | refine r_idx0 hG Y Y Y Y Y Y Y ?_ | refine r_idxn hG Y Y Y Y Y Y Y (by omega) ?_ | refine r_idxm hG Y Y Y Y Y Y Y (by omega) ?_ | refine r_idx hG Y Y ?_)
      | (show AOp _ _ ⟨_, .convert _ _ _, _, _, _, _⟩ _ _ _; first | refine r_cv8 hG Y Y Y Y Y Y ?_ | refine A2 hG Y Y Y Y Y (by omega) ?_ | refine r_cv_u16 hG Y Y Y Y Y (by omega) ?_ | refine r_cvw hG Y Y Y Y Y ?_)
      | (show AOp _ _ ⟨_, .slice _ _ _ _ _, _, _, _, _⟩ _ _ _; first | refine r_sl_lon hG Y Y Y Y Y Y Y (by omega) ?_ | refine r_sl_lo hG Y Y Y Y Y Y Y (by omega) ?_ | refine r_sl hG Y Y ?_)
      | (show AOp _ _ ⟨_, .pick _ _ _, _, _, _, _⟩ _ _ _; refine r_pick hG Y Y Y ?_)
      | (show AOp _ _ ⟨_, .unOp _ _ _, _, _, _, _⟩ _ _ _; refine r_not hG Y Y Y ?_)
      | (show AOp _ _ ⟨_, .buildSlice _ _ _, _, _, _, _⟩ _ _ _; first | refine r_mk (sz := 2) hG Y Y Y Y Y Y Y ?_)
      | (show AOp _ _ ⟨_, .build _ _, _, _, _, _⟩ _ _ _; refine r_build hG Y Y Y Y Y ?_)
      | (show AOp _ _ ⟨_, .alloc _, _, _, _, _⟩ _ _ _; refine r_alloc hG Y Y (fun i => ?_))
      | (show AOp _ _ ⟨_, .store _ _ _, _, _, _, _⟩ _ _ _; first | refine r_st 0 hG Y Y Y Y Y Y Y ?_ | refine r_st 1 hG Y Y Y Y Y Y Y ?_ | refine r_st 2 hG Y Y Y Y Y Y Y ?_)
      | (show AOp _ _ ⟨_, .call ⟨.builtin .append, _, _⟩, _, _, _, _⟩ _ _ _; first | refine r_app0m (sz := 1) (xs := []) hG Y Y Y Y Y Y Y ⟨_, Y⟩ Y Y Y Y Y Y Y (by first | omega | (simp; omega)) (fun k => ?_) | refine r_appm 0 hG Y Y Y Y Y Y Y ⟨_, Y⟩ Y Y Y Y Y (by first | omega | (simp only [List.length_append, List.length_cons, List.length_nil]; omega)) (fun k => ?_) | fail)
      | refine r_q hG Y Y Y ?_); refine ke _ _ ?_)
    | (refine el_nil ⟨_, Y⟩ ?_; show AL _ _ _ _ _ _ _ _) | fail)
      refine el_cons ⟨(_, _), rfl⟩ rfl rfl rfl (fun K ke => ?_)
      refine r_ld 0 hG rfl rfl rfl rfl ?_
      refine ke _ _ ?_
      refine el_cons ⟨(_, _), rfl⟩ rfl rfl rfl (fun K ke => ?_)
      refine r_appm 0 (sz := 2) (f := pT) (xs := labL b i) (ys := [prAt b (2 + 3 * i)]) hG rfl rfl rfl rfl rfl rfl rfl ⟨_, rfl⟩ rfl rfl rfl rfl (congrArg (fun t => [t]) hpt) (by simp; omega) (fun k2 => ?_)
      refine ke _ _ ?_
      refine el_consN ⟨(_, _), rfl⟩ rfl rfl rfl (fun K ke => ?_)
      refine r_st 0 hG rfl rfl rfl rfl rfl rfl rfl ?_
      refine ke (.tup []) _ ?_
      refine el_nil ⟨(_, _), rfl⟩ ?_
      show AL _ _ _ _ _ _ _ _
      repeat' (first | (show AL _ _ _ _ _ _ _ _; first | refine so0 ?_ | (refine sa ?_; intro k) | (refine sb ?_; intro i)) | (show DL _ _ _ _ _ _ _; first | refine do0 ?_) | (show AW _ _ _ _ _ _; first | (show AW _ _ (.region _ _ _) _ _ _; refine sc0 ?_; intro O1) | (refine sc0 ?_; try intro Q1)) | (show (_ → _) ∧ _; refine ⟨fun h => ?_, fun h => ?_⟩) | fail)
      refine ⟨⟨i + 1, q, q2, some k2, by omega, (fun h => by cases h)⟩, by dsimp only; omega, ?_, ?_⟩
      · exact .cons rfl (.cons rfl (.cons rfl (.consW rfl (.int (by simp)) (.nil _))))
      · dsimp only; rw [labL_succ]; exact .refl _
  · obtain rfl : i = (b.getD 1 default).toNat := by omega
    have hM := ref_MayLab (df := b.getD 0 default) (l := labL b (b.getD 1 default).toNat) (by omega)
    cases k with
    | none =>
      dsimp only
      have h0 := hk rfl
      rw [h0] at hM hT
      have hM1 := Pure.weak hM (ts := [.agg [bT (b.getD 0 default), .nilsl]]) (wk1 (Wk.aggL (wk2 (.refl _) (.nil 2))))
      cases hm : mayLab (b.getD 0 default) (labL b 0) <;> rw [hm] at hM1 hT
      · rw [if_neg Bool.false_ne_true] at hT
        repeat' (first | (show AL _ _ _ _ _ _ _ _; first | refine so0 ?_ | refine sp Y Y Y Y Y Y (by apply hM1 <;> exact sd) ?_ | (refine sa ?_; intro k) | (refine sb ?_; intro i)) | (show DL _ _ _ _ _ _ _; first | refine do0 ?_ | refine dp Y Y Y Y Y Y Y (by apply hM1 <;> exact sd) ?_) | (show AW _ _ _ _ _ _; first | (show AW _ _ (.region _ _ _) _ _ _; refine sc0 ?_; intro O1) | (refine sc0 ?_; try intro Q1)) | (show (_ → _) ∧ _; refine ⟨fun h => ?_, fun h => ?_⟩) | fail)
        refine Ag (res_cellM rfl hs (by exact rfl) (Ab rfl (Ab rfl Ac))) ?_ rfl
        rw [hT]
        exact Wk.tupL (wk3 (Wk.aggL (wk2 (.refl _) (.nil 2))) (.refl _) (.refl _))
      · rw [if_pos rfl] at hT
        repeat' (first | (show AL _ _ _ _ _ _ _ _; first | refine so0 ?_ | refine sp Y Y Y Y Y Y (by apply hM1 <;> exact sd) ?_ | (refine sa ?_; intro k) | (refine sb ?_; intro i)) | (show DL _ _ _ _ _ _ _; first | refine do0 ?_ | refine dp Y Y Y Y Y Y Y (by apply hM1 <;> exact sd) ?_) | (show AW _ _ _ _ _ _; (fail_if_success show AW _ _ (.region 11 _ _) _ _ _); first | (show AW _ _ (.region _ _ _) _ _ _; refine sc0 ?_; intro O1) | (refine sc0 ?_; try intro Q1)) | (show (_ → _) ∧ _; refine ⟨fun h => ?_, fun h => ?_⟩) | fail)
        refine aw_drawE' (m := 7) [6] (Cont [(q, .cells [bT (b.getD 0 default), .nilsl])]) mix Y (by repeat (first | exact Sp.zero _ | apply Sp.succ)) ?_; intro O1 F1 Z1 Q2; repeat' (first | (show DQ _ _ _ _ _ _ _ _ _; first | refine ep0 ?_) | (show EL _ _ _ _ _ _ _ _ _; first | refine eqc ?_ | (refine ec ?_; intro i)) | (show (_ → _) ∧ _; refine ⟨fun h => ?_, fun h => ?_⟩) | fail)
        refine el_consN (Cont.of rfl hs) rfl rfl rfl (fun K ke => ?_)
        refine r_st 1 hG rfl rfl rfl rfl rfl rfl rfl ?_
        refine ke (.tup []) _ ?_
        refine eqc ?_
        repeat' (first | (show AL _ _ _ _ _ _ _ _; first | refine so0 ?_ | (refine sa ?_; intro k) | (refine sb ?_; intro i)) | (show DL _ _ _ _ _ _ _; first | refine do0 ?_) | (show AW _ _ _ _ _ _; first | (show AW _ _ (.region _ _ _) _ _ _; refine sc0 ?_; intro O1) | (refine sc0 ?_; try intro Q1)) | (show (_ → _) ∧ _; refine ⟨fun h => ?_, fun h => ?_⟩) | fail)
        refine Ag (res_cellM rfl hs (by exact rfl) (Ab rfl (Ab rfl Ac))) ?_ rfl
        rw [hT]
        exact Wk.tupL (wk3 (Wk.aggL (wk2 (.refl _) (.nil 2))) (.int (by simp)) (.refl _))
    | some k =>
      dsimp only
      have hM1 := Pure.weak hM (ts := [.agg [bT (b.getD 0 default), .sl 2 (.tok k) ((labL b (b.getD 1 default).toNat).map pT)]]) (wk1 (Wk.aggL (wk2 (.refl _) (Wk.own _ _ _))))
      cases hm : mayLab (b.getD 0 default) (labL b (b.getD 1 default).toNat) <;> rw [hm] at hM1 hT
      · rw [if_neg Bool.false_ne_true] at hT
        repeat' (first | (show AL _ _ _ _ _ _ _ _; first | refine so0 ?_ | refine sp Y Y Y Y Y Y (by apply hM1 <;> exact sd) ?_ | (refine sa ?_; intro k) | (refine sb ?_; intro i)) | (show DL _ _ _ _ _ _ _; first | refine do0 ?_ | refine dp Y Y Y Y Y Y Y (by apply hM1 <;> exact sd) ?_) | (show AW _ _ _ _ _ _; first | (show AW _ _ (.region _ _ _) _ _ _; refine sc0 ?_; intro O1) | (refine sc0 ?_; try intro Q1)) | (show (_ → _) ∧ _; refine ⟨fun h => ?_, fun h => ?_⟩) | fail)
        refine Ag (res_cellM rfl hs (by exact rfl) (Ab rfl (Ab rfl Ac))) ?_ rfl
        rw [hT]
        exact Wk.tupL (wk3 (Wk.aggL (wk2 (.refl _) (.nil 2))) (.refl _) (.refl _))
      · rw [if_pos rfl] at hT
        repeat' (first | (show AL _ _ _ _ _ _ _ _; first | refine so0 ?_ | refine sp Y Y Y Y Y Y (by apply hM1 <;> exact sd) ?_ | (refine sa ?_; intro k) | (refine sb ?_; intro i)) | (show DL _ _ _ _ _ _ _; first | refine do0 ?_ | refine dp Y Y Y Y Y Y Y (by apply hM1 <;> exact sd) ?_) | (show AW _ _ _ _ _ _; (fail_if_success show AW _ _ (.region 11 _ _) _ _ _); first | (show AW _ _ (.region _ _ _) _ _ _; refine sc0 ?_; intro O1) | (refine sc0 ?_; try intro Q1)) | (show (_ → _) ∧ _; refine ⟨fun h => ?_, fun h => ?_⟩) | fail)
        refine aw_drawE' (m := 7) [6] (Cont [(q, .cells [bT (b.getD 0 default), .sl 2 (.tok k) ((labL b (b.getD 1 default).toNat).map pT)])]) mix Y (by repeat (first | exact Sp.zero _ | apply Sp.succ)) ?_; intro O1 F1 Z1 Q2; repeat' (first | (show DQ _ _ _ _ _ _ _ _ _; first | refine ep0 ?_) | (show EL _ _ _ _ _ _ _ _ _; first | refine eqc ?_ | (refine ec ?_; intro i)) | (show (_ → _) ∧ _; refine ⟨fun h => ?_, fun h => ?_⟩) | fail)
        refine el_consN (Cont.of rfl hs) rfl rfl rfl (fun K ke => ?_)
        refine r_st 1 hG rfl rfl rfl rfl rfl rfl rfl ?_
        refine ke (.tup []) _ ?_
        refine eqc ?_
        repeat' (first | (show AL _ _ _ _ _ _ _ _; first | refine so0 ?_ | (refine sa ?_; intro k) | (refine sb ?_; intro i)) | (show DL _ _ _ _ _ _ _; first | refine do0 ?_) | (show AW _ _ _ _ _ _; first | (show AW _ _ (.region _ _ _) _ _ _; refine sc0 ?_; intro O1) | (refine sc0 ?_; try intro Q1)) | (show (_ → _) ∧ _; refine ⟨fun h => ?_, fun h => ?_⟩) | fail)
        refine Ag (res_cellM rfl hs (by exact rfl) (Ab rfl (Ab rfl Ac))) ?_ rfl
        rw [hT]
        exact Wk.tupL (wk3 (Wk.aggL (wk2 (.refl _) (Wk.own _ _ _))) (.int (by simp [labL_len])) (.refl _))
end Go.Proofs.Ythfgocinlbogeaa
