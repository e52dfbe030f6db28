/- num: what its functions come to. -/
import Derived.Test.YtjcfhhepnjmchaaTrI
import Derived.Test.YtjcfhhepnjmchaaTab
namespace Go.Proofs.Ytjcfhhepnjmchaa
open Go.Tr
attribute [local irreducible] Go.Tr.AW Go.Tr.AOps Go.Tr.AL Go.Tr.AOp Go.Tr.ACalls
theorem clone_any (own) (xs : List T) (σ : St) (hs : Scal xs) (hl : xs.length ≤ 4294967296) :
    ACalls Try.prog 46 [.sl 1 own xs] σ (fun r σ' => ∃ own', Fresh σ own' ∧ r = .sl 1 (some own') xs ∧ σ' = σ.sp own') := by
  refine acalls_mk hG Try.func46 rfl rfl rfl rfl rfl ?_
  repeat' (first
    | (refine al_cons rfl ?_; first
      | refine op_m (d := some _) hG rfl rfl rfl rfl ?_
      | refine op_d (d := some _) hG rfl rfl rfl rfl (fun h => ?_) (fun h => ?_) | refine op_e (d := some _) hG rfl rfl rfl rfl (fun h => ?_) (fun h => ?_) | refine op_ne (d := some _) hG rfl rfl rfl rfl (fun h => ?_) (fun h => ?_) | refine op_beq (d := some _) hG rfl rfl rfl rfl (fun h => ?_) (fun h => ?_)
      | refine op_rem (d := some _) hG rfl rfl rfl rfl rfl rfl (by omega) ?_ | refine op_w (d := some _) hG rfl rfl rfl rfl (by omega) ?_ | refine op_wu (d := some _) hG rfl rfl rfl rfl (by omega) ?_ | refine op_w16 (d := some _) hG rfl rfl rfl rfl (by omega) ?_ | refine op_w8 (d := some _) hG rfl rfl rfl rfl (by omega) ?_
      | refine op_q (d := some _) hG rfl rfl rfl ?_)
    | refine al_s (d := some _) rfl rfl rfl ?_ | (refine al_nil ?_; show AW _ _ _ _ _ _) | refine aw_seq ?_ | refine aw_regL ?_ | refine aw_if_t rfl ?_ | refine aw_if_f rfl ?_
    | (refine aw_skip ?_; show AW _ _ _ _ _ _) | refine aw_block ?_ | (refine aw_exit ?_; show AW _ _ _ _ _ _) | (refine aw_goto ?_; try dsimp only [thenA, inBlockA, jumpA, noGotoA]) | (refine aw_ret ?_; try dsimp only [thenA, inBlockA, jumpA, noGotoA]))
  refine al_cons rfl (op_eqnil (d := some _) hG rfl rfl rfl rfl rfl rfl rfl rfl (fun b hb => ?_))
  cases b with
  | true =>
    repeat' (first
    | (refine al_cons rfl ?_; first
      | refine op_m (d := some _) hG rfl rfl rfl rfl ?_
      | refine op_d (d := some _) hG rfl rfl rfl rfl (fun h => ?_) (fun h => ?_) | refine op_e (d := some _) hG rfl rfl rfl rfl (fun h => ?_) (fun h => ?_) | refine op_ne (d := some _) hG rfl rfl rfl rfl (fun h => ?_) (fun h => ?_) | refine op_beq (d := some _) hG rfl rfl rfl rfl (fun h => ?_) (fun h => ?_)
      | refine op_rem (d := some _) hG rfl rfl rfl rfl rfl rfl (by omega) ?_ | refine op_w (d := some _) hG rfl rfl rfl rfl (by omega) ?_ | refine op_wu (d := some _) hG rfl rfl rfl rfl (by omega) ?_ | refine op_w16 (d := some _) hG rfl rfl rfl rfl (by omega) ?_ | refine op_w8 (d := some _) hG rfl rfl rfl rfl (by omega) ?_
      | refine op_q (d := some _) hG rfl rfl rfl ?_)
    | refine al_s (d := some _) rfl rfl rfl ?_ | (refine al_nil ?_; show AW _ _ _ _ _ _) | refine aw_seq ?_ | refine aw_regL ?_ | refine aw_if_t rfl ?_ | refine aw_if_f rfl ?_
    | (refine aw_skip ?_; show AW _ _ _ _ _ _) | refine aw_block ?_ | (refine aw_exit ?_; show AW _ _ _ _ _ _) | (refine aw_goto ?_; try dsimp only [thenA, inBlockA, jumpA, noGotoA]) | (refine aw_ret ?_; try dsimp only [thenA, inBlockA, jumpA, noGotoA]))
    refine aw_ret' _ rfl (Wk.nil0 1) ⟨(0, 0, 0), .inl rfl, ?_, rfl⟩
    rw [hb rfl]
  | false =>
    repeat' (first
    | (refine al_cons rfl ?_; first
      | refine op_m (d := some _) hG rfl rfl rfl rfl ?_
      | refine op_d (d := some _) hG rfl rfl rfl rfl (fun h => ?_) (fun h => ?_) | refine op_e (d := some _) hG rfl rfl rfl rfl (fun h => ?_) (fun h => ?_) | refine op_ne (d := some _) hG rfl rfl rfl rfl (fun h => ?_) (fun h => ?_) | refine op_beq (d := some _) hG rfl rfl rfl rfl (fun h => ?_) (fun h => ?_)
      | refine op_rem (d := some _) hG rfl rfl rfl rfl rfl rfl (by omega) ?_ | refine op_w (d := some _) hG rfl rfl rfl rfl (by omega) ?_ | refine op_wu (d := some _) hG rfl rfl rfl rfl (by omega) ?_ | refine op_w16 (d := some _) hG rfl rfl rfl rfl (by omega) ?_ | refine op_w8 (d := some _) hG rfl rfl rfl rfl (by omega) ?_
      | refine op_q (d := some _) hG rfl rfl rfl ?_)
    | refine al_s (d := some _) rfl rfl rfl ?_ | (refine al_nil ?_; show AW _ _ _ _ _ _) | refine aw_seq ?_ | refine aw_regL ?_ | refine aw_if_t rfl ?_ | refine aw_if_f rfl ?_
    | (refine aw_skip ?_; show AW _ _ _ _ _ _) | refine aw_block ?_ | (refine aw_exit ?_; show AW _ _ _ _ _ _) | (refine aw_goto ?_; try dsimp only [thenA, inBlockA, jumpA, noGotoA]) | (refine aw_ret ?_; try dsimp only [thenA, inBlockA, jumpA, noGotoA]))
    refine al_cons rfl (op_mkslice (d := some _) hG rfl rfl rfl rfl rfl rfl rfl rfl ?_)
    repeat' (first
    | (refine al_cons rfl ?_; first
      | refine op_m (d := some _) hG rfl rfl rfl rfl ?_
      | refine op_d (d := some _) hG rfl rfl rfl rfl (fun h => ?_) (fun h => ?_) | refine op_e (d := some _) hG rfl rfl rfl rfl (fun h => ?_) (fun h => ?_) | refine op_ne (d := some _) hG rfl rfl rfl rfl (fun h => ?_) (fun h => ?_) | refine op_beq (d := some _) hG rfl rfl rfl rfl (fun h => ?_) (fun h => ?_)
      | refine op_rem (d := some _) hG rfl rfl rfl rfl rfl rfl (by omega) ?_ | refine op_w (d := some _) hG rfl rfl rfl rfl (by omega) ?_ | refine op_wu (d := some _) hG rfl rfl rfl rfl (by omega) ?_ | refine op_w16 (d := some _) hG rfl rfl rfl rfl (by omega) ?_ | refine op_w8 (d := some _) hG rfl rfl rfl rfl (by omega) ?_
      | refine op_q (d := some _) hG rfl rfl rfl ?_)
    | refine al_s (d := some _) rfl rfl rfl ?_ | (refine al_nil ?_; show AW _ _ _ _ _ _) | refine aw_seq ?_ | refine aw_regL ?_ | refine aw_if_t rfl ?_ | refine aw_if_f rfl ?_
    | (refine aw_skip ?_; show AW _ _ _ _ _ _) | refine aw_block ?_ | (refine aw_exit ?_; show AW _ _ _ _ _ _) | (refine aw_goto ?_; try dsimp only [thenA, inBlockA, jumpA, noGotoA]) | (refine aw_ret ?_; try dsimp only [thenA, inBlockA, jumpA, noGotoA]))
    refine al_cons rfl (op_append (d := some _) hG (σ0 := σ) rfl rfl rfl rfl rfl ⟨_, rfl⟩ rfl rfl rfl rfl rfl (.inl rfl) hs (by simpa using hl) rfl rfl (fun own' hf => ?_))
    repeat' (first
    | (refine al_cons rfl ?_; first
      | refine op_m (d := some _) hG rfl rfl rfl rfl ?_
      | refine op_d (d := some _) hG rfl rfl rfl rfl (fun h => ?_) (fun h => ?_) | refine op_e (d := some _) hG rfl rfl rfl rfl (fun h => ?_) (fun h => ?_) | refine op_ne (d := some _) hG rfl rfl rfl rfl (fun h => ?_) (fun h => ?_) | refine op_beq (d := some _) hG rfl rfl rfl rfl (fun h => ?_) (fun h => ?_)
      | refine op_rem (d := some _) hG rfl rfl rfl rfl rfl rfl (by omega) ?_ | refine op_w (d := some _) hG rfl rfl rfl rfl (by omega) ?_ | refine op_wu (d := some _) hG rfl rfl rfl rfl (by omega) ?_ | refine op_w16 (d := some _) hG rfl rfl rfl rfl (by omega) ?_ | refine op_w8 (d := some _) hG rfl rfl rfl rfl (by omega) ?_
      | refine op_q (d := some _) hG rfl rfl rfl ?_)
    | refine al_s (d := some _) rfl rfl rfl ?_ | (refine al_nil ?_; show AW _ _ _ _ _ _) | refine aw_seq ?_ | refine aw_regL ?_ | refine aw_if_t rfl ?_ | refine aw_if_f rfl ?_
    | (refine aw_skip ?_; show AW _ _ _ _ _ _) | refine aw_block ?_ | (refine aw_exit ?_; show AW _ _ _ _ _ _) | (refine aw_goto ?_; try dsimp only [thenA, inBlockA, jumpA, noGotoA]) | (refine aw_ret ?_; try dsimp only [thenA, inBlockA, jumpA, noGotoA]))
    exact aw_ret' _ rfl (Wk.refl _) ⟨own', hf, rfl, rfl⟩

def be (v : Nat) : Nat → List UInt8
  | 0 => []
  | n + 1 => UInt8.ofNat (v / 2 ^ (8 * n)) :: be v n
def putN (v : Nat) (n : Int) : List UInt8 := if 0 ≤ n ∧ n ≤ 8 then be v n.toNat else []
theorem be_length (v n : Nat) : (be v n).length = n := by induction n <;> simp [be, *]
theorem bT_all : ∀ (b : List UInt8), (b.map bT).all T.scalar = true
  | [] => rfl
  | x :: b => by simp only [List.map_cons, List.all_cons, bT_all b]; rfl
theorem bT_scal (b : List UInt8) : Scal (b.map bT) := by
  intro c hc
  rw [(flat_scalar (bT_all b)).1] at hc
  exact List.all_eq_true.1 (bT_all b) c hc
theorem bT_get {b : List UInt8} {i : Nat} (h : i < b.length) : (b.map bT)[i]? = some (bT b[i]) := by simp [h]
theorem bT_of (n : Int) (k : Nat) (h : n = (k : Int)) : T.int .u8 (IntKind.u8.wrap n) = bT (UInt8.ofNat k) := by
  subst h; rw [u8_wrap]; unfold bT; congr 1

structure PutX (b : List UInt8) (v : Nat) (n : Int) (σ : St) where
  hn : 0 ≤ n ∧ n ≤ 8
  i : Nat
  pre : List UInt8
  own : Nat × Nat × Nat
  hi : i ≤ 8
  hl : pre.length ≤ 8
  hp : pre ++ be v i = be v n.toNat
  hf : Fresh σ own
theorem scal_one {x : T} (h : x.scalar = true) : Scal [x] := by
  intro c hc
  have : flat [x] = [x] := (flat_scalar (xs := [x]) (by simp [h])).1
  rw [this] at hc
  simp at hc; subst hc; exact h

theorem num_Put (own) (b : List UInt8) (v : Nat) (n : Int) (σ : St) (hl : b.length ≤ 4294967000) :
    ACalls Try.prog 26 [.sl 1 own (b.map bT), .int .u64 v, .int .i64 n] σ (fun r σ' => ∃ own', Fresh σ own' ∧ r = .sl 1 (some own') ((b ++ putN v n).map bT) ∧ σ' = σ.sp own') := by
  refine acalls_mk hG Try.func26 rfl rfl rfl rfl rfl ?_
  repeat' (first
    | (refine al_cons rfl ?_; first
      | refine op_m (d := some _) hG rfl rfl rfl rfl ?_
      | refine op_d (d := some _) hG rfl rfl rfl rfl (fun h => ?_) (fun h => ?_) | refine op_e (d := some _) hG rfl rfl rfl rfl (fun h => ?_) (fun h => ?_) | refine op_ne (d := some _) hG rfl rfl rfl rfl (fun h => ?_) (fun h => ?_) | refine op_beq (d := some _) hG rfl rfl rfl rfl (fun h => ?_) (fun h => ?_)
      | refine op_rem (d := some _) hG rfl rfl rfl rfl rfl rfl (by omega) ?_ | refine op_w (d := some _) hG rfl rfl rfl rfl (by omega) ?_ | refine op_wu (d := some _) hG rfl rfl rfl rfl (by omega) ?_ | refine op_w16 (d := some _) hG rfl rfl rfl rfl (by omega) ?_ | refine op_w8 (d := some _) hG rfl rfl rfl rfl (by omega) ?_
      | refine op_q (d := some _) hG rfl rfl rfl ?_)
    | refine al_s (d := some _) rfl rfl rfl ?_ | (refine al_nil ?_; show AW _ _ _ _ _ _) | refine aw_seq ?_ | refine aw_regL ?_ | refine aw_if_t rfl ?_ | refine aw_if_f rfl ?_
    | (refine aw_skip ?_; show AW _ _ _ _ _ _) | refine aw_block ?_ | (refine aw_exit ?_; show AW _ _ _ _ _ _) | (refine aw_goto ?_; try dsimp only [thenA, inBlockA, jumpA, noGotoA]) | (refine aw_ret ?_; try dsimp only [thenA, inBlockA, jumpA, noGotoA]))
  refine aw_scope' 0 rfl (X := PutX b v n σ) (fun x => [(1, .int .u64 v), (7, .sl 1 (some x.own) ((b ++ x.pre).map bT)), (8, .int .i64 x.i)]) (fun x => σ.sp x.own) (fun x => x.i) ?_ ?_
  · rintro ⟨hn, i, pre, own, hi, hpl, hp, hf⟩
    dsimp only
    repeat' (first
    | (refine al_cons rfl ?_; first
      | refine op_m (d := some _) hG rfl rfl rfl rfl ?_
      | refine op_d (d := some _) hG rfl rfl rfl rfl (fun h => ?_) (fun h => ?_) | refine op_e (d := some _) hG rfl rfl rfl rfl (fun h => ?_) (fun h => ?_) | refine op_ne (d := some _) hG rfl rfl rfl rfl (fun h => ?_) (fun h => ?_) | refine op_beq (d := some _) hG rfl rfl rfl rfl (fun h => ?_) (fun h => ?_)
      | refine op_rem (d := some _) hG rfl rfl rfl rfl rfl rfl (by omega) ?_ | refine op_w (d := some _) hG rfl rfl rfl rfl (by omega) ?_ | refine op_wu (d := some _) hG rfl rfl rfl rfl (by omega) ?_ | refine op_w16 (d := some _) hG rfl rfl rfl rfl (by omega) ?_ | refine op_w8 (d := some _) hG rfl rfl rfl rfl (by omega) ?_
      | refine op_q (d := some _) hG rfl rfl rfl ?_)
    | refine al_s (d := some _) rfl rfl rfl ?_ | (refine al_nil ?_; show AW _ _ _ _ _ _) | refine aw_seq ?_ | refine aw_regL ?_ | refine aw_if_t rfl ?_ | refine aw_if_f rfl ?_
    | (refine aw_skip ?_; show AW _ _ _ _ _ _) | refine aw_block ?_ | (refine aw_exit ?_; show AW _ _ _ _ _ _) | (refine aw_goto ?_; try dsimp only [thenA, inBlockA, jumpA, noGotoA]) | (refine aw_ret ?_; try dsimp only [thenA, inBlockA, jumpA, noGotoA]))
    · obtain ⟨j, rfl⟩ : ∃ j, i = j + 1 := ⟨i - 1, by omega⟩
      have hpl2 : pre.length + (j + 1) = n.toNat := by have := congrArg List.length hp; simpa [be_length] using this
      refine al_cons rfl (op_shr (d := some _) hG rfl rfl rfl rfl rfl rfl (by omega) ?_)
      repeat' (first
    | (refine al_cons rfl ?_; first
      | refine op_m (d := some _) hG rfl rfl rfl rfl ?_
      | refine op_d (d := some _) hG rfl rfl rfl rfl (fun h => ?_) (fun h => ?_) | refine op_e (d := some _) hG rfl rfl rfl rfl (fun h => ?_) (fun h => ?_) | refine op_ne (d := some _) hG rfl rfl rfl rfl (fun h => ?_) (fun h => ?_) | refine op_beq (d := some _) hG rfl rfl rfl rfl (fun h => ?_) (fun h => ?_)
      | refine op_rem (d := some _) hG rfl rfl rfl rfl rfl rfl (by omega) ?_ | refine op_w (d := some _) hG rfl rfl rfl rfl (by omega) ?_ | refine op_wu (d := some _) hG rfl rfl rfl rfl (by omega) ?_ | refine op_w16 (d := some _) hG rfl rfl rfl rfl (by omega) ?_ | refine op_w8 (d := some _) hG rfl rfl rfl rfl (by omega) ?_
      | refine op_q (d := some _) hG rfl rfl rfl ?_)
    | refine al_s (d := some _) rfl rfl rfl ?_ | (refine al_nil ?_; show AW _ _ _ _ _ _) | refine aw_seq ?_ | refine aw_regL ?_ | refine aw_if_t rfl ?_ | refine aw_if_f rfl ?_
    | (refine aw_skip ?_; show AW _ _ _ _ _ _) | refine aw_block ?_ | (refine aw_exit ?_; show AW _ _ _ _ _ _) | (refine aw_goto ?_; try dsimp only [thenA, inBlockA, jumpA, noGotoA]) | (refine aw_ret ?_; try dsimp only [thenA, inBlockA, jumpA, noGotoA]))
      refine al_cons rfl (op_mkslice (d := some _) hG rfl rfl rfl rfl rfl rfl rfl rfl ?_)
      repeat' (first
    | (refine al_cons rfl ?_; first
      | refine op_m (d := some _) hG rfl rfl rfl rfl ?_
      | refine op_d (d := some _) hG rfl rfl rfl rfl (fun h => ?_) (fun h => ?_) | refine op_e (d := some _) hG rfl rfl rfl rfl (fun h => ?_) (fun h => ?_) | refine op_ne (d := some _) hG rfl rfl rfl rfl (fun h => ?_) (fun h => ?_) | refine op_beq (d := some _) hG rfl rfl rfl rfl (fun h => ?_) (fun h => ?_)
      | refine op_rem (d := some _) hG rfl rfl rfl rfl rfl rfl (by omega) ?_ | refine op_w (d := some _) hG rfl rfl rfl rfl (by omega) ?_ | refine op_wu (d := some _) hG rfl rfl rfl rfl (by omega) ?_ | refine op_w16 (d := some _) hG rfl rfl rfl rfl (by omega) ?_ | refine op_w8 (d := some _) hG rfl rfl rfl rfl (by omega) ?_
      | refine op_q (d := some _) hG rfl rfl rfl ?_)
    | refine al_s (d := some _) rfl rfl rfl ?_ | (refine al_nil ?_; show AW _ _ _ _ _ _) | refine aw_seq ?_ | refine aw_regL ?_ | refine aw_if_t rfl ?_ | refine aw_if_f rfl ?_
    | (refine aw_skip ?_; show AW _ _ _ _ _ _) | refine aw_block ?_ | (refine aw_exit ?_; show AW _ _ _ _ _ _) | (refine aw_goto ?_; try dsimp only [thenA, inBlockA, jumpA, noGotoA]) | (refine aw_ret ?_; try dsimp only [thenA, inBlockA, jumpA, noGotoA]))
      refine al_cons rfl (op_append (d := some _) hG (σ0 := σ) rfl rfl rfl rfl rfl ⟨_, rfl⟩ rfl rfl rfl rfl rfl hf (scal_one rfl) (by simp; omega) rfl rfl (fun own' hf' => ?_))
      repeat' (first
    | (refine al_cons rfl ?_; first
      | refine op_m (d := some _) hG rfl rfl rfl rfl ?_
      | refine op_d (d := some _) hG rfl rfl rfl rfl (fun h => ?_) (fun h => ?_) | refine op_e (d := some _) hG rfl rfl rfl rfl (fun h => ?_) (fun h => ?_) | refine op_ne (d := some _) hG rfl rfl rfl rfl (fun h => ?_) (fun h => ?_) | refine op_beq (d := some _) hG rfl rfl rfl rfl (fun h => ?_) (fun h => ?_)
      | refine op_rem (d := some _) hG rfl rfl rfl rfl rfl rfl (by omega) ?_ | refine op_w (d := some _) hG rfl rfl rfl rfl (by omega) ?_ | refine op_wu (d := some _) hG rfl rfl rfl rfl (by omega) ?_ | refine op_w16 (d := some _) hG rfl rfl rfl rfl (by omega) ?_ | refine op_w8 (d := some _) hG rfl rfl rfl rfl (by omega) ?_
      | refine op_q (d := some _) hG rfl rfl rfl ?_)
    | refine al_s (d := some _) rfl rfl rfl ?_ | (refine al_nil ?_; show AW _ _ _ _ _ _) | refine aw_seq ?_ | refine aw_regL ?_ | refine aw_if_t rfl ?_ | refine aw_if_f rfl ?_
    | (refine aw_skip ?_; show AW _ _ _ _ _ _) | refine aw_block ?_ | (refine aw_exit ?_; show AW _ _ _ _ _ _) | (refine aw_goto ?_; try dsimp only [thenA, inBlockA, jumpA, noGotoA]) | (refine aw_ret ?_; try dsimp only [thenA, inBlockA, jumpA, noGotoA]))
      have hbyte : T.int IntKind.u8 (IntKind.u8.wrap ((v : Int) / 2 ^ (min (8 * (((j + 1 : Nat) : Int) - 1)).toNat IntKind.u64.bits))) = bT (UInt8.ofNat (v / 2 ^ (8 * j))) := by
        have : min (8 * (((j + 1 : Nat) : Int) - 1)).toNat IntKind.u64.bits = 8 * j := by simp [IntKind.bits]; omega
        rw [this]
        exact bT_of _ _ (by simp)
      refine ⟨rfl, ⟨hn, j, pre ++ [UInt8.ofNat (v / 2 ^ (8 * j))], own', by omega, by simp; omega, by rw [List.append_assoc]; exact hp, hf'⟩, by dsimp only; omega, ?_, rfl⟩
      refine .cons rfl (.consW rfl (.eq ?_) (.consW rfl (.int (by simp)) (.nil _)))
      show T.sl 1 (some own') ((b ++ pre).map bT ++ [_]) = _
      rw [hbyte]
      simp
    · have : i = 0 := by omega
      subst this
      simp only [be, List.append_nil] at hp
      refine aw_ret' _ rfl (Wk.refl _) ⟨own, hf, ?_, rfl⟩
      rw [hp, putN, if_pos hn]
  · intro key
    repeat' (first
    | (refine al_cons rfl ?_; first
      | refine op_m (d := some _) hG rfl rfl rfl rfl ?_
      | refine op_d (d := some _) hG rfl rfl rfl rfl (fun h => ?_) (fun h => ?_) | refine op_e (d := some _) hG rfl rfl rfl rfl (fun h => ?_) (fun h => ?_) | refine op_ne (d := some _) hG rfl rfl rfl rfl (fun h => ?_) (fun h => ?_) | refine op_beq (d := some _) hG rfl rfl rfl rfl (fun h => ?_) (fun h => ?_)
      | refine op_rem (d := some _) hG rfl rfl rfl rfl rfl rfl (by omega) ?_ | refine op_w (d := some _) hG rfl rfl rfl rfl (by omega) ?_ | refine op_wu (d := some _) hG rfl rfl rfl rfl (by omega) ?_ | refine op_w16 (d := some _) hG rfl rfl rfl rfl (by omega) ?_ | refine op_w8 (d := some _) hG rfl rfl rfl rfl (by omega) ?_
      | refine op_q (d := some _) hG rfl rfl rfl ?_)
    | refine al_s (d := some _) rfl rfl rfl ?_ | (refine al_nil ?_; show AW _ _ _ _ _ _) | refine aw_seq ?_ | refine aw_regL ?_ | refine aw_if_t rfl ?_ | refine aw_if_f rfl ?_
    | (refine aw_skip ?_; show AW _ _ _ _ _ _) | refine aw_block ?_ | (refine aw_exit ?_; show AW _ _ _ _ _ _) | (refine aw_goto ?_; try dsimp only [thenA, inBlockA, jumpA, noGotoA]) | (refine aw_ret ?_; try dsimp only [thenA, inBlockA, jumpA, noGotoA]))
    refine al_cons rfl (op_call (d := some _) rfl rfl rfl rfl rfl ?_)
    refine (clone_any own (b.map bT) σ (bT_scal b) (by simp; omega)).mono ?_
    rintro r σ' ⟨own', hf, rfl, rfl⟩
    repeat' (first
    | (refine al_cons rfl ?_; first
      | refine op_m (d := some _) hG rfl rfl rfl rfl ?_
      | refine op_d (d := some _) hG rfl rfl rfl rfl (fun h => ?_) (fun h => ?_) | refine op_e (d := some _) hG rfl rfl rfl rfl (fun h => ?_) (fun h => ?_) | refine op_ne (d := some _) hG rfl rfl rfl rfl (fun h => ?_) (fun h => ?_) | refine op_beq (d := some _) hG rfl rfl rfl rfl (fun h => ?_) (fun h => ?_)
      | refine op_rem (d := some _) hG rfl rfl rfl rfl rfl rfl (by omega) ?_ | refine op_w (d := some _) hG rfl rfl rfl rfl (by omega) ?_ | refine op_wu (d := some _) hG rfl rfl rfl rfl (by omega) ?_ | refine op_w16 (d := some _) hG rfl rfl rfl rfl (by omega) ?_ | refine op_w8 (d := some _) hG rfl rfl rfl rfl (by omega) ?_
      | refine op_q (d := some _) hG rfl rfl rfl ?_)
    | refine al_s (d := some _) rfl rfl rfl ?_ | (refine al_nil ?_; show AW _ _ _ _ _ _) | refine aw_seq ?_ | refine aw_regL ?_ | refine aw_if_t rfl ?_ | refine aw_if_f rfl ?_
    | (refine aw_skip ?_; show AW _ _ _ _ _ _) | refine aw_block ?_ | (refine aw_exit ?_; show AW _ _ _ _ _ _) | (refine aw_goto ?_; try dsimp only [thenA, inBlockA, jumpA, noGotoA]) | (refine aw_ret ?_; try dsimp only [thenA, inBlockA, jumpA, noGotoA]))
    · refine aw_ret' _ rfl (Wk.refl _) ⟨own', hf, ?_, rfl⟩
      rw [putN, if_neg (by omega), List.append_nil]
    · refine aw_ret' _ rfl (Wk.refl _) ⟨own', hf, ?_, rfl⟩
      rw [putN, if_neg (by omega), List.append_nil]
    · refine aw_label ?_
      show AW _ _ _ _ _ _
      refine aw_forget ?_ (key ⟨by omega, n.toNat, [], own', by omega, by simp, rfl, hf⟩)
      exact .cons rfl (.consW rfl (.eq (by simp)) (.consW rfl (.int (by simp; omega)) (.nil _)))

def beV (l : List UInt8) : Nat := l.foldl (fun a x => a * 256 + x.toNat) 0
theorem beV_snoc (l : List UInt8) (x : UInt8) : beV (l ++ [x]) = beV l * 256 + x.toNat := by simp [beV]
theorem beV_lt : ∀ n (l : List UInt8), l.length = n → beV l < 2 ^ (8 * n) := by
  intro n
  induction n with
  | zero => intro l h; simp at h; subst h; simp [beV]
  | succ n ih =>
    intro l h
    have hne : l ≠ [] := by intro h0; subst h0; simp at h
    have h1 : l = l.dropLast ++ [l.getLast hne] := (List.dropLast_concat_getLast hne).symm
    rw [h1, beV_snoc]
    have h2 := ih l.dropLast (by simp [h])
    have h3 : (l.getLast hne).toNat < 256 := UInt8.toNat_lt _
    have h4 : 2 ^ (8 * (n + 1)) = 2 ^ (8 * n) * 256 := by rw [show 8 * (n + 1) = 8 * n + 8 by omega, Nat.pow_add]
    rw [h4]; omega

theorem or_byte (v x : Nat) (hv : v * 256 < 2 ^ 64) (hx : x < 256) :
    IntKind.u64.wrap ((BitVec.ofInt IntKind.u64.bits (IntKind.u64.wrap ((v : Int) * 2 ^ (min (Int.toNat 8) IntKind.u64.bits))) ||| BitVec.ofInt IntKind.u64.bits (x : Int)).toNat) = ((v * 256 + x : Nat) : Int) := by
  have h8 : (2 : Int) ^ (min (Int.toNat 8) IntKind.u64.bits) = 256 := by simp [IntKind.bits]
  rw [h8, u64_in (n := (v : Int) * 256) (by omega) (by omega)]
  have e1 : BitVec.ofInt IntKind.u64.bits ((v : Int) * 256) = BitVec.ofNat 64 (v * 256) := by
    show BitVec.ofInt 64 _ = _
    rw [show (v : Int) * 256 = ((v * 256 : Nat) : Int) by simp, BitVec.ofInt_natCast]
  have e2 : BitVec.ofInt IntKind.u64.bits (x : Int) = BitVec.ofNat 64 x := by
    show BitVec.ofInt 64 _ = _
    rw [BitVec.ofInt_natCast]
  rw [e1, e2]
  have e3 : (BitVec.ofNat 64 (v * 256) ||| BitVec.ofNat 64 x).toNat = v * 256 + x := by
    rw [BitVec.toNat_or, BitVec.toNat_ofNat, BitVec.toNat_ofNat, Nat.mod_eq_of_lt hv, Nat.mod_eq_of_lt (by omega)]
    have := Nat.two_pow_add_eq_or_of_lt (i := 8) hx v
    rw [Nat.mul_comm v 256]
    exact this.symm
  have e4 : ((BitVec.ofNat 64 (v * 256) ||| BitVec.ofNat 64 x).toNat : Int) = ((v * 256 + x : Nat) : Int) := by rw [e3]
  refine (congrArg IntKind.u64.wrap e4).trans ?_
  rw [u64_in (by omega) (by omega)]

structure TakeX (b : List UInt8) (n : Int) where
  i : Nat
  hn : 0 ≤ n ∧ n ≤ 8 ∧ n ≤ b.length
  hi : i ≤ n.toNat

def takeE (b : List UInt8) (n : Int) : Nat × Int := if n < 0 ∨ 8 < n then (0, 1) else if (b.length : Int) < n then (0, 3) else (beV (b.take n.toNat), 0)

theorem num_Take (own) (b : List UInt8) (n : Int) (σ : St) :
    ACalls Try.prog 28 [.sl 1 own (b.map bT), .int .i64 n] σ (fun r σ' => r = .tup [.int .u64 (takeE b n).1, .int .i64 (takeE b n).2] ∧ σ' = σ) := by
  refine acalls_mk hG Try.func28 rfl rfl rfl rfl rfl ?_
  repeat' (first
    | (refine al_cons rfl ?_; first
      | refine op_m (d := some _) hG rfl rfl rfl rfl ?_
      | refine op_d (d := some _) hG rfl rfl rfl rfl (fun h => ?_) (fun h => ?_) | refine op_e (d := some _) hG rfl rfl rfl rfl (fun h => ?_) (fun h => ?_) | refine op_ne (d := some _) hG rfl rfl rfl rfl (fun h => ?_) (fun h => ?_) | refine op_beq (d := some _) hG rfl rfl rfl rfl (fun h => ?_) (fun h => ?_)
      | refine op_rem (d := some _) hG rfl rfl rfl rfl rfl rfl (by omega) ?_ | refine op_w (d := some _) hG rfl rfl rfl rfl (by omega) ?_ | refine op_wu (d := some _) hG rfl rfl rfl rfl (by omega) ?_ | refine op_w16 (d := some _) hG rfl rfl rfl rfl (by omega) ?_ | refine op_w8 (d := some _) hG rfl rfl rfl rfl (by omega) ?_
      | refine op_q (d := some _) hG rfl rfl rfl ?_)
    | refine al_s (d := some _) rfl rfl rfl ?_ | (refine al_nil ?_; show AW _ _ _ _ _ _) | refine aw_seq ?_ | refine aw_regL ?_ | refine aw_if_t rfl ?_ | refine aw_if_f rfl ?_
    | (refine aw_skip ?_; show AW _ _ _ _ _ _) | refine aw_block ?_ | (refine aw_exit ?_; show AW _ _ _ _ _ _) | (refine aw_goto ?_; try dsimp only [thenA, inBlockA, jumpA, noGotoA]) | (refine aw_ret ?_; try dsimp only [thenA, inBlockA, jumpA, noGotoA]))
  refine aw_scope' 0 rfl (X := TakeX b n) (fun x => [(0, .sl 1 own (b.map bT)), (1, .int .i64 n), (4, .int .u64 (beV (b.take x.i))), (6, .int .i64 x.i)]) (fun x => σ) (fun x => n.toNat - x.i) ?_ ?_
  · rintro ⟨i, hn, hi⟩
    dsimp only
    repeat' (first
    | (refine al_cons rfl ?_; first
      | refine op_m (d := some _) hG rfl rfl rfl rfl ?_
      | refine op_d (d := some _) hG rfl rfl rfl rfl (fun h => ?_) (fun h => ?_) | refine op_e (d := some _) hG rfl rfl rfl rfl (fun h => ?_) (fun h => ?_) | refine op_ne (d := some _) hG rfl rfl rfl rfl (fun h => ?_) (fun h => ?_) | refine op_beq (d := some _) hG rfl rfl rfl rfl (fun h => ?_) (fun h => ?_)
      | refine op_rem (d := some _) hG rfl rfl rfl rfl rfl rfl (by omega) ?_ | refine op_w (d := some _) hG rfl rfl rfl rfl (by omega) ?_ | refine op_wu (d := some _) hG rfl rfl rfl rfl (by omega) ?_ | refine op_w16 (d := some _) hG rfl rfl rfl rfl (by omega) ?_ | refine op_w8 (d := some _) hG rfl rfl rfl rfl (by omega) ?_
      | refine op_q (d := some _) hG rfl rfl rfl ?_)
    | refine al_s (d := some _) rfl rfl rfl ?_ | (refine al_nil ?_; show AW _ _ _ _ _ _) | refine aw_seq ?_ | refine aw_regL ?_ | refine aw_if_t rfl ?_ | refine aw_if_f rfl ?_
    | (refine aw_skip ?_; show AW _ _ _ _ _ _) | refine aw_block ?_ | (refine aw_exit ?_; show AW _ _ _ _ _ _) | (refine aw_goto ?_; try dsimp only [thenA, inBlockA, jumpA, noGotoA]) | (refine aw_ret ?_; try dsimp only [thenA, inBlockA, jumpA, noGotoA]))
    · have hib : i < b.length := by omega
      have hx := b[i].toNat_lt
      refine al_cons rfl (op_idx (d := some _) hG rfl rfl rfl rfl rfl rfl rfl rfl rfl (by omega) (bT_get hib) ?_)
      repeat' (first
    | (refine al_cons rfl ?_; first
      | refine op_m (d := some _) hG rfl rfl rfl rfl ?_
      | refine op_d (d := some _) hG rfl rfl rfl rfl (fun h => ?_) (fun h => ?_) | refine op_e (d := some _) hG rfl rfl rfl rfl (fun h => ?_) (fun h => ?_) | refine op_ne (d := some _) hG rfl rfl rfl rfl (fun h => ?_) (fun h => ?_) | refine op_beq (d := some _) hG rfl rfl rfl rfl (fun h => ?_) (fun h => ?_)
      | refine op_rem (d := some _) hG rfl rfl rfl rfl rfl rfl (by omega) ?_ | refine op_w (d := some _) hG rfl rfl rfl rfl (by omega) ?_ | refine op_wu (d := some _) hG rfl rfl rfl rfl (by omega) ?_ | refine op_w16 (d := some _) hG rfl rfl rfl rfl (by omega) ?_ | refine op_w8 (d := some _) hG rfl rfl rfl rfl (by omega) ?_
      | refine op_q (d := some _) hG rfl rfl rfl ?_)
    | refine al_s (d := some _) rfl rfl rfl ?_ | (refine al_nil ?_; show AW _ _ _ _ _ _) | refine aw_seq ?_ | refine aw_regL ?_ | refine aw_if_t rfl ?_ | refine aw_if_f rfl ?_
    | (refine aw_skip ?_; show AW _ _ _ _ _ _) | refine aw_block ?_ | (refine aw_exit ?_; show AW _ _ _ _ _ _) | (refine aw_goto ?_; try dsimp only [thenA, inBlockA, jumpA, noGotoA]) | (refine aw_ret ?_; try dsimp only [thenA, inBlockA, jumpA, noGotoA]))
      have hlt : beV (b.take i) < 2 ^ (8 * i) := beV_lt i _ (by simp; omega)
      have hpow : 2 ^ (8 * i) ≤ 2 ^ 56 := Nat.pow_le_pow_right (by omega) (by omega)
      have htk : b.take (i + 1) = b.take i ++ [b[i]] := by rw [List.take_succ_eq_append_getElem hib]
      refine ⟨rfl, ⟨i + 1, hn, by omega⟩, by dsimp only; omega, ?_, rfl⟩
      refine .cons rfl (.cons rfl (.consW rfl (.int ?_) (.consW rfl (.int (by simp)) (.nil _))))
      show _ = ((beV (b.take (i + 1)) : Nat) : Int)
      rw [htk, beV_snoc]
      exact or_byte _ _ (by omega) hx
    · refine aw_ret' _ rfl (Wk.refl _) ⟨?_, rfl⟩
      have : i = n.toNat := by omega
      subst this
      rw [takeE, if_neg (by omega), if_neg (by omega)]; rfl
  · intro key
    repeat' (first
    | (refine al_cons rfl ?_; first
      | refine op_m (d := some _) hG rfl rfl rfl rfl ?_
      | refine op_d (d := some _) hG rfl rfl rfl rfl (fun h => ?_) (fun h => ?_) | refine op_e (d := some _) hG rfl rfl rfl rfl (fun h => ?_) (fun h => ?_) | refine op_ne (d := some _) hG rfl rfl rfl rfl (fun h => ?_) (fun h => ?_) | refine op_beq (d := some _) hG rfl rfl rfl rfl (fun h => ?_) (fun h => ?_)
      | refine op_rem (d := some _) hG rfl rfl rfl rfl rfl rfl (by omega) ?_ | refine op_w (d := some _) hG rfl rfl rfl rfl (by omega) ?_ | refine op_wu (d := some _) hG rfl rfl rfl rfl (by omega) ?_ | refine op_w16 (d := some _) hG rfl rfl rfl rfl (by omega) ?_ | refine op_w8 (d := some _) hG rfl rfl rfl rfl (by omega) ?_
      | refine op_q (d := some _) hG rfl rfl rfl ?_)
    | refine al_s (d := some _) rfl rfl rfl ?_ | (refine al_nil ?_; show AW _ _ _ _ _ _) | refine aw_seq ?_ | refine aw_regL ?_ | refine aw_if_t rfl ?_ | refine aw_if_f rfl ?_
    | (refine aw_skip ?_; show AW _ _ _ _ _ _) | refine aw_block ?_ | (refine aw_exit ?_; show AW _ _ _ _ _ _) | (refine aw_goto ?_; try dsimp only [thenA, inBlockA, jumpA, noGotoA]) | (refine aw_ret ?_; try dsimp only [thenA, inBlockA, jumpA, noGotoA]))
    · refine aw_ret' _ rfl (Wk.refl _) ⟨?_, rfl⟩
      rw [takeE, if_pos (by omega)]; rfl
    · refine aw_ret' _ rfl (Wk.refl _) ⟨?_, rfl⟩
      rw [takeE, if_pos (by omega)]; rfl
    · refine aw_ret' _ rfl (Wk.refl _) ⟨?_, rfl⟩
      rename_i h
      rw [takeE, if_neg (by omega), if_pos (by simpa using h)]; rfl
    · refine aw_label ?_
      show AW _ _ _ _ _ _
      rename_i h
      refine aw_forget ?_ (key ⟨0, ⟨by omega, by omega, by simpa using h⟩, by omega⟩)
      exact .cons rfl (.cons rfl (.consW rfl (.int (by simp [beV])) (.consW rfl (.int rfl) (.nil _))))
end Go.Proofs.Ytjcfhhepnjmchaa
