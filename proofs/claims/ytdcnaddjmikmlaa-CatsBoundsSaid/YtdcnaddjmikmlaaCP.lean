/- Plain facts for CatsBounds. -/
import Derived.Test.YtdcnaddjmikmlaaS11
namespace Go.Proofs.Ytdcnaddjmikmlaa
open Go.Ts Go.Sets
def jT (x : Int) : T := .int .u16 x
def uT (x : Int) : T := .int .u8 x
instance : Enc jT 1 := ⟨fun x c h => by simp [jT, T.cells] at h; subst h; rfl, fun x => rfl⟩
instance : Enc uT 1 := ⟨fun x c h => by simp [uT, T.cells] at h; subst h; rfl, fun x => rfl⟩
def up (b : Int) (n : Nat) : List Int := (List.range n).map fun (j : Nat) => b + (j : Int)
theorem up_len (b : Int) (n : Nat) : (up b n).length = n := by simp [up]
theorem up_succ (b : Int) (n : Nat) : up b (n + 1) = up b n ++ [b + (n : Int)] := by simp [up, List.range_succ]
theorem up_get (b : Int) {n j : Nat} (h : j < n) : (up b n).getD j default = b + (j : Int) := by simp [up, List.getD_eq_getElem?_getD, h]
def lu (b : Int) (n : Nat) : List UInt16 := (up b n).map fun x => UInt16.ofNat x.toNat
theorem lu_len (b : Int) (n : Nat) : (lu b n).length = n := by simp [lu, up_len]
theorem lu_succ (b : Int) (n : Nat) : lu b (n + 1) = lu b n ++ [UInt16.ofNat (b + (n : Int)).toNat] := by simp [lu, up_succ]
theorem lu_get (b : Int) {n j : Nat} (h : j < n) : (lu b n).getD j default = UInt16.ofNat (b + (j : Int)).toNat := by simp [lu, up, List.getD_eq_getElem?_getD, h]
theorem two_bytes {x : Int} (h : 0 ≤ x ∧ x ≤ 65535) : [IntKind.u8.wrap (x / 2 ^ (min (8 : Int).toNat IntKind.u16.bits)), IntKind.u8.wrap x].map uT = (be (UInt16.ofNat x.toNat).toNat 2).map bT := by
  have hv : (UInt16.ofNat x.toNat).toNat = x.toNat := by simp [UInt16.toNat_ofNat']; omega
  rw [hv]
  show [T.int .u8 (IntKind.u8.wrap (x / 2 ^ 8)), T.int .u8 (IntKind.u8.wrap x)] = [bT (UInt8.ofNat (x.toNat / 2 ^ 8)), bT (UInt8.ofNat (x.toNat / 2 ^ 0))]
  rw [bT_of (x / 2 ^ 8) (x.toNat / 2 ^ 8) (by omega), bT_of x (x.toNat / 2 ^ 0) (by omega)]
theorem up_lu {b : Int} (hb : 0 ≤ b ∧ b < 60000) {n : Nat} (hn : n < 24) : (up b n).map jT = (lu b n).map hT := by
  unfold lu
  rw [List.map_map]
  refine List.map_congr_left fun x hx => ?_
  simp only [up, List.mem_map, List.mem_range] at hx
  obtain ⟨j, hj, rfl⟩ := hx
  have := hT_of (b + (j : Int)).toNat (by omega)
  rw [show (((b + (j : Int)).toNat : Nat) : Int) = b + (j : Int) by omega] at this
  exact this
theorem lu_rises {b : Int} (hb : 0 ≤ b ∧ b < 60000) {n : Nat} (hn : n < 24) : risesB (lu b n) = true := by
  rw [rises_adj]
  intro j hj
  rw [lu_len] at hj
  rw [lu_get b (by omega : j < n), lu_get b hj, UInt16.lt_iff_toNat_lt]
  simp only [UInt16.toNat_ofNat']
  omega
theorem lu_may {b : Int} (hb : 0 ≤ b ∧ b < 60000) {n : Nat} (hn : n < 24) : mayC (lu b n) = decide (n ≤ 16) := by
  unfold mayC; rw [lu_rises hb hn, lu_len, Bool.and_true]
theorem takeC_bad {a : List UInt16} (ha : mayC a = false) (hl : a.length < 24) : takeC (putC [] a) = ([], 0, 2) := by
  have h1 : beV ((putC [] a).take 1) = a.length := by
    rw [putC_nil]; simp [beV, UInt8.toNat_ofNat']; omega
  have h2 : (putC [] a).length = 1 + 2 * a.length := putC_len a
  have h3 : (List.range a.length).map (fun i => UInt16.ofNat (beV (((putC [] a).drop (1 + 2 * i)).take 2))) = a := by
    refine range_map_eq a _ fun i hi => ?_
    have : (putC [] a).drop (1 + 2 * i) = flat2 (a.drop i) ++ [] := by
      rw [putC_nil, show 1 + 2 * i = 2 * i + 1 by omega, List.drop_succ_cons]
      have := flat2_drop a i [] (by omega)
      simpa using this
    rw [this, flat2_take _ _ (by intro h; have := congrArg List.length h; simp at this; omega), beV_be2 _ (UInt16.toNat_lt _)]
    simp [List.getD_eq_getElem?_getD]
  unfold takeC
  rw [h1, h3, if_neg (by omega), if_neg (by omega), if_neg (by rw [ha]; simp)]
theorem takeC_good {a : List UInt16} (ha : mayC a = true) : takeC (putC [] a) = (a, 1 + 2 * a.length, 0) := by
  have := takeC_putC ha []
  simpa using this
end Go.Proofs.Ytdcnaddjmikmlaa
