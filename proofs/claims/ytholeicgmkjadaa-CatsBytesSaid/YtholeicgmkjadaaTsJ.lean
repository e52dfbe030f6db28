/- Trees, continued: arguments of rows as lists of numbers. -/
import Derived.Test.YtholeicgmkjadaaTsR
import Derived.Test.YtholeicgmkjadaaTsH
namespace Go.Ts
set_option linter.unusedSimpArgs false
set_option linter.unusedVariables false
section
variable {G : Nat → Option TI}
theorem wf_u8 {n : Int} (h : (Lit.int .u8 n).wf = true) : 0 ≤ n ∧ n < 256 := by
  simp only [Lit.wf, IntKind.min, IntKind.max, IntKind.bits, IntKind.signed, Bool.and_eq_true] at h; simp at h; omega
theorem wf_u16 {n : Int} (h : (Lit.int .u16 n).wf = true) : 0 ≤ n ∧ n < 65536 := by
  simp only [Lit.wf, IntKind.min, IntKind.max, IntKind.bits, IntKind.signed, Bool.and_eq_true] at h; simp at h; omega
theorem wf_u64 {n : Int} (h : (Lit.int .u64 n).wf = true) : 0 ≤ n ∧ n < 18446744073709551616 := by
  simp only [Lit.wf, IntKind.min, IntKind.max, IntKind.bits, IntKind.signed, Bool.and_eq_true] at h; simp at h; omega
theorem wf_i64 {n : Int} (h : (Lit.int .i64 n).wf = true) : -9223372036854775808 ≤ n ∧ n ≤ 9223372036854775807 := by
  simp only [Lit.wf, IntKind.min, IntKind.max, IntKind.bits, IntKind.signed, Bool.and_eq_true] at h; simp at h; omega
theorem argTy_cells {n t : Nat} {x : T} {ti : TI} (h : ArgTy G n t x) (ht : G t = some ti) (hd : ti.d.agg = false) : Ty G n t [x] := by
  have h1 := h.1
  rwa [(h.2 _ ht).2 hd] at h1
theorem ty_slice {n t e : Nat} {cs : List T} {ti : TI} (h : Ty G (n + 1) t cs) (ht : G t = some ti) (htd : ti.d = .slice e) :
    ∃ xs, cs = [.sl ((sizeT G e).getD 0) .no xs] ∧ xs.length ≤ bigLen ∧ ∀ y ∈ xs, Ty G n e y.cells ∧ AggOK G e y := by
  simpa only [Ty, ht, htd] using h
theorem bytes_of_ty {n e : Nat} {ie : TI} (he : G e = some ie) (hed : ie.d = .int .u8) : ∀ (xs : List T), (∀ y ∈ xs, Ty G (n + 1) e y.cells ∧ AggOK G e y) → ∃ b : List UInt8, xs = b.map bT
  | [], _ => ⟨[], rfl⟩
  | x :: xs, h => by
    obtain ⟨b, hb⟩ := bytes_of_ty he hed xs (fun y hy => h y (List.mem_cons_of_mem _ hy))
    obtain ⟨h1, h2⟩ := h x List.mem_cons_self
    simp only [Ty, he, hed] at h1
    obtain ⟨v, hv, hw⟩ := h1
    obtain ⟨l, u⟩ := wf_u8 hw
    refine ⟨UInt8.ofNat v.toNat :: b, ?_⟩
    have : x = .int .u8 v := by
      have h5 := (h2 _ he).2 (by rw [hed]; rfl)
      rw [h5] at hv; injection hv
    subst this
    rw [hb, List.map_cons]
    congr 1
    unfold bT
    have : (UInt8.ofNat v.toNat).toNat = v.toNat := by simp [UInt8.toNat_ofNat]; omega
    rw [this]; congr 1; omega
theorem cats_of_ty {n e : Nat} {ie : TI} (he : G e = some ie) (hed : ie.d = .int .u16) : ∀ (xs : List T), (∀ y ∈ xs, Ty G (n + 1) e y.cells ∧ AggOK G e y) → ∃ b : List UInt16, xs = b.map hT
  | [], _ => ⟨[], rfl⟩
  | x :: xs, h => by
    obtain ⟨b, hb⟩ := cats_of_ty he hed xs (fun y hy => h y (List.mem_cons_of_mem _ hy))
    obtain ⟨h1, h2⟩ := h x List.mem_cons_self
    simp only [Ty, he, hed] at h1
    obtain ⟨v, hv, hw⟩ := h1
    obtain ⟨l, u⟩ := wf_u16 hw
    refine ⟨UInt16.ofNat v.toNat :: b, ?_⟩
    have : x = .int .u16 v := by
      have h5 := (h2 _ he).2 (by rw [hed]; rfl)
      rw [h5] at hv; injection hv
    subst this
    rw [hb, List.map_cons]
    congr 1
    unfold hT
    have : (UInt16.ofNat v.toNat).toNat = v.toNat := by simp [UInt16.toNat_ofNat']; omega
    rw [this]; congr 1; omega
theorem nums_of_ty {n e : Nat} {ie : TI} (he : G e = some ie) (hed : ie.d = .int .u64) : ∀ (xs : List T), (∀ y ∈ xs, Ty G (n + 1) e y.cells ∧ AggOK G e y) → ∃ b : List UInt64, xs = b.map qT
  | [], _ => ⟨[], rfl⟩
  | x :: xs, h => by
    obtain ⟨b, hb⟩ := nums_of_ty he hed xs (fun y hy => h y (List.mem_cons_of_mem _ hy))
    obtain ⟨h1, h2⟩ := h x List.mem_cons_self
    simp only [Ty, he, hed] at h1
    obtain ⟨v, hv, hw⟩ := h1
    obtain ⟨l, u⟩ := wf_u64 hw
    refine ⟨UInt64.ofNat v.toNat :: b, ?_⟩
    have : x = .int .u64 v := by
      have h5 := (h2 _ he).2 (by rw [hed]; rfl)
      rw [h5] at hv; injection hv
    subst this
    rw [hb, List.map_cons]
    congr 1
    unfold qT
    have : (UInt64.ofNat v.toNat).toNat = v.toNat := by simp [UInt64.toNat_ofNat']; omega
    rw [this]; congr 1; omega
theorem ty_bytes {n t e : Nat} {cs : List T} {ti ie : TI} (h : Ty G (n + 2) t cs) (ht : G t = some ti) (htd : ti.d = .slice e) (he : G e = some ie) (hed : ie.d = .int .u8) (hs : ie.size = 1) : ∃ b : List UInt8, cs = [sT b] ∧ b.length ≤ bigLen := by
  obtain ⟨xs, h1, h2, h3⟩ := ty_slice h ht htd
  obtain ⟨b, rfl⟩ := bytes_of_ty he hed xs h3
  exact ⟨b, by rw [h1]; simp [sizeT, he, hs, sT], by simpa using h2⟩
theorem ty_cats {n t e : Nat} {cs : List T} {ti ie : TI} (h : Ty G (n + 2) t cs) (ht : G t = some ti) (htd : ti.d = .slice e) (he : G e = some ie) (hed : ie.d = .int .u16) (hs : ie.size = 1) : ∃ b : List UInt16, cs = [cT b] ∧ b.length ≤ bigLen := by
  obtain ⟨xs, h1, h2, h3⟩ := ty_slice h ht htd
  obtain ⟨b, rfl⟩ := cats_of_ty he hed xs h3
  exact ⟨b, by rw [h1]; simp [sizeT, he, hs, cT], by simpa using h2⟩
theorem ty_nums {n t e : Nat} {cs : List T} {ti ie : TI} (h : Ty G (n + 2) t cs) (ht : G t = some ti) (htd : ti.d = .slice e) (he : G e = some ie) (hed : ie.d = .int .u64) (hs : ie.size = 1) : ∃ b : List UInt64, cs = [.sl 1 .no (b.map qT)] ∧ b.length ≤ bigLen := by
  obtain ⟨xs, h1, h2, h3⟩ := ty_slice h ht htd
  obtain ⟨b, rfl⟩ := nums_of_ty he hed xs h3
  exact ⟨b, by rw [h1]; simp [sizeT, he, hs], by simpa using h2⟩
theorem argTy_bytes {n t e : Nat} {x : T} {ti ie : TI} (h : ArgTy G (n + 2) t x) (ht : G t = some ti) (htd : ti.d = .slice e) (he : G e = some ie) (hed : ie.d = .int .u8) (hs : ie.size = 1) : ∃ b : List UInt8, x = sT b ∧ b.length ≤ bigLen := by
  obtain ⟨b, h1, h2⟩ := ty_bytes (argTy_cells h ht (by rw [htd]; rfl)) ht htd he hed hs
  injection h1 with h1
  exact ⟨b, h1, h2⟩
theorem argTy_cats {n t e : Nat} {x : T} {ti ie : TI} (h : ArgTy G (n + 2) t x) (ht : G t = some ti) (htd : ti.d = .slice e) (he : G e = some ie) (hed : ie.d = .int .u16) (hs : ie.size = 1) : ∃ b : List UInt16, x = cT b ∧ b.length ≤ bigLen := by
  obtain ⟨b, h1, h2⟩ := ty_cats (argTy_cells h ht (by rw [htd]; rfl)) ht htd he hed hs
  injection h1 with h1
  exact ⟨b, h1, h2⟩
theorem argTy_struct {n t : Nat} {x : T} {ti : TI} {fs : List (Nat × Nat)} (h : ArgTy G (n + 1) t x) (ht : G t = some ti) (htd : ti.d = .struct fs) : ∃ cs, x = .agg cs ∧ TyFs (Ty G n) fs cs := by
  obtain ⟨c, rfl⟩ := (h.2 _ ht).1 (by rw [htd]; rfl)
  refine ⟨c, rfl, ?_⟩
  have h1 := h.1
  simpa only [Ty, ht, htd, T.cells] using h1
theorem argTy_cats3 {n t u e o1 o2 o3 : Nat} {x : T} {ti tu ie : TI} (h : ArgTy G (n + 3) t x) (ht : G t = some ti) (htd : ti.d = .struct [(o1, u), (o2, u), (o3, u)]) (hu : G u = some tu) (hud : tu.d = .slice e) (he : G e = some ie) (hed : ie.d = .int .u16) (hs : ie.size = 1) :
    ∃ a b c : List UInt16, x = .agg [cT a, cT b, cT c] ∧ a.length ≤ bigLen ∧ b.length ≤ bigLen ∧ c.length ≤ bigLen := by
  obtain ⟨cs, rfl, p, q, rfl, h1, p2, q2, rfl, h2, p3, q3, rfl, h3, rfl⟩ := argTy_struct h ht htd
  obtain ⟨a, rfl, ha⟩ := ty_cats h1 hu hud he hed hs
  obtain ⟨b, rfl, hb⟩ := ty_cats h2 hu hud he hed hs
  obtain ⟨c, rfl, hc⟩ := ty_cats h3 hu hud he hed hs
  exact ⟨a, b, c, rfl, ha, hb, hc⟩
theorem letters_of_ty {n e u : Nat} {ie iu : TI} (he : G e = some ie) (hed : ie.d = .slice u) (hu : G u = some iu) (hud : iu.d = .int .u8) (hs : iu.size = 1) : ∀ (xs : List T), (∀ y ∈ xs, Ty G (n + 2) e y.cells ∧ AggOK G e y) → ∃ l : List (List UInt8), xs = l.map sT ∧ ∀ b ∈ l, b.length ≤ bigLen
  | [], _ => ⟨[], rfl, fun b h => absurd h List.not_mem_nil⟩
  | x :: xs, h => by
    obtain ⟨l, hl, hb⟩ := letters_of_ty he hed hu hud hs xs (fun y hy => h y (List.mem_cons_of_mem _ hy))
    obtain ⟨b, rfl, hbl⟩ := argTy_bytes (h x List.mem_cons_self) he hed hu hud hs
    refine ⟨b :: l, by rw [hl]; rfl, fun c hc => ?_⟩
    rcases List.mem_cons.1 hc with rfl | hc
    · exact hbl
    · exact hb c hc
theorem ty_letters {n t e u : Nat} {cs : List T} {ti ie iu : TI} (h : Ty G (n + 3) t cs) (ht : G t = some ti) (htd : ti.d = .slice e) (he : G e = some ie) (hed : ie.d = .slice u) (hes : ie.size = 1) (hu : G u = some iu) (hud : iu.d = .int .u8) (hs : iu.size = 1) :
    ∃ l : List (List UInt8), cs = [.sl 1 .no (l.map sT)] ∧ l.length ≤ bigLen ∧ ∀ b ∈ l, b.length ≤ bigLen := by
  obtain ⟨xs, h1, h2, h3⟩ := ty_slice h ht htd
  obtain ⟨l, rfl, hb⟩ := letters_of_ty he hed hu hud hs xs h3
  exact ⟨l, by rw [h1]; simp [sizeT, he, hes], by simpa using h2, hb⟩
theorem argTy_letters {n t e u : Nat} {x : T} {ti ie iu : TI} (h : ArgTy G (n + 3) t x) (ht : G t = some ti) (htd : ti.d = .slice e) (he : G e = some ie) (hed : ie.d = .slice u) (hes : ie.size = 1) (hu : G u = some iu) (hud : iu.d = .int .u8) (hs : iu.size = 1) :
    ∃ l : List (List UInt8), x = .sl 1 .no (l.map sT) ∧ l.length ≤ bigLen ∧ ∀ b ∈ l, b.length ≤ bigLen := by
  obtain ⟨l, h1, h2⟩ := ty_letters (argTy_cells h ht (by rw [htd]; rfl)) ht htd he hed hes hu hud hs
  injection h1 with h1
  exact ⟨l, h1, h2⟩
theorem aggOK_of {e : Nat} {ie : TI} (he : G e = some ie) (hd : ie.d.agg = false) : True := trivial
end
end Go.Ts
