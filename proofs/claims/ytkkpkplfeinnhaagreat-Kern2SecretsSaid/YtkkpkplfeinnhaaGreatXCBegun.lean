/- Begun, run by the machine in pieces. -/
import Derived.Test.YtkkpkplfeinnhaaGreatXF2
import Derived.Test.YtkkpkplfeinnhaaGreatTsXJ
import Derived.KernelRfl
namespace Go.Proofs.YtkkpkplfeinnhaaGreat
open Go.Ts
def BegunE1 : List (Nat × T) := [(0, .bool false), (1, .ptr 9 0), (2, .int .i64 0), (3, .ptr 703 0), (4, .bool true), (9, .tup [.ptr 9 0, .int .i64 0]), (10, .agg [u 2, .nilsl]), (11, .sl 2 .full [.agg [u 2, .nilsl]]), (12, .agg [.int .i64 40, .int .i64 0, .sl 2 .full [.agg [u 2, .nilsl]]]), (13, .tup [.ptr 9 0, .int .i64 0]), (14, .ptr 9 0), (15, .int .i64 0), (16, .int .i64 0), (17, .bool false), (18, .bool false), (19, .ptr 9 0), (20, .bool false), (21, .bool false), (22, .tup [.agg [.int .i64 0, .int .i64 0, .int .u64 65, .nilsl], .bool true]), (23, .ptr 9 0), (24, .sl 1 .full [u 7]), (25, .agg [.int .i64 3, .int .i64 2, .int .u64 1, .int .u64 0, .int .i64 0, .int .i64 0, u 0, .nilsl, .nilsl, .nilsl, .nilsl, .sl 1 .full [u 7], .nilsl]), (26, .tup [.agg [.int .i64 0, .int .i64 0, .int .u64 65, .nilsl], .bool true]), (27, .agg [.int .i64 0, .int .i64 0, .int .u64 65, .nilsl]), (28, .bool true)]
def BegunL1 : List (Nat × HO) := [(3, .mp [(.int .u64 1, .int .i64 0), (.int .u64 65, .int .i64 1)]),
  (4, .th 3 3 [u 2, .nilsl, .map (some 3)] (trL [(1, .aref 4 179 0 2 none)])),
  (5, .th 8704 8704 (List.replicate 16 (u 0) ++ [.bool false]) (trL [(0, u 7), (1, u 0), (2, u 0), (3, u 0), (4, u 0), (5, u 0), (6, u 0), (7, u 0), (8, u 0), (9, u 0), (10, u 0), (11, u 0), (12, u 0), (13, u 0), (14, u 0), (15, u 0), (16, .bool true)])),
  (6, .th 1 1 [.aref 17 5 0 512 (some 512)] (trL [])),
  (7, .mp [(.int .u64 65, .agg [.sl 1 (.tok 697) [.int .i64 0], .int .i64 1])]),
  (8, .th 2 2 [.ptr 6 0, .map (some 7)] (trL [])),
  (9, .th 3 3 [.nilsl, .ptr 4 0, .ptr 8 0] (trL [(0, .aref 12 16 0 1 none)])),
  (16, .th 12 12 [u 0, .nilsl, .nilsl, .nilsl, .nilsl, .int .i64 0, .int .i64 0, .int .u64 0, .int .u64 0, .int .i64 0, .int .i64 0, .bool false] (trL [(6, .int .i64 0), (7, .int .u64 0), (8, .int .u64 0), (9, .int .i64 0), (10, .int .i64 0)])),
  (179, .th 8 4 [.int .u64 0, .nilsl, .bool false, .int .i64 0] (trL [(0, .int .u64 1), (1, .sl 1 (.tok 142) [u 2, u 1, u 0, u 0, u 0, u 0, u 0, u 0, u 0, u 1, u 0, u 0, u 0, u 0, u 40, u 0, u 2, u 0, u 2]), (2, .bool true), (3, .int .i64 2), (4, .int .u64 65), (5, .sl 1 (.tok 181) [u 2, u 2, u 0, u 0, u 0, u 0, u 0, u 0, u 0, u 65, u 0, u 0, u 0, u 0, u 1, u 7]), (6, .bool true), (7, .int .i64 1)])),
  (703, .th 4 4 [.int .i64 0, .int .i64 0, .int .u64 0, .nilsl] (trL [(0, .int .i64 0), (1, .int .i64 0), (2, .int .u64 65), (3, .nilsl)]))]
def BegunR1 : List Nat := [142, 181, 697]
def BegunE2 : List (Nat × T) := [(0, .bool false), (1, .ptr 9 0), (2, .int .i64 0), (3, .ptr 703 0), (4, .bool true), (5, .ptr 769 0), (6, .bool true), (9, .tup [.ptr 9 0, .int .i64 0]), (10, .agg [u 2, .nilsl]), (11, .sl 2 .full [.agg [u 2, .nilsl]]), (12, .agg [.int .i64 40, .int .i64 0, .sl 2 .full [.agg [u 2, .nilsl]]]), (13, .tup [.ptr 9 0, .int .i64 0]), (14, .ptr 9 0), (15, .int .i64 0), (16, .int .i64 0), (17, .bool false), (18, .bool false), (19, .ptr 9 0), (20, .bool false), (21, .bool false), (22, .tup [.agg [.int .i64 0, .int .i64 0, .int .u64 65, .nilsl], .bool true]), (23, .ptr 9 0), (24, .sl 1 .full [u 7]), (25, .agg [.int .i64 3, .int .i64 2, .int .u64 1, .int .u64 0, .int .i64 0, .int .i64 0, u 0, .nilsl, .nilsl, .nilsl, .nilsl, .sl 1 .full [u 7], .nilsl]), (26, .tup [.agg [.int .i64 0, .int .i64 0, .int .u64 65, .nilsl], .bool true]), (27, .agg [.int .i64 0, .int .i64 0, .int .u64 65, .nilsl]), (28, .bool true), (29, .tup [.agg [.int .i64 0, .int .i64 0, .int .u64 0, .aref 1 768 0 1 (some 1)], .bool true]), (30, .ptr 9 0), (31, .agg [.int .i64 4, .int .i64 0, .int .u64 65, .int .u64 0, .int .i64 0, .int .i64 1, u 0, .nilsl, .nilsl, .nilsl, .nilsl, .nilsl, .nilsl]), (32, .tup [.agg [.int .i64 0, .int .i64 0, .int .u64 0, .aref 1 768 0 1 (some 1)], .bool true]), (33, .agg [.int .i64 0, .int .i64 0, .int .u64 0, .aref 1 768 0 1 (some 1)]), (34, .bool true)]
def BegunL2 : List (Nat × HO) := [(3, .mp [(.int .u64 1, .int .i64 0), (.int .u64 65, .int .i64 1)]),
  (4, .th 3 3 [u 2, .nilsl, .map (some 3)] (trL [(1, .aref 4 179 0 2 none)])),
  (5, .th 8704 8704 (List.replicate 16 (u 0) ++ [.bool false]) (trL [(0, u 7), (1, u 0), (2, u 0), (3, u 0), (4, u 0), (5, u 0), (6, u 0), (7, u 0), (8, u 0), (9, u 0), (10, u 0), (11, u 0), (12, u 0), (13, u 0), (14, u 0), (15, u 0), (16, .bool true)])),
  (6, .th 1 1 [.aref 17 5 0 512 (some 512)] (trL [])),
  (7, .mp [(.int .u64 65, .agg [.sl 1 (.tok 697) [.int .i64 0], .int .i64 1])]),
  (8, .th 2 2 [.ptr 6 0, .map (some 7)] (trL [])),
  (9, .th 3 3 [.nilsl, .ptr 4 0, .ptr 8 0] (trL [(0, .aref 12 16 0 1 none)])),
  (16, .th 12 12 [u 0, .nilsl, .nilsl, .nilsl, .nilsl, .int .i64 0, .int .i64 0, .int .u64 0, .int .u64 0, .int .i64 0, .int .i64 0, .bool false] (trL [(6, .int .i64 0), (7, .int .u64 0), (8, .int .u64 0), (9, .int .i64 0), (10, .int .i64 0)])),
  (179, .th 8 4 [.int .u64 0, .nilsl, .bool false, .int .i64 0] (trL [(0, .int .u64 1), (1, .sl 1 (.tok 142) [u 2, u 1, u 0, u 0, u 0, u 0, u 0, u 0, u 0, u 1, u 0, u 0, u 0, u 0, u 40, u 0, u 2, u 0, u 2]), (2, .bool true), (3, .int .i64 2), (4, .int .u64 65), (5, .sl 1 (.tok 181) [u 2, u 2, u 0, u 0, u 0, u 0, u 0, u 0, u 0, u 65, u 0, u 0, u 0, u 0, u 1, u 7]), (6, .bool true), (7, .int .i64 1)])),
  (703, .th 4 4 [.int .i64 0, .int .i64 0, .int .u64 0, .nilsl] (trL [(0, .int .i64 0), (1, .int .i64 0), (2, .int .u64 65), (3, .nilsl)])),
  (768, .th 1 1 [u 0] (trL [(0, u 7)])),
  (769, .th 4 4 [.int .i64 0, .int .i64 0, .int .u64 0, .nilsl] (trL [(0, .int .i64 0), (1, .int .i64 0), (2, .int .u64 0), (3, .aref 1 768 0 1 (some 1))]))]
def BegunR2 : List Nat := [142, 181, 697]
def BegunE3 : List (Nat × T) := [(0, .bool false), (1, .ptr 9 0), (2, .int .i64 0), (3, .ptr 703 0), (4, .bool true), (5, .ptr 769 0), (6, .bool true), (7, .ptr 832 0), (8, .int .i64 0), (9, .tup [.ptr 9 0, .int .i64 0]), (10, .agg [u 2, .nilsl]), (11, .sl 2 .full [.agg [u 2, .nilsl]]), (12, .agg [.int .i64 40, .int .i64 0, .sl 2 .full [.agg [u 2, .nilsl]]]), (13, .tup [.ptr 9 0, .int .i64 0]), (14, .ptr 9 0), (15, .int .i64 0), (16, .int .i64 0), (17, .bool false), (18, .bool false), (19, .ptr 9 0), (20, .bool false), (21, .bool false), (22, .tup [.agg [.int .i64 0, .int .i64 0, .int .u64 65, .nilsl], .bool true]), (23, .ptr 9 0), (24, .sl 1 .full [u 7]), (25, .agg [.int .i64 3, .int .i64 2, .int .u64 1, .int .u64 0, .int .i64 0, .int .i64 0, u 0, .nilsl, .nilsl, .nilsl, .nilsl, .sl 1 .full [u 7], .nilsl]), (26, .tup [.agg [.int .i64 0, .int .i64 0, .int .u64 65, .nilsl], .bool true]), (27, .agg [.int .i64 0, .int .i64 0, .int .u64 65, .nilsl]), (28, .bool true), (29, .tup [.agg [.int .i64 0, .int .i64 0, .int .u64 0, .aref 1 768 0 1 (some 1)], .bool true]), (30, .ptr 9 0), (31, .agg [.int .i64 4, .int .i64 0, .int .u64 65, .int .u64 0, .int .i64 0, .int .i64 1, u 0, .nilsl, .nilsl, .nilsl, .nilsl, .nilsl, .nilsl]), (32, .tup [.agg [.int .i64 0, .int .i64 0, .int .u64 0, .aref 1 768 0 1 (some 1)], .bool true]), (33, .agg [.int .i64 0, .int .i64 0, .int .u64 0, .aref 1 768 0 1 (some 1)]), (34, .bool true), (35, .tup [.ptr 832 0, .int .i64 0]), (36, .ptr 9 0), (37, .sl 13 (.tok 815) [.agg [.int .u64 1, .int .i64 1, u 0, .nilsl, .nilsl, .nilsl, .nilsl, .int .i64 40, .int .i64 2, .int .i64 2, .nilsl, .nilsl, .nilsl], .agg [.int .u64 65, .int .i64 2, u 0, .nilsl, .nilsl, .nilsl, .nilsl, .int .i64 0, .int .i64 0, .int .i64 0, .aref 1 813 0 1 (some 1), .nilsl, .nilsl]]), (38, .ptr 9 0), (39, .aref 12 820 0 1 none), (40, .tup [.ptr 832 0, .int .i64 0]), (41, .ptr 832 0), (42, .int .i64 0)]
def BegunL3 : List (Nat × HO) := [(3, .mp [(.int .u64 1, .int .i64 0), (.int .u64 65, .int .i64 1)]),
  (4, .th 3 3 [u 2, .nilsl, .map (some 3)] (trL [(1, .aref 4 179 0 2 none)])),
  (5, .th 8704 8704 (List.replicate 16 (u 0) ++ [.bool false]) (trL [(0, u 7), (1, u 0), (2, u 0), (3, u 0), (4, u 0), (5, u 0), (6, u 0), (7, u 0), (8, u 0), (9, u 0), (10, u 0), (11, u 0), (12, u 0), (13, u 0), (14, u 0), (15, u 0), (16, .bool true)])),
  (6, .th 1 1 [.aref 17 5 0 512 (some 512)] (trL [])),
  (7, .mp [(.int .u64 65, .agg [.sl 1 (.tok 697) [.int .i64 0], .int .i64 1])]),
  (8, .th 2 2 [.ptr 6 0, .map (some 7)] (trL [])),
  (9, .th 3 3 [.nilsl, .ptr 4 0, .ptr 8 0] (trL [(0, .aref 12 16 0 1 none)])),
  (16, .th 12 12 [u 0, .nilsl, .nilsl, .nilsl, .nilsl, .int .i64 0, .int .i64 0, .int .u64 0, .int .u64 0, .int .i64 0, .int .i64 0, .bool false] (trL [(6, .int .i64 0), (7, .int .u64 0), (8, .int .u64 0), (9, .int .i64 0), (10, .int .i64 0)])),
  (179, .th 8 4 [.int .u64 0, .nilsl, .bool false, .int .i64 0] (trL [(0, .int .u64 1), (1, .sl 1 (.tok 142) [u 2, u 1, u 0, u 0, u 0, u 0, u 0, u 0, u 0, u 1, u 0, u 0, u 0, u 0, u 40, u 0, u 2, u 0, u 2]), (2, .bool true), (3, .int .i64 2), (4, .int .u64 65), (5, .sl 1 (.tok 181) [u 2, u 2, u 0, u 0, u 0, u 0, u 0, u 0, u 0, u 65, u 0, u 0, u 0, u 0, u 1, u 7]), (6, .bool true), (7, .int .i64 1)])),
  (703, .th 4 4 [.int .i64 0, .int .i64 0, .int .u64 0, .nilsl] (trL [(0, .int .i64 0), (1, .int .i64 0), (2, .int .u64 65), (3, .nilsl)])),
  (768, .th 1 1 [u 0] (trL [(0, u 7)])),
  (769, .th 4 4 [.int .i64 0, .int .i64 0, .int .u64 0, .nilsl] (trL [(0, .int .i64 0), (1, .int .i64 0), (2, .int .u64 0), (3, .aref 1 768 0 1 (some 1))])),
  (813, .th 1 1 [u 0] (trL [(0, u 7)])),
  (820, .th 12 12 [u 0, .nilsl, .nilsl, .nilsl, .nilsl, .int .i64 0, .int .i64 0, .int .u64 0, .int .u64 0, .int .i64 0, .int .i64 0, .bool false] (trL [])),
  (825, .th 12 12 [u 0, .nilsl, .nilsl, .nilsl, .nilsl, .int .i64 0, .int .i64 0, .int .u64 0, .int .u64 0, .int .i64 0, .int .i64 0, .bool false] (trL [(0, u 0), (1, .nilsl), (11, .bool false)])),
  (826, .mp [(.int .u64 1, .int .i64 0), (.int .u64 65, .int .i64 1)]),
  (827, .th 3 3 [u 2, .nilsl, .map (some 826)] (trL [(1, .aref 4 987 0 2 none)])),
  (828, .th 8704 8704 (List.replicate 16 (u 0) ++ [.bool false]) (trL [(0, u 7), (1, u 0), (2, u 0), (3, u 0), (4, u 0), (5, u 0), (6, u 0), (7, u 0), (8, u 0), (9, u 0), (10, u 0), (11, u 0), (12, u 0), (13, u 0), (14, u 0), (15, u 0), (16, .bool true)])),
  (829, .th 1 1 [.aref 17 828 0 512 (some 512)] (trL [])),
  (830, .mp [(.int .u64 65, .agg [.sl 1 (.tok 1505) [.int .i64 0], .int .i64 1])]),
  (831, .th 2 2 [.ptr 829 0, .map (some 830)] (trL [])),
  (832, .th 3 3 [.aref 12 825 0 1 none, .ptr 827 0, .ptr 831 0] (trL [])),
  (987, .th 8 4 [.int .u64 0, .nilsl, .bool false, .int .i64 0] (trL [(0, .int .u64 1), (1, .sl 1 (.tok 914) [u 2, u 1, u 0, u 0, u 0, u 0, u 0, u 0, u 0, u 1, u 0, u 0, u 0, u 0, u 40, u 0, u 2, u 0, u 2]), (2, .bool true), (3, .int .i64 1), (4, .int .u64 65), (5, .sl 1 (.tok 989) [u 2, u 2, u 0, u 0, u 0, u 0, u 0, u 0, u 0, u 65, u 0, u 0, u 0, u 0, u 1, u 7]), (6, .bool true), (7, .int .i64 1)]))]
def BegunR3 : List Nat := [142, 181, 697, 815, 914, 989, 1505]
set_option maxRecDepth 100000 in
theorem Begun_1 : chunkOK (mach lvK knK) 20000 Tryz.f9.ntmps ((mach lvK knK).live 9) 4 (restC 0 (bodyOf Tryz.f9)) (.leaf) (hs0) BegunE1 BegunL1 BegunR1 704 = true := by kernel_rfl
set_option maxRecDepth 100000 in
theorem Begun_2 : chunkOK (mach lvK knK) 20000 Tryz.f9.ntmps ((mach lvK knK).live 9) 1 (restC 4 (bodyOf Tryz.f9)) (trL BegunE1) (mkH BegunL1 BegunR1 704) BegunE2 BegunL2 BegunR2 770 = true := by kernel_rfl
set_option maxRecDepth 100000 in
theorem Begun_3 : chunkOK (mach lvK knK) 20000 Tryz.f9.ntmps ((mach lvK knK).live 9) 1 (restC 5 (bodyOf Tryz.f9)) (trL BegunE2) (mkH BegunL2 BegunR2 770) BegunE3 BegunL3 BegunR3 1556 = true := by kernel_rfl
set_option maxRecDepth 100000 in
theorem Begun_end : finOK (mach lvK knK) 20000 Tryz.f9.ntmps ((mach lvK knK).live 9) (restC 6 (bodyOf Tryz.f9)) Tryz.f9.results.toList (trL BegunE3) (mkH BegunL3 BegunR3 1556) 1785 = true := by kernel_rfl
theorem Begun_fin : Fin Tryz.prog (mach lvK knK).G Tryz.f9.ntmps (restC 0 (bodyOf Tryz.f9)) Tryz.f9.results.toList .leaf hs0 1785 := (fin_chunk mK_ok Begun_1
  (fin_chunk mK_ok Begun_2
  (fin_chunk mK_ok Begun_3
  (fin_last mK_ok Begun_end))))
theorem Begun_call : ∀ σ, HCov σ hs0 → ACalls Tryz.prog 9 [] σ (fun u σ' => u = .bool true ∧ HCov σ' ⟨.leaf, .leaf, 1785⟩) := fin_call mK_ok Tryz.f9 (by kernel_rfl) (by kernel_rfl) Begun_fin
end Go.Proofs.YtkkpkplfeinnhaaGreat
