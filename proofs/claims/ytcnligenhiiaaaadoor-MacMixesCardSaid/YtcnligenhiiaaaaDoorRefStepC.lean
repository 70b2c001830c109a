/- oblivionref02.Step: one of its 64 rounds, over a frame written out. -/
import Derived.Test.YtcnligenhiiaaaaDoorShaKonst
import Derived.Test.YtcnligenhiiaaaaDoorRefTurn
import Derived.Test.YtcnligenhiiaaaaDoorRefK
import Derived.Test.YtcnligenhiiaaaaDoorRegion
import Derived.Test.YtcnligenhiiaaaaDoorLoops
namespace Go.Proofs.YtcnligenhiiaaaaDoor
open Go.RowKit Sha2 Words

noncomputable def refBody2 : Code := Tryd.f36.loopAt 2
set_option maxHeartbeats 1000000 in
set_option maxRecDepth 100000 in
theorem ref_round2 (w : World) (h0 p : List W) (d k : Nat) (va vb vc vd ve vf vg vh : W) (hk : k < 64) (hp : p.length = 64)
    {u0 u1 u3 u6 u7 u8 u9 u13 u14 u15 u16 u17 u18 u19 u20 u21 u22 u23 u24 u25 u26 u27 u28 u29 u30 u31 u32 u33 u34 u35 u36 u37 u38 u39 u40 u41 u42 u43 u44 u45 u46 u47 u48 u49 u50 u51 u52 u53 u54 u55 u56 u57 u58 u59 u60 u61 u62 u63 u64 u65 u66 u67 u68 u69 u70 u71 u72 u73 u74 u75 u76 u77 u78 u79 u80 u81 u82 u83 u84 u85 u86 u87 u88 u89 u90 u91 u92 u93 u94 u95 u96 u97 u98 u99 u100 u101 u102 u103 u104 u105 u106 u107 u108 u109 u110 u111 u112 u113 u114 u115 u116 u117 u118 u119 u120 u121 u122 u123 u124 u125 u126 u127 u128 u129 u130 u131 u132 u133 u134 u135 u136 u137 u138 u139 u140 u141 u142 u143 u144 u145 u146 u147 u148 u149 u150 u151 u152 u153 u154 u155 u156 u157 u158 u159 u160 u161 u162 u163 u164 u165 u166 u167 u168 u169 u170 u171 u172 u173 u174 u175 u176 u177 u178 u179 u180 u181 u182 : Value} {Q0 : Exit → Act → World → Prop}
    (hnext : ∀ (d' : Nat) (W' : World) (x13 x14 x15 x16 x84 x85 x86 x87 x88 x89 x90 x91 x92 x93 x94 x95 x96 x97 x98 x99 x100 x101 x102 x103 x104 x105 x106 x107 x108 x109 x110 x111 x112 x113 x114 x115 x116 x117 x118 x119 x120 x121 x122 x123 x124 x125 x126 x127 x128 x129 x130 x131 x132 x133 x134 x135 x136 x137 x138 x139 x140 x141 x142 x143 x144 x145 x146 x147 x148 x149 x150 x151 x152 x153 x154 x155 x156 x157 x158 x159 x160 x161 x162 x163 x164 x165 x166 x167 : Value), W' = w.ext [.cells (row64 h0) 71, .cells zero8w 71, .cells (row64 p) 77, .cells (row64 (rnd ⟨va, vb, vc, vd, ve, vf, vg, vh⟩ (kw k) (p.getD k 0)).list) 71, .cells (row64 kws) 77, .cells (row64 kws) 77] d' → Q0 .normal ⟨List.toArray (u0 :: u1 :: .pointer (some ⟨w.heap.size, 0, none⟩) :: u3 :: .pointer (some ⟨w.heap.size + 1, 0, none⟩) :: .pointer (some ⟨w.heap.size + 2, 0, none⟩) :: u6 :: u7 :: u8 :: u9 :: .pointer (some ⟨w.heap.size + 3, 0, none⟩) :: .pointer (some ⟨w.heap.size + 5, 0, none⟩) :: .int .i64 (↑k + 1) :: x13 :: x14 :: x15 :: x16 :: u17 :: u18 :: u19 :: u20 :: u21 :: u22 :: u23 :: u24 :: u25 :: u26 :: u27 :: u28 :: u29 :: u30 :: u31 :: u32 :: u33 :: u34 :: u35 :: u36 :: u37 :: u38 :: u39 :: u40 :: u41 :: u42 :: u43 :: u44 :: u45 :: u46 :: u47 :: u48 :: u49 :: u50 :: u51 :: u52 :: u53 :: u54 :: u55 :: u56 :: u57 :: u58 :: u59 :: u60 :: u61 :: u62 :: u63 :: u64 :: u65 :: u66 :: u67 :: u68 :: u69 :: u70 :: u71 :: u72 :: u73 :: u74 :: u75 :: u76 :: u77 :: u78 :: u79 :: u80 :: u81 :: u82 :: u83 :: x84 :: x85 :: x86 :: x87 :: x88 :: x89 :: x90 :: x91 :: x92 :: x93 :: x94 :: x95 :: x96 :: x97 :: x98 :: x99 :: x100 :: x101 :: x102 :: x103 :: x104 :: x105 :: x106 :: x107 :: x108 :: x109 :: x110 :: x111 :: x112 :: x113 :: x114 :: x115 :: x116 :: x117 :: x118 :: x119 :: x120 :: x121 :: x122 :: x123 :: x124 :: x125 :: x126 :: x127 :: x128 :: x129 :: x130 :: x131 :: x132 :: x133 :: x134 :: x135 :: x136 :: x137 :: x138 :: x139 :: x140 :: x141 :: x142 :: x143 :: x144 :: x145 :: x146 :: x147 :: x148 :: x149 :: x150 :: x151 :: x152 :: x153 :: x154 :: x155 :: x156 :: x157 :: x158 :: x159 :: x160 :: x161 :: x162 :: x163 :: x164 :: x165 :: x166 :: x167 :: u168 :: u169 :: u170 :: u171 :: u172 :: u173 :: u174 :: u175 :: u176 :: u177 :: u178 :: u179 :: u180 :: u181 :: u182 :: []), []⟩ W') :
    refBody2.wp Tryd.prog Q0 ⟨List.toArray (u0 :: u1 :: .pointer (some ⟨w.heap.size, 0, none⟩) :: u3 :: .pointer (some ⟨w.heap.size + 1, 0, none⟩) :: .pointer (some ⟨w.heap.size + 2, 0, none⟩) :: u6 :: u7 :: u8 :: u9 :: .pointer (some ⟨w.heap.size + 3, 0, none⟩) :: .pointer (some ⟨w.heap.size + 5, 0, none⟩) :: .int .i64 ↑k :: u13 :: u14 :: u15 :: u16 :: u17 :: u18 :: u19 :: u20 :: u21 :: u22 :: u23 :: u24 :: u25 :: u26 :: u27 :: u28 :: u29 :: u30 :: u31 :: u32 :: u33 :: u34 :: u35 :: u36 :: u37 :: u38 :: u39 :: u40 :: u41 :: u42 :: u43 :: u44 :: u45 :: u46 :: u47 :: u48 :: u49 :: u50 :: u51 :: u52 :: u53 :: u54 :: u55 :: u56 :: u57 :: u58 :: u59 :: u60 :: u61 :: u62 :: u63 :: u64 :: u65 :: u66 :: u67 :: u68 :: u69 :: u70 :: u71 :: u72 :: u73 :: u74 :: u75 :: u76 :: u77 :: u78 :: u79 :: u80 :: u81 :: u82 :: u83 :: u84 :: u85 :: u86 :: u87 :: u88 :: u89 :: u90 :: u91 :: u92 :: u93 :: u94 :: u95 :: u96 :: u97 :: u98 :: u99 :: u100 :: u101 :: u102 :: u103 :: u104 :: u105 :: u106 :: u107 :: u108 :: u109 :: u110 :: u111 :: u112 :: u113 :: u114 :: u115 :: u116 :: u117 :: u118 :: u119 :: u120 :: u121 :: u122 :: u123 :: u124 :: u125 :: u126 :: u127 :: u128 :: u129 :: u130 :: u131 :: u132 :: u133 :: u134 :: u135 :: u136 :: u137 :: u138 :: u139 :: u140 :: u141 :: u142 :: u143 :: u144 :: u145 :: u146 :: u147 :: u148 :: u149 :: u150 :: u151 :: u152 :: u153 :: u154 :: u155 :: u156 :: u157 :: u158 :: u159 :: u160 :: u161 :: u162 :: u163 :: u164 :: u165 :: u166 :: u167 :: u168 :: u169 :: u170 :: u171 :: u172 :: u173 :: u174 :: u175 :: u176 :: u177 :: u178 :: u179 :: u180 :: u181 :: u182 :: []), []⟩ (w.ext [.cells (row64 h0) 71, .cells zero8w 71, .cells (row64 p) 77, .cells (row64 [va, vb, vc, vd, ve, vf, vg, vh]) 71, .cells (row64 kws) 77, .cells (row64 kws) 77] d) := by
  conv => arg 2; whnf
  have hkn := kws_length
  obtain ⟨pk, hpk⟩ : ∃ pk, p[k]? = some pk := ⟨_, getD_of (by omega)⟩
  have hkk : kws[k]? = some (kw k) := by
    unfold kws
    rw [List.getElem?_map, List.getElem?_range hk]
    rfl
  simp only [List.getD_eq_getElem?_getD, hpk, Option.getD_some, rnd, tt, uu, list_mk, S0, S1, ← ch_xor, ← maj_xor] at hnext
  clear hp hkn
  go_wp2
  go_quiet ((exact Ext.quiet_same (rturn_any _ _ (by decide) _)))
  go_wp2
  go_quiet ((exact Ext.quiet_same (rturn_any _ _ (by decide) _)))
  go_wp2
  exact hnext _ _ _ _ _ _ _ _ _ _ _ _ _ _ _ _ _ _ _ _ _ _ _ _ _ _ _ _ _ _ _ _ _ _ _ _ _ _ _ _ _ _ _ _ _ _ _ _ _ _ _ _ _ _ _ _ _ _ _ _ _ _ _ _ _ _ _ _ _ _ _ _ _ _ _ _ _ _ _ _ _ _ _ _ _ _ _ _ _ _ rfl
end Go.Proofs.YtcnligenhiiaaaaDoor
