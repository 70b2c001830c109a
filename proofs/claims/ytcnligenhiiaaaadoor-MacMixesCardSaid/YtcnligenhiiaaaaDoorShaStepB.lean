/- sha.Step: one round of the second loop, over a frame written out. -/
import Derived.Test.YtcnligenhiiaaaaDoorShaKonst
import Derived.Test.YtcnligenhiiaaaaDoorRegion
import Derived.Test.YtcnligenhiiaaaaDoorLoops
namespace Go.Proofs.YtcnligenhiiaaaaDoor
open Go.RowKit Sha2 Words

noncomputable def stepBody2 : Code := Tryd.f22.loopAt 1
set_option maxHeartbeats 4000000 in
set_option maxRecDepth 100000 in
theorem step_round2 (w : World) (h0 : List W) (s : ByteArray) (cap d k : Nat) (q : List W) (va vb vc vd ve vf vg vh : W) (hk : k < 64) (hq : q.length = 16)
    {u0 u1 u3 u7 u8 u10 u11 u12 u13 u14 u15 u16 u17 u18 u19 u20 u21 u22 u23 u24 u25 u26 u27 u28 u29 u30 u31 u32 u33 u34 u35 u36 u37 u38 u39 u40 u41 u42 u43 u44 u47 u48 u49 u50 u51 u52 u53 u54 u55 u56 u57 u58 u59 u60 u61 u62 u63 u64 u65 u66 u67 u68 u69 u70 u71 u72 u73 u74 u75 u76 u77 u78 u79 u80 u81 u82 u83 u84 u85 u86 u87 u88 u89 u90 u91 u92 u93 u94 u95 u96 u97 u98 u99 u100 u101 u102 u103 u104 u105 u106 u107 u108 u109 u110 u111 u112 u113 u114 u115 u116 u117 u118 u119 u120 u121 u122 u123 u124 u125 u126 u127 u128 u129 u130 u131 u132 u133 u134 u135 u136 u137 u138 u139 u140 u141 u142 u143 u144 u145 u146 u147 u148 u149 u150 u151 u152 u153 u154 u155 u156 u157 u158 u159 u160 u161 u162 u163 u164 u165 u166 u167 u168 u169 u170 u171 u172 u173 u174 u175 u176 u177 u178 u179 u180 u181 : Value} {Q0 : Exit → Act → World → Prop}
    (hnext : ∀ (d' : Nat) (W' : World) (x10 x11 x12 x13 x14 x15 x16 x17 x18 x47 x48 x49 x50 x51 x52 x53 x54 x55 x56 x57 x58 x59 x60 x61 x62 x63 x64 x65 x66 x67 x68 x69 x70 x71 x72 x73 x74 x75 x76 x77 x78 x79 x80 x81 x82 x83 x84 x85 x86 x87 x88 x89 x90 x91 x92 x93 x94 x95 x96 x97 x98 x99 x100 x101 x102 x103 x104 x105 x106 x107 x108 x109 x110 x111 x112 x113 x114 x115 x116 x117 x118 x119 x120 x121 x122 x123 x124 x125 x126 x127 x128 x129 x130 x131 x132 x133 x134 x135 x136 x137 x138 x139 x140 x141 x142 x143 x144 x145 x146 x147 x148 x149 x150 x151 x152 x153 x154 x155 x156 x157 x158 x159 x160 x161 x162 x163 x164 x165 x166 x167 x168 : Value), W' = w.ext [.cells (row32 h0) 49, .cells zero8 49, .cells (row32 (win q k)) 68, Ext.byteBlock s cap 5, .cells (row32 (rnd ⟨va, vb, vc, vd, ve, vf, vg, vh⟩ (at0 kws k) ((win q k).getD (k % 16) 0)).list) 49] d' → Q0 .normal ⟨List.toArray (u0 :: u1 :: .pointer (some ⟨w.heap.size, 0, none⟩) :: u3 :: .pointer (some ⟨w.heap.size + 1, 0, none⟩) :: .func (.func 33) #[] #[] :: .pointer (some ⟨w.heap.size + 2, 0, none⟩) :: u7 :: u8 :: .pointer (some ⟨w.heap.size + 4, 0, none⟩) :: x10 :: x11 :: x12 :: x13 :: x14 :: x15 :: x16 :: x17 :: x18 :: u19 :: u20 :: u21 :: u22 :: u23 :: u24 :: u25 :: u26 :: u27 :: u28 :: u29 :: u30 :: u31 :: u32 :: u33 :: u34 :: u35 :: u36 :: u37 :: u38 :: u39 :: u40 :: u41 :: u42 :: u43 :: u44 :: .agg (row32 kws) :: .int .i64 (↑k + 1) :: x47 :: x48 :: x49 :: x50 :: x51 :: x52 :: x53 :: x54 :: x55 :: x56 :: x57 :: x58 :: x59 :: x60 :: x61 :: x62 :: x63 :: x64 :: x65 :: x66 :: x67 :: x68 :: x69 :: x70 :: x71 :: x72 :: x73 :: x74 :: x75 :: x76 :: x77 :: x78 :: x79 :: x80 :: x81 :: x82 :: x83 :: x84 :: x85 :: x86 :: x87 :: x88 :: x89 :: x90 :: x91 :: x92 :: x93 :: x94 :: x95 :: x96 :: x97 :: x98 :: x99 :: x100 :: x101 :: x102 :: x103 :: x104 :: x105 :: x106 :: x107 :: x108 :: x109 :: x110 :: x111 :: x112 :: x113 :: x114 :: x115 :: x116 :: x117 :: x118 :: x119 :: x120 :: x121 :: x122 :: x123 :: x124 :: x125 :: x126 :: x127 :: x128 :: x129 :: x130 :: x131 :: x132 :: x133 :: x134 :: x135 :: x136 :: x137 :: x138 :: x139 :: x140 :: x141 :: x142 :: x143 :: x144 :: x145 :: x146 :: x147 :: x148 :: x149 :: x150 :: x151 :: x152 :: x153 :: x154 :: x155 :: x156 :: x157 :: x158 :: x159 :: x160 :: x161 :: x162 :: x163 :: x164 :: x165 :: x166 :: x167 :: x168 :: u169 :: u170 :: u171 :: u172 :: u173 :: u174 :: u175 :: u176 :: u177 :: u178 :: u179 :: u180 :: u181 :: []), []⟩ W') :
    stepBody2.wp Tryd.prog Q0 ⟨List.toArray (u0 :: u1 :: .pointer (some ⟨w.heap.size, 0, none⟩) :: u3 :: .pointer (some ⟨w.heap.size + 1, 0, none⟩) :: .func (.func 33) #[] #[] :: .pointer (some ⟨w.heap.size + 2, 0, none⟩) :: u7 :: u8 :: .pointer (some ⟨w.heap.size + 4, 0, none⟩) :: u10 :: u11 :: u12 :: u13 :: u14 :: u15 :: u16 :: u17 :: u18 :: u19 :: u20 :: u21 :: u22 :: u23 :: u24 :: u25 :: u26 :: u27 :: u28 :: u29 :: u30 :: u31 :: u32 :: u33 :: u34 :: u35 :: u36 :: u37 :: u38 :: u39 :: u40 :: u41 :: u42 :: u43 :: u44 :: .agg (row32 kws) :: .int .i64 ↑k :: u47 :: u48 :: u49 :: u50 :: u51 :: u52 :: u53 :: u54 :: u55 :: u56 :: u57 :: u58 :: u59 :: u60 :: u61 :: u62 :: u63 :: u64 :: u65 :: u66 :: u67 :: u68 :: u69 :: u70 :: u71 :: u72 :: u73 :: u74 :: u75 :: u76 :: u77 :: u78 :: u79 :: u80 :: u81 :: u82 :: u83 :: u84 :: u85 :: u86 :: u87 :: u88 :: u89 :: u90 :: u91 :: u92 :: u93 :: u94 :: u95 :: u96 :: u97 :: u98 :: u99 :: u100 :: u101 :: u102 :: u103 :: u104 :: u105 :: u106 :: u107 :: u108 :: u109 :: u110 :: u111 :: u112 :: u113 :: u114 :: u115 :: u116 :: u117 :: u118 :: u119 :: u120 :: u121 :: u122 :: u123 :: u124 :: u125 :: u126 :: u127 :: u128 :: u129 :: u130 :: u131 :: u132 :: u133 :: u134 :: u135 :: u136 :: u137 :: u138 :: u139 :: u140 :: u141 :: u142 :: u143 :: u144 :: u145 :: u146 :: u147 :: u148 :: u149 :: u150 :: u151 :: u152 :: u153 :: u154 :: u155 :: u156 :: u157 :: u158 :: u159 :: u160 :: u161 :: u162 :: u163 :: u164 :: u165 :: u166 :: u167 :: u168 :: u169 :: u170 :: u171 :: u172 :: u173 :: u174 :: u175 :: u176 :: u177 :: u178 :: u179 :: u180 :: u181 :: []), []⟩ (w.ext [.cells (row32 h0) 49, .cells zero8 49, .cells (row32 q) 68, Ext.byteBlock s cap 5, .cells (row32 [va, vb, vc, vd, ve, vf, vg, vh]) 49] d) := by
  conv => arg 2; whnf
  have hkn := kws_length
  by_cases h16 : 16 ≤ k
  · obtain ⟨x, hx⟩ : ∃ x, q[(k + 1) % 16]? = some x := ⟨_, getD_of (by omega)⟩
    obtain ⟨y, hy⟩ : ∃ y, q[(k + 14) % 16]? = some y := ⟨_, getD_of (by omega)⟩
    obtain ⟨z, hz⟩ : ∃ z, q[(k + 9) % 16]? = some z := ⟨_, getD_of (by omega)⟩
    obtain ⟨t, ht⟩ : ∃ t, q[k % 16]? = some t := ⟨_, getD_of (by omega)⟩
    obtain ⟨q', hq'⟩ : ∃ q', q' = win q k := ⟨_, rfl⟩
    have e : win q k = q.set (k % 16) (t + ((x.rotateRight 7 ^^^ x.rotateRight 18 ^^^ x >>> 3) + z + (y.rotateRight 17 ^^^ y.rotateRight 19 ^^^ y >>> 10))) := by
      unfold win s0 s1
      rw [if_pos h16]
      simp only [List.getD_eq_getElem?_getD, hx, hy, hz, ht, Option.getD_some]
    obtain ⟨t', ht'⟩ : ∃ t', q'[k % 16]? = some t' := ⟨_, getD_of (by rw [hq', win_length]; omega)⟩
    rw [← hq', List.getD_eq_getElem?_getD, ht', Option.getD_some] at hnext
    have E := Lib.hid (e.symm.trans hq'.symm)
    clear hq hq' e
    go_wp2
    go_quiet (fail)
    go_wp2
    refine Region2.quiet_tail 32 (by kernel_rfl) (by kernel_rfl) ?_
    simp only [List.take_succ_cons, List.take_zero, List.drop_succ_cons, List.drop_zero, Ext.drew, Ext.drewN]
    repeat (first
      | go_big_quiet_skip
      | (go_big_quiet_want; go_big_quiet_op; first
        | go_big_quiet_on
        | (apply Exists.intro; refine ⟨turn_still _ _ (by decide) _, ?_⟩; go_big_quiet_on)))
    refine wpQuiet_nil ?_
    go_wp2
    rw [E.out]
    clear hx hy hz ht E
    go_quiet (fail)
    go_wp2
    go_quiet ((exact Ext.quiet_same (turn_still _ _ (by decide) _)))
    go_wp2
    go_quiet ((exact Ext.quiet_same (turn_still _ _ (by decide) _)))
    go_wp2
    simp only [Ext.drewN]
    refine Region2.quiet_tail 2 (by kernel_rfl) (by kernel_rfl) ?_
    simp only [List.take_succ_cons, List.take_zero, List.drop_succ_cons, List.drop_zero, Ext.drew]
    repeat (first
      | go_big_quiet_skip
      | (go_big_quiet_want; go_big_quiet_op; go_big_quiet_on))
    refine wpQuiet_nil ?_
    go_wp2
    exact hnext _ _ _ _ _ _ _ _ _ _ _ _ _ _ _ _ _ _ _ _ _ _ _ _ _ _ _ _ _ _ _ _ _ _ _ _ _ _ _ _ _ _ _ _ _ _ _ _ _ _ _ _ _ _ _ _ _ _ _ _ _ _ _ _ _ _ _ _ _ _ _ _ _ _ _ _ _ _ _ _ _ _ _ _ _ _ _ _ _ _ _ _ _ _ _ _ _ _ _ _ _ _ _ _ _ _ _ _ _ _ _ _ _ _ _ _ _ _ _ _ _ _ _ _ _ _ _ _ _ _ _ _ _ rfl
  · obtain ⟨q', hq'⟩ : ∃ q', q' = win q k := ⟨_, rfl⟩
    have e : win q k = q := by
      unfold win
      rw [if_neg h16]
    obtain ⟨t', ht'⟩ : ∃ t', q'[k % 16]? = some t' := ⟨_, getD_of (by rw [hq', win_length]; omega)⟩
    rw [← hq', List.getD_eq_getElem?_getD, ht', Option.getD_some] at hnext
    have e2 : q = q' := e.symm.trans hq'.symm
    clear hq' e
    subst e2
    clear hq
    go_wp2
    go_quiet (fail)
    go_wp2
    go_quiet ((exact Ext.quiet_same (turn_still _ _ (by decide) _)))
    go_wp2
    go_quiet ((exact Ext.quiet_same (turn_still _ _ (by decide) _)))
    go_wp2
    simp only [Ext.drewN]
    refine Region2.quiet_tail 2 (by kernel_rfl) (by kernel_rfl) ?_
    simp only [List.take_succ_cons, List.take_zero, List.drop_succ_cons, List.drop_zero, Ext.drew]
    repeat (first
      | go_big_quiet_skip
      | (go_big_quiet_want; go_big_quiet_op; go_big_quiet_on))
    refine wpQuiet_nil ?_
    go_wp2
    exact hnext _ _ _ _ _ _ _ _ _ _ _ _ _ _ _ _ _ _ _ _ _ _ _ _ _ _ _ _ _ _ _ _ _ _ _ _ _ _ _ _ _ _ _ _ _ _ _ _ _ _ _ _ _ _ _ _ _ _ _ _ _ _ _ _ _ _ _ _ _ _ _ _ _ _ _ _ _ _ _ _ _ _ _ _ _ _ _ _ _ _ _ _ _ _ _ _ _ _ _ _ _ _ _ _ _ _ _ _ _ _ _ _ _ _ _ _ _ _ _ _ _ _ _ _ _ _ _ _ _ _ _ _ _ rfl
end Go.Proofs.YtcnligenhiiaaaaDoor
