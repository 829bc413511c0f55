/- AreaKeeps: the switch, kind 1. -/
import Derived.Test.YtcfmimfkaabmkaaS3
set_option linter.unusedVariables false
set_option linter.unusedSimpArgs false
namespace Go.Proofs.Ytcfmimfkaabmkaa
open Go.RowKit
attribute [local go_sem] Oper.semAt_some
attribute [local irreducible] num
set_option maxHeartbeats 8000000 in
set_option maxRecDepth 1000000 in
theorem keep_1 (B k M J X cap7 : Nat) (n at_ : Int) (s al : List UInt8) (lay L : Lay) (o7 : Option Addr) (x8 : Value) (w wc : World) (Qn : Act → World → Prop)
    (c0 c1 c2 c3 c4 c6 c9 c25 c26 c27 c28 c29 c30 c31 c32 c33 c34 c35 c36 c37 c38 c39 c40 c41 c42 c43 c44 c45 c46 c47 c48 c49 c50 c51 c52 c53 c54 c55 c56 c57 c58 c59 c60 c61 c62 c63 c64 c65 c66 c67 c254 c255 c256 c257 c258 c259 c260 u12 u13 u14 u15 u16 u17 u18 u19 u20 u21 u22 u23 u24 u69 u70 u71 u72 u73 u74 u75 u76 u77 u78 u79 u80 u81 u82 u83 u84 u85 u86 u87 u88 u89 u90 u91 u92 u93 u94 u95 u96 u97 u98 u99 u100 u101 u102 u103 u104 u105 u106 u107 u108 u109 u110 u111 u112 u113 u114 u115 u116 u117 u118 u119 u120 u121 u122 u123 u124 u125 u126 u127 u128 u129 u130 u131 u132 u133 u134 u135 u136 u137 u138 u139 u140 u141 u142 u143 u144 u145 u146 u147 u148 u149 u150 u151 u152 u153 u154 u155 u156 u157 u158 u159 u160 u161 u162 u163 u164 u165 u166 u167 u168 u169 u170 u171 u172 u173 u174 u175 u176 u177 u178 u179 u180 u181 u182 u183 u184 u185 u186 u187 u188 u189 u190 u191 u192 u193 u194 u195 u196 u197 u198 u199 u200 u201 u202 u203 u204 u205 u206 u207 u208 u209 u210 u211 u212 u213 u214 u215 u216 u217 u218 u219 u220 u221 u222 u223 u224 u225 u226 u227 u228 u229 u230 u231 u232 u233 u234 u235 u236 u237 u238 u239 u240 u241 u242 u243 u244 u245 u246 u247 u248 u249 u250 u251 u252 u253 : Value)
    (HIA : Hid (KeepI B w al lay L (.slice o7 M cap7) x8 wc)) (HML : Hid (L.length = M)) (hLk : M ≤ k) (hlt6 : k < 64) (hsl : s.length ≤ 2 ^ 63 - 1)
    (T0 : wc.cell? ⟨X, 0, none⟩ = some (.int .i64 1)) (T1 : wc.cell? ⟨X, 1, none⟩ = some (.int .i64 n)) (T2 : wc.cell? ⟨X, 2, none⟩ = some (.int .i64 at_)) (T3 : wc.cell? ⟨X, 3, none⟩ = some (.string ⟨s.toArray⟩))
    (HTT : Hid (wc.heap[X]? = some (.cells #[.int .i64 1, .int .i64 n, .int .i64 at_, .string ⟨s.toArray⟩] 73))) (hJ : 0 < M → J < M) (hJ1 : J ≤ 100)
    (HQ : Hid (∀ (al' : List UInt8) (lay' L' : Lay) (v7 v8 : Value) (wx : World) (y12 y13 y14 y15 y16 y17 y18 y19 y20 y21 y22 y23 y24 y69 y70 y71 y72 y73 y74 y75 y76 y77 y78 y79 y80 y81 y82 y83 y84 y85 y86 y87 y88 y89 y90 y91 y92 y93 y94 y95 y96 y97 y98 y99 y100 y101 y102 y103 y104 y105 y106 y107 y108 y109 y110 y111 y112 y113 y114 y115 y116 y117 y118 y119 y120 y121 y122 y123 y124 y125 y126 y127 y128 y129 y130 y131 y132 y133 y134 y135 y136 y137 y138 y139 y140 y141 y142 y143 y144 y145 y146 y147 y148 y149 y150 y151 y152 y153 y154 y155 y156 y157 y158 y159 y160 y161 y162 y163 y164 y165 y166 y167 y168 y169 y170 y171 y172 y173 y174 y175 y176 y177 y178 y179 y180 y181 y182 y183 y184 y185 y186 y187 y188 y189 y190 y191 y192 y193 y194 y195 y196 y197 y198 y199 y200 y201 y202 y203 y204 y205 y206 y207 y208 y209 y210 y211 y212 y213 y214 y215 y216 y217 y218 y219 y220 y221 y222 y223 y224 y225 y226 y227 y228 y229 y230 y231 y232 y233 y234 y235 y236 y237 y238 y239 y240 y241 y242 y243 y244 y245 y246 y247 y248 y249 y250 y251 y252 y253 : Value), L'.length ≤ k + 1 → Hid (KeepI B w al' lay' L' v7 v8 wx) → Qn ⟨#[c0, c1, c2, c3, c4, .string ⟨al'.toArray⟩, c6, v7, v8, c9, .pointer (some ⟨X, 0, none⟩), .int .i64 (J : Int), y12, y13, y14, y15, y16, y17, y18, y19, y20, y21, y22, y23, y24, c25, c26, c27, c28, c29, c30, c31, c32, c33, c34, c35, c36, c37, c38, c39, c40, c41, c42, c43, c44, c45, c46, c47, c48, c49, c50, c51, c52, c53, c54, c55, c56, c57, c58, c59, c60, c61, c62, c63, c64, c65, c66, c67, .int .i64 1, y69, y70, y71, y72, y73, y74, y75, y76, y77, y78, y79, y80, y81, y82, y83, y84, y85, y86, y87, y88, y89, y90, y91, y92, y93, y94, y95, y96, y97, y98, y99, y100, y101, y102, y103, y104, y105, y106, y107, y108, y109, y110, y111, y112, y113, y114, y115, y116, y117, y118, y119, y120, y121, y122, y123, y124, y125, y126, y127, y128, y129, y130, y131, y132, y133, y134, y135, y136, y137, y138, y139, y140, y141, y142, y143, y144, y145, y146, y147, y148, y149, y150, y151, y152, y153, y154, y155, y156, y157, y158, y159, y160, y161, y162, y163, y164, y165, y166, y167, y168, y169, y170, y171, y172, y173, y174, y175, y176, y177, y178, y179, y180, y181, y182, y183, y184, y185, y186, y187, y188, y189, y190, y191, y192, y193, y194, y195, y196, y197, y198, y199, y200, y201, y202, y203, y204, y205, y206, y207, y208, y209, y210, y211, y212, y213, y214, y215, y216, y217, y218, y219, y220, y221, y222, y223, y224, y225, y226, y227, y228, y229, y230, y231, y232, y233, y234, y235, y236, y237, y238, y239, y240, y241, y242, y243, y244, y245, y246, y247, y248, y249, y250, y251, y252, y253, c254, c255, c256, c257, c258, c259, c260], []⟩ wx)) :
    Code.wp Try.prog swB (SwQ Qn) ⟨#[c0, c1, c2, c3, c4, .string ⟨al.toArray⟩, c6, .slice o7 M cap7, x8, c9, .pointer (some ⟨X, 0, none⟩), .int .i64 (J : Int), u12, u13, u14, u15, u16, u17, u18, u19, u20, u21, u22, u23, u24, c25, c26, c27, c28, c29, c30, c31, c32, c33, c34, c35, c36, c37, c38, c39, c40, c41, c42, c43, c44, c45, c46, c47, c48, c49, c50, c51, c52, c53, c54, c55, c56, c57, c58, c59, c60, c61, c62, c63, c64, c65, c66, c67, .int .i64 1, u69, u70, u71, u72, u73, u74, u75, u76, u77, u78, u79, u80, u81, u82, u83, u84, u85, u86, u87, u88, u89, u90, u91, u92, u93, u94, u95, u96, u97, u98, u99, u100, u101, u102, u103, u104, u105, u106, u107, u108, u109, u110, u111, u112, u113, u114, u115, u116, u117, u118, u119, u120, u121, u122, u123, u124, u125, u126, u127, u128, u129, u130, u131, u132, u133, u134, u135, u136, u137, u138, u139, u140, u141, u142, u143, u144, u145, u146, u147, u148, u149, u150, u151, u152, u153, u154, u155, u156, u157, u158, u159, u160, u161, u162, u163, u164, u165, u166, u167, u168, u169, u170, u171, u172, u173, u174, u175, u176, u177, u178, u179, u180, u181, u182, u183, u184, u185, u186, u187, u188, u189, u190, u191, u192, u193, u194, u195, u196, u197, u198, u199, u200, u201, u202, u203, u204, u205, u206, u207, u208, u209, u210, u211, u212, u213, u214, u215, u216, u217, u218, u219, u220, u221, u222, u223, u224, u225, u226, u227, u228, u229, u230, u231, u232, u233, u234, u235, u236, u237, u238, u239, u240, u241, u242, u243, u244, u245, u246, u247, u248, u249, u250, u251, u252, u253, c254, c255, c256, c257, c258, c259, c260], []⟩ wc := by
  obtain ⟨hA, hPm, hOP, hOS, hBW, hBz⟩ := HIA.out
  have HA := hid hA; have HPM := hid hPm; have HOP := hid hOP; have HOS := hid hOS; have HBW := hid hBW
  have hLp : L.length ≤ k + 1 := by have := HML.out; omega
  have hal2 := hA.2.1
  have hkeep : ∀ wx, Below wc.heap.size wc wx → Hid (KeepI B w al lay L (.slice o7 M cap7) x8 wx) := fun wx hb => HIA.out.below hb
  have HKEEP := hid hkeep
  clear hA hPm hOP hOS hBW hkeep
  conv => arg 2; whnf
  by_cases hM0 : 0 < M
  · have hJM := hJ hM0
    have hm0 : ((M : Int) == 0) = false := by rw [beq_eq_false_iff_ne]; omega
    obtain ⟨⟨p, t⟩, hx⟩ : ∃ x, L[J]? = some x := ⟨_, List.getElem?_eq_getElem (by have := HML.out; omega)⟩
    obtain ⟨f1, f2, f3⟩ := held_free HA.out HPM.out hx
    have hcal : ∀ W, Calls Try.prog 22 #[.string ⟨al.toArray⟩, .int .i64 (p : Int)] W (fun e w' => e = .returned (.tuple #[.string ⟨(render al.length (rm p lay)).toArray⟩, .int .i64 0]) ∧ Below W.heap.size W w') := fun W => by
      have := free_any al (p : Int) lay W HA.out
      rw [f1] at this
      exact this
    obtain ⟨r1, hr1⟩ : ∃ a, render al.length (rm p lay) = a := ⟨_, rfl⟩
    rw [hr1] at hcal f2
    have HCAL := hid hcal; have HA2 := hid f2; have HA3 := hid f3
    have hpl : (psOf (itsOf L)).length = M := by rw [psOf_its, List.length_map]; exact HML.out
    have hbl : (bsOf (itsOf L)).length = M := by rw [bsOf_its, List.length_map]; exact HML.out
    obtain ⟨g, gc, hv, hgB, hgl, hgc, hcells⟩ := HOP.out.cells (by omega)
    obtain ⟨g2, gc2, rfl, hgB2, hgl2, hgc2, -⟩ := HOS.out.cells (by omega)
    rw [hpl] at hv hgc
    rw [hbl] at hgc2 HOS HKEEP HIA ⊢
    simp only [Value.slice.injEq, true_and] at hv
    obtain ⟨rfl, rfl⟩ := hv
    have hxp : (psOf (itsOf L))[J]? = some ((p : Int), (t.length : Int)) := by rw [psOf_its, List.getElem?_map, hx]; rfl
    have A0 := (hcells J _ hxp).1
    simp only at A0
    have HPL := hid hpl; have HBL := hid hbl
    clear hx f1 f2 f3 hcal hr1 hpl hbl hcells hxp
    go_wp2_with fail
    refine (HCAL.out _).mono ?_
    rintro e w6 ⟨rfl, hb6⟩
    have HOP6 := hid (HOP.out.below hb6); have HOS6 := hid (HOS.out.below hb6)
    have HB6 := hid (HBW.out.trans (hb6.mono hBz))
    have hz6 : B ≤ w6.heap.size := by have := hb6.size; omega
    clear hb6
    go_upto_region 30 with (fail)
    have q1 : (J : Int) ≤ cap7 := by omega
    have q2 : (J : Int) + 1 ≤ M := by omega
    have q3 : (0 : Int) ≤ (J : Int) + 1 := by omega
    have q4 : (J : Int) ≤ gc2 := by omega
    have hA33 : M - (J + 1) = 0 ∨ cutA g (J + 1) cap7 = ⟨g, (J + 1) * 2, none⟩ := by unfold cutA; split <;> simp <;> omega
    have hA49 : M - (J + 1) = 0 ∨ cutB g2 (J + 1) gc2 = ⟨g2, J + 1, none⟩ := by unfold cutB; split <;> simp <;> omega
    have HA33 := hid hA33; have HA49 := hid hA49
    clear hA33 hA49
    have hw1 : IntKind.i64.wrap ((J : Int) + 1) = (J : Int) + 1 := IntWalk.i64_in _ ⟨by omega, by omega⟩
    go_region_law (refine step_del rfl (.tmp 124) (.tmp 128) rfl B g M cap7 J (cap7 - (J + 1)) (cutA g (J + 1) cap7) (psOf (itsOf L)) (by simp [Act.eval, Act.put]) (by simp [Act.eval, Act.put]) (HOP6.out.below (by first | exact (Below.refl _ _).drew | exact Below.refl _ _)) HPL.out hJM HA33.out ?_; intro w7 hop7 hg7)
    have HOS7 := hid ((HOS6.out.below (Below.refl _ _).drew).kept (HOP6.out.below (Below.refl _ _).drew) hg7)
    have HB7 : Hid (Below B w w7) := (HOP6.out.below (Below.refl _ _).drew).grown (HB6.out.drew) hg7 hz6
    have hz7 : B ≤ w7.heap.size := by have := hg7.size; simp at this; omega
    have HOP7 := hid hop7
    clear hop7 hg7
    go_upto_region 31 with (fail)
    go_region_law (refine step_del49 rfl (.tmp 132) (.tmp 136) rfl B g2 M gc2 J (gc2 - (J + 1)) (cutB g2 (J + 1) gc2) (bsOf (itsOf L)) (by simp [Act.eval, Act.put]) (by simp [Act.eval, Act.put]) (HOS7.out.below (by first | exact (Below.refl _ _).drew | exact Below.refl _ _)) HBL.out hJM HA49.out ?_; intro w8 hos8 hg8)
    have HOP8 := hid ((HOP7.out.below (Below.refl _ _).drew).kept (HOS7.out.below (Below.refl _ _).drew) hg8)
    have HB8 : Hid (Below B w w8) := (HOS7.out.below (Below.refl _ _).drew).grown (HB7.out.drew) hg8 hz7
    have hz8 : B ≤ w8.heap.size := by have := hg8.size; simp at this; omega
    have HK8 : Hid (KeepI B w r1 (rm p lay) (L.eraseIdx J) (.slice (some ⟨g, 0, none⟩) (M - 1) cap7) (.slice (some ⟨g2, 0, none⟩) (M - 1) gc2) w8) := ⟨HA2.out, HA3.out, by rw [ps_erase]; exact HOP8.out, by rw [bs_erase]; exact hos8, HB8.out, hz8⟩
    have hlen : (L.eraseIdx J).length ≤ k + 1 := by have := HML.out; rw [List.length_eraseIdx]; split <;> omega
    clear hos8 hg8 hw1
    go_wp2_with fail
    exact HQ.out r1 (rm p lay) (L.eraseIdx J) _ _ _ _ _ _ _ _ _ _ _ _ _ _ _ _ _ _ _ _ _ _ _ _ _ _ _ _ _ _ _ _ _ _ _ _ _ _ _ _ _ _ _ _ _ _ _ _ _ _ _ _ _ _ _ _ _ _ _ _ _ _ _ _ _ _ _ _ _ _ _ _ _ _ _ _ _ _ _ _ _ _ _ _ _ _ _ _ _ _ _ _ _ _ _ _ _ _ _ _ _ _ _ _ _ _ _ _ _ _ _ _ _ _ _ _ _ _ _ _ _ _ _ _ _ _ _ _ _ _ _ _ _ _ _ _ _ _ _ _ _ _ _ _ _ _ _ _ _ _ _ _ _ _ _ _ _ _ _ _ _ _ _ _ _ _ _ _ _ _ _ _ _ _ _ _ _ _ _ _ _ _ _ _ _ _ _ _ _ _ _ _ _ _ _ _ _ _ _ _ _ hlen (HK8)
  · have hm0 : ((M : Int) == 0) = true := by rw [beq_iff_eq]; omega
    go_wp2_with fail
    exact HQ.out al lay L _ _ _ _ _ _ _ _ _ _ _ _ _ _ _ _ _ _ _ _ _ _ _ _ _ _ _ _ _ _ _ _ _ _ _ _ _ _ _ _ _ _ _ _ _ _ _ _ _ _ _ _ _ _ _ _ _ _ _ _ _ _ _ _ _ _ _ _ _ _ _ _ _ _ _ _ _ _ _ _ _ _ _ _ _ _ _ _ _ _ _ _ _ _ _ _ _ _ _ _ _ _ _ _ _ _ _ _ _ _ _ _ _ _ _ _ _ _ _ _ _ _ _ _ _ _ _ _ _ _ _ _ _ _ _ _ _ _ _ _ _ _ _ _ _ _ _ _ _ _ _ _ _ _ _ _ _ _ _ _ _ _ _ _ _ _ _ _ _ _ _ _ _ _ _ _ _ _ _ _ _ _ _ _ _ _ _ _ _ _ _ _ _ _ _ _ _ _ _ _ _ hLp (HKEEP.out _ (Below.refl _ _))
end Go.Proofs.Ytcfmimfkaabmkaa
