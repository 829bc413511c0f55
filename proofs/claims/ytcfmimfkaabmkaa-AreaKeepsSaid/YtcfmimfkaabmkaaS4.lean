/- The walk of the law AreaKeeps. -/
import Derived.Test.YtcfmimfkaabmkaaS3K0
import Derived.Test.YtcfmimfkaabmkaaS3K1
import Derived.Test.YtcfmimfkaabmkaaS3K2
import Derived.Test.YtcfmimfkaabmkaaS3K3
import Derived.Test.YtcfmimfkaabmkaaS3K4
import Derived.Test.YtcfmimfkaabmkaaS3KO
set_option linter.unusedVariables false
set_option linter.unusedSimpArgs false
namespace Go.Proofs.Ytcfmimfkaabmkaa
open Go.RowKit
attribute [local go_sem] Oper.semAt_some
attribute [local irreducible] num
set_option maxHeartbeats 8000000 in
set_option maxRecDepth 1000000 in
theorem keep_sw (B k M J X cap7 : Nat) (kd : Int) (n at_ : Int) (s al : List UInt8) (lay L : Lay) (o7 : Option Addr) (x8 : Value) (w wc : World) (Qn : Act → World → Prop)
    (c0 c1 c2 c3 c4 c6 c9 c25 c26 c27 c28 c29 c30 c31 c32 c33 c34 c35 c36 c37 c38 c39 c40 c41 c42 c43 c44 c45 c46 c47 c48 c49 c50 c51 c52 c53 c54 c55 c56 c57 c58 c59 c60 c61 c62 c63 c64 c65 c66 c67 c254 c255 c256 c257 c258 c259 c260 u12 u13 u14 u15 u16 u17 u18 u19 u20 u21 u22 u23 u24 u69 u70 u71 u72 u73 u74 u75 u76 u77 u78 u79 u80 u81 u82 u83 u84 u85 u86 u87 u88 u89 u90 u91 u92 u93 u94 u95 u96 u97 u98 u99 u100 u101 u102 u103 u104 u105 u106 u107 u108 u109 u110 u111 u112 u113 u114 u115 u116 u117 u118 u119 u120 u121 u122 u123 u124 u125 u126 u127 u128 u129 u130 u131 u132 u133 u134 u135 u136 u137 u138 u139 u140 u141 u142 u143 u144 u145 u146 u147 u148 u149 u150 u151 u152 u153 u154 u155 u156 u157 u158 u159 u160 u161 u162 u163 u164 u165 u166 u167 u168 u169 u170 u171 u172 u173 u174 u175 u176 u177 u178 u179 u180 u181 u182 u183 u184 u185 u186 u187 u188 u189 u190 u191 u192 u193 u194 u195 u196 u197 u198 u199 u200 u201 u202 u203 u204 u205 u206 u207 u208 u209 u210 u211 u212 u213 u214 u215 u216 u217 u218 u219 u220 u221 u222 u223 u224 u225 u226 u227 u228 u229 u230 u231 u232 u233 u234 u235 u236 u237 u238 u239 u240 u241 u242 u243 u244 u245 u246 u247 u248 u249 u250 u251 u252 u253 : Value)
    (HIA : Hid (KeepI B w al lay L (.slice o7 M cap7) x8 wc)) (HML : Hid (L.length = M)) (hLk : M ≤ k) (hlt6 : k < 64) (hsl : s.length ≤ 2 ^ 63 - 1)
    (T0 : wc.cell? ⟨X, 0, none⟩ = some (.int .i64 kd)) (T1 : wc.cell? ⟨X, 1, none⟩ = some (.int .i64 n)) (T2 : wc.cell? ⟨X, 2, none⟩ = some (.int .i64 at_)) (T3 : wc.cell? ⟨X, 3, none⟩ = some (.string ⟨s.toArray⟩))
    (HTT : Hid (wc.heap[X]? = some (.cells #[.int .i64 kd, .int .i64 n, .int .i64 at_, .string ⟨s.toArray⟩] 73))) (hJ : 0 < M → J < M) (hJ1 : J ≤ 100)
    (HQ : Hid (∀ (al' : List UInt8) (lay' L' : Lay) (v7 v8 : Value) (wx : World) (y12 y13 y14 y15 y16 y17 y18 y19 y20 y21 y22 y23 y24 y69 y70 y71 y72 y73 y74 y75 y76 y77 y78 y79 y80 y81 y82 y83 y84 y85 y86 y87 y88 y89 y90 y91 y92 y93 y94 y95 y96 y97 y98 y99 y100 y101 y102 y103 y104 y105 y106 y107 y108 y109 y110 y111 y112 y113 y114 y115 y116 y117 y118 y119 y120 y121 y122 y123 y124 y125 y126 y127 y128 y129 y130 y131 y132 y133 y134 y135 y136 y137 y138 y139 y140 y141 y142 y143 y144 y145 y146 y147 y148 y149 y150 y151 y152 y153 y154 y155 y156 y157 y158 y159 y160 y161 y162 y163 y164 y165 y166 y167 y168 y169 y170 y171 y172 y173 y174 y175 y176 y177 y178 y179 y180 y181 y182 y183 y184 y185 y186 y187 y188 y189 y190 y191 y192 y193 y194 y195 y196 y197 y198 y199 y200 y201 y202 y203 y204 y205 y206 y207 y208 y209 y210 y211 y212 y213 y214 y215 y216 y217 y218 y219 y220 y221 y222 y223 y224 y225 y226 y227 y228 y229 y230 y231 y232 y233 y234 y235 y236 y237 y238 y239 y240 y241 y242 y243 y244 y245 y246 y247 y248 y249 y250 y251 y252 y253 : Value), L'.length ≤ k + 1 → Hid (KeepI B w al' lay' L' v7 v8 wx) → Qn ⟨#[c0, c1, c2, c3, c4, .string ⟨al'.toArray⟩, c6, v7, v8, c9, .pointer (some ⟨X, 0, none⟩), .int .i64 (J : Int), y12, y13, y14, y15, y16, y17, y18, y19, y20, y21, y22, y23, y24, c25, c26, c27, c28, c29, c30, c31, c32, c33, c34, c35, c36, c37, c38, c39, c40, c41, c42, c43, c44, c45, c46, c47, c48, c49, c50, c51, c52, c53, c54, c55, c56, c57, c58, c59, c60, c61, c62, c63, c64, c65, c66, c67, .int .i64 kd, y69, y70, y71, y72, y73, y74, y75, y76, y77, y78, y79, y80, y81, y82, y83, y84, y85, y86, y87, y88, y89, y90, y91, y92, y93, y94, y95, y96, y97, y98, y99, y100, y101, y102, y103, y104, y105, y106, y107, y108, y109, y110, y111, y112, y113, y114, y115, y116, y117, y118, y119, y120, y121, y122, y123, y124, y125, y126, y127, y128, y129, y130, y131, y132, y133, y134, y135, y136, y137, y138, y139, y140, y141, y142, y143, y144, y145, y146, y147, y148, y149, y150, y151, y152, y153, y154, y155, y156, y157, y158, y159, y160, y161, y162, y163, y164, y165, y166, y167, y168, y169, y170, y171, y172, y173, y174, y175, y176, y177, y178, y179, y180, y181, y182, y183, y184, y185, y186, y187, y188, y189, y190, y191, y192, y193, y194, y195, y196, y197, y198, y199, y200, y201, y202, y203, y204, y205, y206, y207, y208, y209, y210, y211, y212, y213, y214, y215, y216, y217, y218, y219, y220, y221, y222, y223, y224, y225, y226, y227, y228, y229, y230, y231, y232, y233, y234, y235, y236, y237, y238, y239, y240, y241, y242, y243, y244, y245, y246, y247, y248, y249, y250, y251, y252, y253, c254, c255, c256, c257, c258, c259, c260], []⟩ wx)) :
    Code.wp Try.prog swB (SwQ Qn) ⟨#[c0, c1, c2, c3, c4, .string ⟨al.toArray⟩, c6, .slice o7 M cap7, x8, c9, .pointer (some ⟨X, 0, none⟩), .int .i64 (J : Int), u12, u13, u14, u15, u16, u17, u18, u19, u20, u21, u22, u23, u24, c25, c26, c27, c28, c29, c30, c31, c32, c33, c34, c35, c36, c37, c38, c39, c40, c41, c42, c43, c44, c45, c46, c47, c48, c49, c50, c51, c52, c53, c54, c55, c56, c57, c58, c59, c60, c61, c62, c63, c64, c65, c66, c67, .int .i64 kd, u69, u70, u71, u72, u73, u74, u75, u76, u77, u78, u79, u80, u81, u82, u83, u84, u85, u86, u87, u88, u89, u90, u91, u92, u93, u94, u95, u96, u97, u98, u99, u100, u101, u102, u103, u104, u105, u106, u107, u108, u109, u110, u111, u112, u113, u114, u115, u116, u117, u118, u119, u120, u121, u122, u123, u124, u125, u126, u127, u128, u129, u130, u131, u132, u133, u134, u135, u136, u137, u138, u139, u140, u141, u142, u143, u144, u145, u146, u147, u148, u149, u150, u151, u152, u153, u154, u155, u156, u157, u158, u159, u160, u161, u162, u163, u164, u165, u166, u167, u168, u169, u170, u171, u172, u173, u174, u175, u176, u177, u178, u179, u180, u181, u182, u183, u184, u185, u186, u187, u188, u189, u190, u191, u192, u193, u194, u195, u196, u197, u198, u199, u200, u201, u202, u203, u204, u205, u206, u207, u208, u209, u210, u211, u212, u213, u214, u215, u216, u217, u218, u219, u220, u221, u222, u223, u224, u225, u226, u227, u228, u229, u230, u231, u232, u233, u234, u235, u236, u237, u238, u239, u240, u241, u242, u243, u244, u245, u246, u247, u248, u249, u250, u251, u252, u253, c254, c255, c256, c257, c258, c259, c260], []⟩ wc := by
  by_cases k0 : kd = 0
  · subst k0
    exact keep_0 B k M J X cap7 n at_ s al lay L o7 x8 w wc Qn c0 c1 c2 c3 c4 c6 c9 c25 c26 c27 c28 c29 c30 c31 c32 c33 c34 c35 c36 c37 c38 c39 c40 c41 c42 c43 c44 c45 c46 c47 c48 c49 c50 c51 c52 c53 c54 c55 c56 c57 c58 c59 c60 c61 c62 c63 c64 c65 c66 c67 c254 c255 c256 c257 c258 c259 c260 u12 u13 u14 u15 u16 u17 u18 u19 u20 u21 u22 u23 u24 u69 u70 u71 u72 u73 u74 u75 u76 u77 u78 u79 u80 u81 u82 u83 u84 u85 u86 u87 u88 u89 u90 u91 u92 u93 u94 u95 u96 u97 u98 u99 u100 u101 u102 u103 u104 u105 u106 u107 u108 u109 u110 u111 u112 u113 u114 u115 u116 u117 u118 u119 u120 u121 u122 u123 u124 u125 u126 u127 u128 u129 u130 u131 u132 u133 u134 u135 u136 u137 u138 u139 u140 u141 u142 u143 u144 u145 u146 u147 u148 u149 u150 u151 u152 u153 u154 u155 u156 u157 u158 u159 u160 u161 u162 u163 u164 u165 u166 u167 u168 u169 u170 u171 u172 u173 u174 u175 u176 u177 u178 u179 u180 u181 u182 u183 u184 u185 u186 u187 u188 u189 u190 u191 u192 u193 u194 u195 u196 u197 u198 u199 u200 u201 u202 u203 u204 u205 u206 u207 u208 u209 u210 u211 u212 u213 u214 u215 u216 u217 u218 u219 u220 u221 u222 u223 u224 u225 u226 u227 u228 u229 u230 u231 u232 u233 u234 u235 u236 u237 u238 u239 u240 u241 u242 u243 u244 u245 u246 u247 u248 u249 u250 u251 u252 u253 HIA HML hLk hlt6 hsl T0 T1 T2 T3 HTT hJ hJ1 HQ
  have e0 : (kd == 0) = false := by rw [beq_eq_false_iff_ne]; exact k0
  by_cases k1 : kd = 1
  · subst k1
    exact keep_1 B k M J X cap7 n at_ s al lay L o7 x8 w wc Qn c0 c1 c2 c3 c4 c6 c9 c25 c26 c27 c28 c29 c30 c31 c32 c33 c34 c35 c36 c37 c38 c39 c40 c41 c42 c43 c44 c45 c46 c47 c48 c49 c50 c51 c52 c53 c54 c55 c56 c57 c58 c59 c60 c61 c62 c63 c64 c65 c66 c67 c254 c255 c256 c257 c258 c259 c260 u12 u13 u14 u15 u16 u17 u18 u19 u20 u21 u22 u23 u24 u69 u70 u71 u72 u73 u74 u75 u76 u77 u78 u79 u80 u81 u82 u83 u84 u85 u86 u87 u88 u89 u90 u91 u92 u93 u94 u95 u96 u97 u98 u99 u100 u101 u102 u103 u104 u105 u106 u107 u108 u109 u110 u111 u112 u113 u114 u115 u116 u117 u118 u119 u120 u121 u122 u123 u124 u125 u126 u127 u128 u129 u130 u131 u132 u133 u134 u135 u136 u137 u138 u139 u140 u141 u142 u143 u144 u145 u146 u147 u148 u149 u150 u151 u152 u153 u154 u155 u156 u157 u158 u159 u160 u161 u162 u163 u164 u165 u166 u167 u168 u169 u170 u171 u172 u173 u174 u175 u176 u177 u178 u179 u180 u181 u182 u183 u184 u185 u186 u187 u188 u189 u190 u191 u192 u193 u194 u195 u196 u197 u198 u199 u200 u201 u202 u203 u204 u205 u206 u207 u208 u209 u210 u211 u212 u213 u214 u215 u216 u217 u218 u219 u220 u221 u222 u223 u224 u225 u226 u227 u228 u229 u230 u231 u232 u233 u234 u235 u236 u237 u238 u239 u240 u241 u242 u243 u244 u245 u246 u247 u248 u249 u250 u251 u252 u253 HIA HML hLk hlt6 hsl T0 T1 T2 T3 HTT hJ hJ1 HQ
  have e1 : (kd == 1) = false := by rw [beq_eq_false_iff_ne]; exact k1
  by_cases k2 : kd = 2
  · subst k2
    exact keep_2 B k M J X cap7 n at_ s al lay L o7 x8 w wc Qn c0 c1 c2 c3 c4 c6 c9 c25 c26 c27 c28 c29 c30 c31 c32 c33 c34 c35 c36 c37 c38 c39 c40 c41 c42 c43 c44 c45 c46 c47 c48 c49 c50 c51 c52 c53 c54 c55 c56 c57 c58 c59 c60 c61 c62 c63 c64 c65 c66 c67 c254 c255 c256 c257 c258 c259 c260 u12 u13 u14 u15 u16 u17 u18 u19 u20 u21 u22 u23 u24 u69 u70 u71 u72 u73 u74 u75 u76 u77 u78 u79 u80 u81 u82 u83 u84 u85 u86 u87 u88 u89 u90 u91 u92 u93 u94 u95 u96 u97 u98 u99 u100 u101 u102 u103 u104 u105 u106 u107 u108 u109 u110 u111 u112 u113 u114 u115 u116 u117 u118 u119 u120 u121 u122 u123 u124 u125 u126 u127 u128 u129 u130 u131 u132 u133 u134 u135 u136 u137 u138 u139 u140 u141 u142 u143 u144 u145 u146 u147 u148 u149 u150 u151 u152 u153 u154 u155 u156 u157 u158 u159 u160 u161 u162 u163 u164 u165 u166 u167 u168 u169 u170 u171 u172 u173 u174 u175 u176 u177 u178 u179 u180 u181 u182 u183 u184 u185 u186 u187 u188 u189 u190 u191 u192 u193 u194 u195 u196 u197 u198 u199 u200 u201 u202 u203 u204 u205 u206 u207 u208 u209 u210 u211 u212 u213 u214 u215 u216 u217 u218 u219 u220 u221 u222 u223 u224 u225 u226 u227 u228 u229 u230 u231 u232 u233 u234 u235 u236 u237 u238 u239 u240 u241 u242 u243 u244 u245 u246 u247 u248 u249 u250 u251 u252 u253 HIA HML hLk hlt6 hsl T0 T1 T2 T3 HTT hJ hJ1 HQ
  have e2 : (kd == 2) = false := by rw [beq_eq_false_iff_ne]; exact k2
  by_cases k3 : kd = 3
  · subst k3
    exact keep_3 B k M J X cap7 n at_ s al lay L o7 x8 w wc Qn c0 c1 c2 c3 c4 c6 c9 c25 c26 c27 c28 c29 c30 c31 c32 c33 c34 c35 c36 c37 c38 c39 c40 c41 c42 c43 c44 c45 c46 c47 c48 c49 c50 c51 c52 c53 c54 c55 c56 c57 c58 c59 c60 c61 c62 c63 c64 c65 c66 c67 c254 c255 c256 c257 c258 c259 c260 u12 u13 u14 u15 u16 u17 u18 u19 u20 u21 u22 u23 u24 u69 u70 u71 u72 u73 u74 u75 u76 u77 u78 u79 u80 u81 u82 u83 u84 u85 u86 u87 u88 u89 u90 u91 u92 u93 u94 u95 u96 u97 u98 u99 u100 u101 u102 u103 u104 u105 u106 u107 u108 u109 u110 u111 u112 u113 u114 u115 u116 u117 u118 u119 u120 u121 u122 u123 u124 u125 u126 u127 u128 u129 u130 u131 u132 u133 u134 u135 u136 u137 u138 u139 u140 u141 u142 u143 u144 u145 u146 u147 u148 u149 u150 u151 u152 u153 u154 u155 u156 u157 u158 u159 u160 u161 u162 u163 u164 u165 u166 u167 u168 u169 u170 u171 u172 u173 u174 u175 u176 u177 u178 u179 u180 u181 u182 u183 u184 u185 u186 u187 u188 u189 u190 u191 u192 u193 u194 u195 u196 u197 u198 u199 u200 u201 u202 u203 u204 u205 u206 u207 u208 u209 u210 u211 u212 u213 u214 u215 u216 u217 u218 u219 u220 u221 u222 u223 u224 u225 u226 u227 u228 u229 u230 u231 u232 u233 u234 u235 u236 u237 u238 u239 u240 u241 u242 u243 u244 u245 u246 u247 u248 u249 u250 u251 u252 u253 HIA HML hLk hlt6 hsl T0 T1 T2 T3 HTT hJ hJ1 HQ
  have e3 : (kd == 3) = false := by rw [beq_eq_false_iff_ne]; exact k3
  by_cases k4 : kd = 4
  · subst k4
    exact keep_4 B k M J X cap7 n at_ s al lay L o7 x8 w wc Qn c0 c1 c2 c3 c4 c6 c9 c25 c26 c27 c28 c29 c30 c31 c32 c33 c34 c35 c36 c37 c38 c39 c40 c41 c42 c43 c44 c45 c46 c47 c48 c49 c50 c51 c52 c53 c54 c55 c56 c57 c58 c59 c60 c61 c62 c63 c64 c65 c66 c67 c254 c255 c256 c257 c258 c259 c260 u12 u13 u14 u15 u16 u17 u18 u19 u20 u21 u22 u23 u24 u69 u70 u71 u72 u73 u74 u75 u76 u77 u78 u79 u80 u81 u82 u83 u84 u85 u86 u87 u88 u89 u90 u91 u92 u93 u94 u95 u96 u97 u98 u99 u100 u101 u102 u103 u104 u105 u106 u107 u108 u109 u110 u111 u112 u113 u114 u115 u116 u117 u118 u119 u120 u121 u122 u123 u124 u125 u126 u127 u128 u129 u130 u131 u132 u133 u134 u135 u136 u137 u138 u139 u140 u141 u142 u143 u144 u145 u146 u147 u148 u149 u150 u151 u152 u153 u154 u155 u156 u157 u158 u159 u160 u161 u162 u163 u164 u165 u166 u167 u168 u169 u170 u171 u172 u173 u174 u175 u176 u177 u178 u179 u180 u181 u182 u183 u184 u185 u186 u187 u188 u189 u190 u191 u192 u193 u194 u195 u196 u197 u198 u199 u200 u201 u202 u203 u204 u205 u206 u207 u208 u209 u210 u211 u212 u213 u214 u215 u216 u217 u218 u219 u220 u221 u222 u223 u224 u225 u226 u227 u228 u229 u230 u231 u232 u233 u234 u235 u236 u237 u238 u239 u240 u241 u242 u243 u244 u245 u246 u247 u248 u249 u250 u251 u252 u253 HIA HML hLk hlt6 hsl T0 T1 T2 T3 HTT hJ hJ1 HQ
  have e4 : (kd == 4) = false := by rw [beq_eq_false_iff_ne]; exact k4
  exact keep_O B k M J X cap7 kd n at_ s al lay L o7 x8 w wc Qn c0 c1 c2 c3 c4 c6 c9 c25 c26 c27 c28 c29 c30 c31 c32 c33 c34 c35 c36 c37 c38 c39 c40 c41 c42 c43 c44 c45 c46 c47 c48 c49 c50 c51 c52 c53 c54 c55 c56 c57 c58 c59 c60 c61 c62 c63 c64 c65 c66 c67 c254 c255 c256 c257 c258 c259 c260 u12 u13 u14 u15 u16 u17 u18 u19 u20 u21 u22 u23 u24 u69 u70 u71 u72 u73 u74 u75 u76 u77 u78 u79 u80 u81 u82 u83 u84 u85 u86 u87 u88 u89 u90 u91 u92 u93 u94 u95 u96 u97 u98 u99 u100 u101 u102 u103 u104 u105 u106 u107 u108 u109 u110 u111 u112 u113 u114 u115 u116 u117 u118 u119 u120 u121 u122 u123 u124 u125 u126 u127 u128 u129 u130 u131 u132 u133 u134 u135 u136 u137 u138 u139 u140 u141 u142 u143 u144 u145 u146 u147 u148 u149 u150 u151 u152 u153 u154 u155 u156 u157 u158 u159 u160 u161 u162 u163 u164 u165 u166 u167 u168 u169 u170 u171 u172 u173 u174 u175 u176 u177 u178 u179 u180 u181 u182 u183 u184 u185 u186 u187 u188 u189 u190 u191 u192 u193 u194 u195 u196 u197 u198 u199 u200 u201 u202 u203 u204 u205 u206 u207 u208 u209 u210 u211 u212 u213 u214 u215 u216 u217 u218 u219 u220 u221 u222 u223 u224 u225 u226 u227 u228 u229 u230 u231 u232 u233 u234 u235 u236 u237 u238 u239 u240 u241 u242 u243 u244 u245 u246 u247 u248 u249 u250 u251 u252 u253 HIA HML hLk hlt6 hsl T0 T1 T2 T3 HTT hJ hJ1 e0 e1 e2 e3 e4 HQ
set_option maxHeartbeats 8000000 in
set_option maxRecDepth 100000 in
theorem keeps_yes (N : Nat) (v : Value) (ss : List StepT) (w : World) (hN1 : 16 ≤ N) (hN2 : N ≤ 8192) (hR : RSt w v ss) (hl : ss.length ≤ maxLen) (hs : ∀ q ∈ ss, q.2.2.2.length ≤ maxLen) :
    Calls Try.prog 16 #[.int .i64 (N : Int), v] w (SanePost w) := by
  obtain ⟨o, cap, rfl, hc⟩ := hR
  have hnew : ∀ w, Calls Try.prog 27 #[.int .i64 (N : Int)] w (fun e w' => e = .returned (.tuple #[.string ⟨(zs N).toArray⟩, .int .i64 0]) ∧ Below w.heap.size w w') := fun w => by
    have h1 := new_any N w
    have h2 : newS (N : Int) = (zs N, 0) := by unfold newS; rw [if_neg (by omega), Int.toNat_natCast]
    unfold NewPost at h1
    rw [h2] at h1
    exact h1
  have hA0 : Area (zs N) [] := by
    have := area_render (lay := []) (n := N) (by decide) hN1 hN2 (by show 8 ≤ N; omega)
    rw [render_nil N (by omega)] at this
    exact this
  obtain ⟨m, hm⟩ : ∃ m, ss.length = m := ⟨_, rfl⟩
  rw [hm] at hl ⊢
  have HM := hid hm; have HC := hid hc; have HS := hid hs; have HNW := hid hnew; have HA0 := hid hA0
  clear hc hs hm hnew hA0
  unfold maxLen at hl
  have i1 : decide ((N : Int) < 16) = false := by simp; omega
  have i2 : decide ((8192 : Int) < (N : Int)) = false := by simp; omega
  go_enter Try.func16, Try.ntmps16
  go_wp2_with fail
  refine (sane_any _).mono ?_
  rintro e w0 ⟨rfl, hb0⟩
  have HB0 := hid hb0; clear hb0
  go_wp2_with fail
  refine (HNW.out _).mono ?_
  rintro e w1 ⟨rfl, hb1⟩
  have HB1 := hid (below_step hb1 HB0.out)
  have hz1 := HB1.out.size
  clear hb1
  go_wp2_with fail
  have hI0 : KeepI w.heap.size w (zs N) [] [] (.slice (some ⟨w1.heap.size, 0, none⟩) 0 0) (.slice (some ⟨w1.heap.size + 1, 0, none⟩) 0 0) ((w1.alloc (.cells #[] 37)).alloc (.cells #[] 9)) := by
    refine ⟨HA0.out, List.Perm.refl _, ?_, ?_, ?_, ?_⟩
    · exact (op_new w1 w.heap.size hz1).below ((Below.refl _ _).alloc (Nat.le_refl _) _)
    · have h := os_new (w1.alloc (.cells #[] 37)) w.heap.size (by simp; omega)
      rw [World.size_alloc] at h
      exact h
    · exact (HB1.out.alloc hz1 _).alloc (by simp; omega) _
    · simp; omega
  obtain ⟨W0, hW0⟩ : ∃ W0, (w1.alloc (.cells #[] 37)).alloc (.cells #[] 9) = W0 := ⟨_, rfl⟩
  obtain ⟨x7, hx7⟩ : ∃ x : Value, (.slice (some ⟨w1.heap.size, 0, none⟩) 0 0) = x := ⟨_, rfl⟩
  obtain ⟨x8, hx8⟩ : ∃ x : Value, (.slice (some ⟨w1.heap.size + 1, 0, none⟩) 0 0) = x := ⟨_, rfl⟩
  rw [hW0, hx7, hx8] at hI0
  rw [hW0, hx7, hx8]
  have HI0 := hid hI0
  clear hI0 hW0 hx7 hx8 hz1
  obtain ⟨B, hB⟩ : ∃ B, w.heap.size = B := ⟨_, rfl⟩
  have HBB := hid hB
  rw [hB] at HI0
  go_loopw [5, 7, 8, 9] (fun a v7 v8 i wr => ∃ (k : Nat) (al : List UInt8) (lay L : Lay), a = .string ⟨al.toArray⟩ ∧ i = .int .i64 k ∧ k ≤ m ∧ k ≤ 64 ∧ L.length ≤ k ∧ Hid (KeepI B w al lay L v7 v8 wr)) (fun _ _ _ i _ => m - (intOf i).toNat)
  case atStart => exact ⟨0, zs N, [], [], rfl, rfl, Nat.zero_le _, by omega, Nat.le_refl _, HI0⟩
  case round =>
    clear HI0
    obtain ⟨k, al, lay, L, rfl, rfl, hk, hk64, hLk, HI⟩ := hrel
    by_cases hlt : k < m
    rotate_left
    · go_wp2_with fail
      go_ret
      refine ⟨rfl, ?_⟩
      rw [HBB.out]
      exact HI.out.2.2.2.2.1
    by_cases hlt6 : k < 64
    rotate_left
    · have d0 : decide ((k : Int) < 64) = false := by simp; omega
      go_wp2_with fail
      go_ret
      refine ⟨rfl, ?_⟩
      rw [HBB.out]
      exact HI.out.2.2.2.2.1
    have d0 : decide ((k : Int) < 64) = true := by simp; omega
    obtain ⟨⟨kd, n, at_, s⟩, hq⟩ : ∃ q, ss[k]? = some q := ⟨_, List.getElem?_eq_getElem (by have := HM.out; omega)⟩
    have hsl := HS.out _ (List.mem_of_getElem? hq)
    have hHC := HC.out
    rcases hHC with hc | ⟨b, off, rfl, hbl, hc⟩
    · rw [hc] at hq; simp at hq
    obtain ⟨c0, c1, c2, c3⟩ := hc k _ hq
    have hBz := HBB.out
    have c0 := keepB HI.out.2.2.2.2.1 (by simp only; omega) c0
    have c1 := keepB HI.out.2.2.2.2.1 (by simp only; omega) c1
    have c2 := keepB HI.out.2.2.2.2.1 (by simp only; omega) c2
    have c3 := keepB HI.out.2.2.2.2.1 (by simp only; omega) c3
    simp only at c0 c1 c2 c3 hsl
    unfold maxLen at hsl
    obtain ⟨o7, cap7, e7, -⟩ := HI.out.2.2.1.rp
    have hpl : (psOf (itsOf L)).length = L.length := by rw [psOf_its, List.length_map]
    rw [hpl] at e7
    subst e7
    clear hc hq hBz hpl
    have HIA := hid (HI.out.below ((Below.refl _ _).alloc (Nat.le_refl _) (.cells #[.int .i64 kd, .int .i64 n, .int .i64 at_, .string ⟨s.toArray⟩] 73)))
    have T0 : (wr.alloc (.cells #[.int .i64 kd, .int .i64 n, .int .i64 at_, .string ⟨s.toArray⟩] 73)).cell? ⟨wr.heap.size, 0, none⟩ = some (.int .i64 kd) := cell_new _ _ _ 0 _ rfl
    have T1 : (wr.alloc (.cells #[.int .i64 kd, .int .i64 n, .int .i64 at_, .string ⟨s.toArray⟩] 73)).cell? ⟨wr.heap.size, 1, none⟩ = some (.int .i64 n) := cell_new _ _ _ 1 _ rfl
    have T2 : (wr.alloc (.cells #[.int .i64 kd, .int .i64 n, .int .i64 at_, .string ⟨s.toArray⟩] 73)).cell? ⟨wr.heap.size, 2, none⟩ = some (.int .i64 at_) := cell_new _ _ _ 2 _ rfl
    have T3 : (wr.alloc (.cells #[.int .i64 kd, .int .i64 n, .int .i64 at_, .string ⟨s.toArray⟩] 73)).cell? ⟨wr.heap.size, 3, none⟩ = some (.string ⟨s.toArray⟩) := cell_new _ _ _ 3 _ rfl
    have HTT := hid (heap_alloc_new wr (.cells #[.int .i64 kd, .int .i64 n, .int .i64 at_, .string ⟨s.toArray⟩] 73))
    go_upto_if 58 with (fail)
    obtain ⟨W1, hW1⟩ : ∃ W1, wr.alloc (.cells #[.int .i64 kd, .int .i64 n, .int .i64 at_, .string ⟨s.toArray⟩] 73) = W1 := ⟨_, rfl⟩
    obtain ⟨X, hX⟩ : ∃ X, wr.heap.size = X := ⟨_, rfl⟩
    rw [hW1] at HIA T0 T1 T2 T3 HTT ⊢
    rw [hX] at T0 T1 T2 T3 HTT ⊢
    clear hW1 hX c0 c1 c2 c3 HI
    obtain ⟨M, hM⟩ : ∃ M, L.length = M := ⟨_, rfl⟩
    rw [hM] at hLk HIA ⊢
    have HML := hid hM
    clear hM
    go_cut [11] (fun i wx => ∃ J : Nat, i = .int .i64 J ∧ (0 < M → J < M) ∧ J ≤ 100 ∧ wx = W1)
    case first =>
      by_cases hM0 : 0 < M
      · obtain ⟨J, hJM, hJ100, hw1, hmod, hw2, hw3, hm0⟩ := keep_index at_ M hM0 (by omega)
        obtain ⟨UU, hUU⟩ : ∃ u, IntKind.u64.wrap at_ = u := ⟨_, rfl⟩
        rw [hUU] at hmod
        go_wp2_with fail
        go_meet
        case rel => exact ⟨J, rfl, fun _ => hJM, hJ100, rfl⟩
      · go_wp2_with fail
        go_meet
        case rel => exact ⟨0, rfl, by omega, by omega, rfl⟩
    case rest =>
      obtain ⟨J, rfl, hJ, hJ1, hw⟩ := hcut
      subst hw
      go_upto_block 2 with (fail)
      go_cut [5, 7, 8] (fun a v7 v8 wx => ∃ (al' : List UInt8) (lay' L' : Lay), a = .string ⟨al'.toArray⟩ ∧ L'.length ≤ k + 1 ∧ Hid (KeepI B w al' lay' L' v7 v8 wx))
      case first =>
        refine sw_mono (keep_sw B k M J _ cap7 kd n at_ s al lay L o7 u8 w wc _ _ _ _ _ _ _ _ _ _ _ _ _ _ _ _ _ _ _ _ _ _ _ _ _ _ _ _ _ _ _ _ _ _ _ _ _ _ _ _ _ _ _ _ _ _ _ _ _ _ _ _ _ _ _ _ _ _ _ _ _ _ _ _ _ _ _ _ _ _ _ _ _ _ _ _ _ _ _ _ _ _ _ _ _ _ _ _ _ _ _ _ _ _ _ _ _ _ _ _ _ _ _ _ _ _ _ _ _ _ _ _ _ _ _ _ _ _ _ _ _ _ _ _ _ _ _ _ _ _ _ _ _ _ _ _ _ _ _ _ _ _ _ _ _ _ _ _ _ _ _ _ _ _ _ _ _ _ _ _ _ _ _ _ _ _ _ _ _ _ _ _ _ _ _ _ _ _ _ _ _ _ _ _ _ _ _ _ _ _ _ _ _ _ _ _ _ _ _ _ _ _ _ _ _ _ _ _ _ _ _ _ _ _ _ _ _ _ _ _ _ _ _ _ _ _ _ _ _ _ _ _ _ _ _ _ _ _ _ _ _ _ _ _ _ _ _ _ _ _ _ _ _ _ _ _  HIA HML hLk hlt6 hsl T0 T1 T2 T3 HTT hJ hJ1 ?_)
        unfold Hid
        intro al' lay' L' v7 v8 wx y12 y13 y14 y15 y16 y17 y18 y19 y20 y21 y22 y23 y24 y69 y70 y71 y72 y73 y74 y75 y76 y77 y78 y79 y80 y81 y82 y83 y84 y85 y86 y87 y88 y89 y90 y91 y92 y93 y94 y95 y96 y97 y98 y99 y100 y101 y102 y103 y104 y105 y106 y107 y108 y109 y110 y111 y112 y113 y114 y115 y116 y117 y118 y119 y120 y121 y122 y123 y124 y125 y126 y127 y128 y129 y130 y131 y132 y133 y134 y135 y136 y137 y138 y139 y140 y141 y142 y143 y144 y145 y146 y147 y148 y149 y150 y151 y152 y153 y154 y155 y156 y157 y158 y159 y160 y161 y162 y163 y164 y165 y166 y167 y168 y169 y170 y171 y172 y173 y174 y175 y176 y177 y178 y179 y180 y181 y182 y183 y184 y185 y186 y187 y188 y189 y190 y191 y192 y193 y194 y195 y196 y197 y198 y199 y200 y201 y202 y203 y204 y205 y206 y207 y208 y209 y210 y211 y212 y213 y214 y215 y216 y217 y218 y219 y220 y221 y222 y223 y224 y225 y226 y227 y228 y229 y230 y231 y232 y233 y234 y235 y236 y237 y238 y239 y240 y241 y242 y243 y244 y245 y246 y247 y248 y249 y250 y251 y252 y253 hl' hk'
        first
          | (go_wp2_with fail; go_meet; exact ⟨al', lay', L', rfl, hl', hk'⟩)
          | (go_step; go_meet; exact ⟨al', lay', L', rfl, hl', hk'⟩)
          | (show Met _ _ _; go_meet; exact ⟨al', lay', L', rfl, hl', hk'⟩)
      case rest =>
        obtain ⟨al', lay', L', rfl, hL', HI'⟩ := hcut
        obtain ⟨h1, h2, h3, h4, h5, h6⟩ := HI'.out
        have HH := hid (fun W (hb : Below wc.heap.size wc W) => held_any al' lay' L' u7 u8 W h1 h2 (h3.rp.below hb) (h4.rs.below hb))
        have HIK := HI'
        clear h1 h2 h3 h4 h5 h6
        go_wp2_with fail
        refine (HH.out _ (Below.refl _ _)).mono ?_
        rintro e w9 ⟨rfl, hb9⟩
        have HI9 : Hid (KeepI B w al' lay' L' u7 u8 w9) := HIK.out.below hb9
        clear hb9
        go_wp2_with fail
        go_roundw
        case rel => exact ⟨k + 1, al', lay', L', rfl, by first | rfl | go_num, by omega, by omega, hL', HI9⟩
        case measure => simp [intOf]; omega
set_option maxHeartbeats 4000000 in
set_option maxRecDepth 100000 in
theorem keeps_no (n : Int) (v : Value) (w : World) (h : n < 16 ∨ 8192 < n) : Calls Try.prog 16 #[.int .i64 n, v] w (SanePost w) := by
  have hnw : ∀ w, Calls Try.prog 27 #[.int .i64 n] w (fun e w' => e = .returned (.tuple #[.string ⟨#[]⟩, .int .i64 1]) ∧ Below w.heap.size w w') := fun w => by
    have h1 := new_any n w
    have h2 : newS n = ([], 1) := by unfold newS; rw [if_pos h]
    unfold NewPost at h1
    rw [h2] at h1
    exact h1
  have HNW := hid hnw; clear hnw
  by_cases h1 : n < 16
  · clear h
    go_enter Try.func16, Try.ntmps16
    go_wp2_with fail
    refine (sane_any _).mono ?_
    rintro e w1 ⟨rfl, hb1⟩
    have HB1 := hid hb1; clear hb1
    go_wp2_with fail
    refine (HNW.out _).mono ?_
    rintro e w2 ⟨rfl, hb2⟩
    have HB2 := hid (below_step hb2 HB1.out); clear hb2
    go_wp2_with fail
    go_ret
    exact ⟨rfl, HB2.out⟩
  · have h2 : 8192 < n := by omega
    clear h
    go_enter Try.func16, Try.ntmps16
    go_wp2_with fail
    refine (sane_any _).mono ?_
    rintro e w1 ⟨rfl, hb1⟩
    have HB1 := hid hb1; clear hb1
    go_wp2_with fail
    refine (HNW.out _).mono ?_
    rintro e w2 ⟨rfl, hb2⟩
    have HB2 := hid (below_step hb2 HB1.out); clear hb2
    go_wp2_with fail
    go_ret
    exact ⟨rfl, HB2.out⟩
theorem keeps_law (n : Int) (v : Value) (ss : List StepT) (w : World) (hR : RSt w v ss) (hl : ss.length ≤ maxLen) (hs : ∀ q ∈ ss, q.2.2.2.length ≤ maxLen) : Calls Try.prog 16 #[.int .i64 n, v] w (SanePost w) := by
  by_cases h : n < 16 ∨ 8192 < n
  · exact keeps_no n v w h
  · have := keeps_yes n.toNat v ss w (by omega) (by omega) hR hl hs
    rw [Int.toNat_of_nonneg (by omega)] at this
    exact this
end Go.Proofs.Ytcfmimfkaabmkaa
