/- append to a row of one's own, as a step of a region that draws its order. -/
import Derived.Test.YtifcgimpgbeocaaGreatK4
import Derived.Test.YtifcgimpgbeocaaGreatK5
import Derived.Shelf.Strings.Builder1
import Derived.Shelf.Strings.Builder2
import Derived.Shelf.Strings.BuilderF
import Derived.Shelf.Strings.BuilderK
import Derived.Shelf.Strings.Builder2Cap
import Derived.Shelf.Strings.Prefix
import Derived.Shelf.Bits.Mul64
import Derived.Shelf.Strings.Repeat
import Derived.Shelf.Strings.BuilderCap
import Derived.Test.YtifcgimpgbeocaaGreatProg
import Derived.Test.YtifcgimpgbeocaaGreatK3
import Derived.Test.YtifcgimpgbeocaaGreatK2
set_option linter.unusedVariables false
set_option linter.unusedSimpArgs false
namespace Go.Proofs.YtifcgimpgbeocaaGreat
open Go.RowKit
theorem step_append_own {ops : Array Oper} {o : Oper} {a : Act} {w : World} {K : Act → World → Prop} {Q : Exit → Act → World → Prop} {E : Prop} (hgd : o.guard = none) (s x : Operand) (t e : TypeId)
    (ho : o.op = .call { callee := .builtin .append, args := #[s, x], argTypes := #[t, t] }) (i : TypeInfo) (z : Value) (size bytes : Nat) (ht : Tryz.prog.underlying t = some (.slice e)) (hi : Tryz.prog.info? e = some i) (hz : i.zero = some z)
    (hsize : i.size = size) (hby : i.bytes = bytes) (hzs : z.cells.size = size) (hsz : 0 < size) (B : Nat) (v : Value) (n : Nat) (xs : List Value) (hs : a.eval s = v) (hown : w.ownsRow B e size v n xs)
    (ad : Addr) (m c : Nat) (news : List Value) (hx : a.eval x = .slice (some ad) m c) (hl : news.length = m * size) (hnews : ∀ j u, news[j]? = some u → w.cell? (ad.add j) = some u) (h1 : ∀ u ∈ news, u.oneCell' = true)
    (h63 : n + m ≤ maxLen) (hbytes : (n + m) * bytes ≤ 140737488355328) (hb : B ≤ w.heap.size)
    (h : ∀ v' w', w'.ownsRow B e size v' (n + m) (xs ++ news) → w.grownBy w' v.ownBlock → (v'.ownBlock = v.ownBlock ∨ v'.ownBlock = some w.heap.size) → K (a.put o.dst v') w') :
    if Region.wanted o (yielded ops a.tmps) = true then Oper.wp Tryz.prog o a w K Q else E := by
  have hw : Region.wanted o (yielded ops a.tmps) = true := by simp [Region.wanted, hgd]
  rw [if_pos hw]
  obtain ⟨v', w', hrun, h2, h3, -, h4⟩ := run_append_own_at (P := Tryz.prog) w B t o.type e i z size bytes ht hi hz hsize hby hzs hsz v n xs hown ad m c news hl hnews h1 h63 hbytes hb
  unfold Oper.wp
  simp [execOp, ho, resolve, invoke, builtin, hs, hx, hrun, Result.andThen]
  exact h _ _ h2 h3 h4
theorem uponX_append_own {o : Oper} {a : Act} {w : World} {R : Value → World → Prop} (s x : Operand) (t e : TypeId)
    (ho : o.op = .call { callee := .builtin .append, args := #[s, x], argTypes := #[t, t] }) (i : TypeInfo) (z : Value) (size bytes : Nat) (ht : Tryz.prog.underlying t = some (.slice e)) (hi : Tryz.prog.info? e = some i) (hz : i.zero = some z)
    (hsize : i.size = size) (hby : i.bytes = bytes) (hzs : z.cells.size = size) (hsz : 0 < size) (B : Nat) (v : Value) (n : Nat) (xs : List Value) (hs : a.eval s = v) (hown : w.ownsRow B e size v n xs)
    (ad : Addr) (m c : Nat) (news : List Value) (hx : a.eval x = .slice (some ad) m c) (hl : news.length = m * size) (hnews : ∀ j u, news[j]? = some u → w.cell? (ad.add j) = some u) (h1 : ∀ u ∈ news, u.oneCell' = true)
    (h63 : n + m ≤ maxLen) (hbytes : (n + m) * bytes ≤ 140737488355328) (hb : B ≤ w.heap.size)
    (h : ∀ v' w', w'.ownsRow B e size v' (n + m) (xs ++ news) → w.grownBy w' v.ownBlock → (v'.ownBlock = v.ownBlock ∨ v'.ownBlock = some w.heap.size) → R v' w') :
    uponX Tryz.prog R ((execOp a.eval o).run Tryz.prog w) := by
  obtain ⟨v', w', hrun, h2, h3, -, h4⟩ := run_append_own_at (P := Tryz.prog) w B t o.type e i z size bytes ht hi hz hsize hby hzs hsz v n xs hown ad m c news hl hnews h1 h63 hbytes hb
  simp [execOp, ho, resolve, invoke, builtin, hs, hx, hrun, Result.andThen]
  exact h _ _ h2 h3 h4
theorem step_appR {ops : Array Oper} {o : Oper} {a : Act} {w : World} {K : Act → World → Prop} {Q : Exit → Act → World → Prop} {E : Prop} (hgd : o.guard = none) (s x : Operand)
    (ho : o.op = .call { callee := .builtin .append, args := #[s, x], argTypes := #[69, 69] }) (B : Nat) (v : Value) (l : Ds) (y : Rec) (g c : Nat)
    (hs : a.eval s = v) (hx : a.eval x = .slice (some ⟨g, 0, none⟩) 1 c) (hP : OR w B v l) (hc : ∀ j u, (encR [y])[j]? = some u → w.cell? ⟨g, j, none⟩ = some u) (hn : l.length ≤ 1000000) (hb : B ≤ w.heap.size)
    (h : ∀ v' w', OR w' B v' (l ++ [y]) → w.grownBy w' v.ownBlock → (v'.ownBlock = v.ownBlock ∨ v'.ownBlock = some w.heap.size) → K (a.put o.dst v') w') : if Region.wanted o (yielded ops a.tmps) = true then Oper.wp Tryz.prog o a w K Q else E := by
  obtain ⟨i0, hi, hz0, hz1, hz2⟩ := info_parts infoR
  refine step_append_own hgd s x 69 59 ho i0 (.agg #[.string ⟨#[]⟩, .string ⟨#[]⟩]) 2 32 underR hi hz0 hz1 hz2 rfl (by decide) B v l.length (encR l) hs hP ⟨g, 0, none⟩ 1 c (encR [y]) hx rfl ?_ ?_ (by unfold maxLen; omega) (by omega) hb ?_
  · intro j u hj
    rw [addr_add, Nat.zero_add]
    exact hc j u hj
  · intro u hu
    obtain ⟨z, hz, hu⟩ := List.mem_flatMap.1 hu
    simp only [List.mem_cons, List.not_mem_nil, or_false] at hu
    rcases hu with rfl | rfl <;> rfl
  · intro v' w' hown hg hat
    refine h v' w' ?_ hg hat
    unfold OR
    rw [encR_append, List.length_append]
    exact hown
theorem upon_appR {o : Oper} {a : Act} {w : World} {R : Value → World → Prop} (s x : Operand)
    (ho : o.op = .call { callee := .builtin .append, args := #[s, x], argTypes := #[69, 69] }) (B : Nat) (v : Value) (l : Ds) (y : Rec) (g c : Nat)
    (hs : a.eval s = v) (hx : a.eval x = .slice (some ⟨g, 0, none⟩) 1 c) (hP : OR w B v l) (hc : ∀ j u, (encR [y])[j]? = some u → w.cell? ⟨g, j, none⟩ = some u) (hn : l.length ≤ 1000000) (hb : B ≤ w.heap.size)
    (h : ∀ v' w', OR w' B v' (l ++ [y]) → w.grownBy w' v.ownBlock → (v'.ownBlock = v.ownBlock ∨ v'.ownBlock = some w.heap.size) → R v' w') : uponX Tryz.prog R ((execOp a.eval o).run Tryz.prog w) := by
  obtain ⟨i0, hi, hz0, hz1, hz2⟩ := info_parts infoR
  refine uponX_append_own s x 69 59 ho i0 (.agg #[.string ⟨#[]⟩, .string ⟨#[]⟩]) 2 32 underR hi hz0 hz1 hz2 rfl (by decide) B v l.length (encR l) hs hP ⟨g, 0, none⟩ 1 c (encR [y]) hx rfl ?_ ?_ (by unfold maxLen; omega) (by omega) hb ?_
  · intro j u hj
    rw [addr_add, Nat.zero_add]
    exact hc j u hj
  · intro u hu
    obtain ⟨z, hz, hu⟩ := List.mem_flatMap.1 hu
    simp only [List.mem_cons, List.not_mem_nil, or_false] at hu
    rcases hu with rfl | rfl <;> rfl
  · intro v' w' hown hg hat
    refine h v' w' ?_ hg hat
    unfold OR
    rw [encR_append, List.length_append]
    exact hown
theorem step_appO {ops : Array Oper} {o : Oper} {a : Act} {w : World} {K : Act → World → Prop} {Q : Exit → Act → World → Prop} {E : Prop} (hgd : o.guard = none) (s x : Operand)
    (ho : o.op = .call { callee := .builtin .append, args := #[s, x], argTypes := #[36, 36] }) (B : Nat) (v : Value) (l : List FOp) (y : FOp) (g c : Nat)
    (hs : a.eval s = v) (hx : a.eval x = .slice (some ⟨g, 0, none⟩) 1 c) (hP : OO w B v l) (hc : ∀ j u, (encO [y])[j]? = some u → w.cell? ⟨g, j, none⟩ = some u) (hn : l.length ≤ 1000000) (hb : B ≤ w.heap.size)
    (h : ∀ v' w', OO w' B v' (l ++ [y]) → w.grownBy w' v.ownBlock → (v'.ownBlock = v.ownBlock ∨ v'.ownBlock = some w.heap.size) → K (a.put o.dst v') w') : if Region.wanted o (yielded ops a.tmps) = true then Oper.wp Tryz.prog o a w K Q else E := by
  obtain ⟨i0, hi, hz0, hz1, hz2⟩ := info_parts infoO
  refine step_append_own hgd s x 36 55 ho i0 (.agg #[.int .i64 0, .int .i64 0, .string ⟨#[]⟩, .string ⟨#[]⟩]) 4 48 underO hi hz0 hz1 hz2 rfl (by decide) B v l.length (encO l) hs hP ⟨g, 0, none⟩ 1 c (encO [y]) hx rfl ?_ ?_ (by unfold maxLen; omega) (by omega) hb ?_
  · intro j u hj
    rw [addr_add, Nat.zero_add]
    exact hc j u hj
  · intro u hu
    obtain ⟨z, hz, hu⟩ := List.mem_flatMap.1 hu
    simp only [List.mem_cons, List.not_mem_nil, or_false] at hu
    rcases hu with rfl | rfl | rfl | rfl <;> rfl
  · intro v' w' hown hg hat
    refine h v' w' ?_ hg hat
    unfold OO
    rw [encO_append, List.length_append]
    exact hown
theorem upon_appO {o : Oper} {a : Act} {w : World} {R : Value → World → Prop} (s x : Operand)
    (ho : o.op = .call { callee := .builtin .append, args := #[s, x], argTypes := #[36, 36] }) (B : Nat) (v : Value) (l : List FOp) (y : FOp) (g c : Nat)
    (hs : a.eval s = v) (hx : a.eval x = .slice (some ⟨g, 0, none⟩) 1 c) (hP : OO w B v l) (hc : ∀ j u, (encO [y])[j]? = some u → w.cell? ⟨g, j, none⟩ = some u) (hn : l.length ≤ 1000000) (hb : B ≤ w.heap.size)
    (h : ∀ v' w', OO w' B v' (l ++ [y]) → w.grownBy w' v.ownBlock → (v'.ownBlock = v.ownBlock ∨ v'.ownBlock = some w.heap.size) → R v' w') : uponX Tryz.prog R ((execOp a.eval o).run Tryz.prog w) := by
  obtain ⟨i0, hi, hz0, hz1, hz2⟩ := info_parts infoO
  refine uponX_append_own s x 36 55 ho i0 (.agg #[.int .i64 0, .int .i64 0, .string ⟨#[]⟩, .string ⟨#[]⟩]) 4 48 underO hi hz0 hz1 hz2 rfl (by decide) B v l.length (encO l) hs hP ⟨g, 0, none⟩ 1 c (encO [y]) hx rfl ?_ ?_ (by unfold maxLen; omega) (by omega) hb ?_
  · intro j u hj
    rw [addr_add, Nat.zero_add]
    exact hc j u hj
  · intro u hu
    obtain ⟨z, hz, hu⟩ := List.mem_flatMap.1 hu
    simp only [List.mem_cons, List.not_mem_nil, or_false] at hu
    rcases hu with rfl | rfl | rfl | rfl <;> rfl
  · intro v' w' hown hg hat
    refine h v' w' ?_ hg hat
    unfold OO
    rw [encO_append, List.length_append]
    exact hown
theorem step_appW {ops : Array Oper} {o : Oper} {a : Act} {w : World} {K : Act → World → Prop} {Q : Exit → Act → World → Prop} {E : Prop} (hgd : o.guard = none) (s x : Operand)
    (ho : o.op = .call { callee := .builtin .append, args := #[s, x], argTypes := #[23, 23] }) (B : Nat) (v : Value) (l : List Wt) (y : Wt) (g c : Nat)
    (hs : a.eval s = v) (hx : a.eval x = .slice (some ⟨g, 0, none⟩) 1 c) (hP : OW w B v l) (hc : ∀ j u, (encW [y])[j]? = some u → w.cell? ⟨g, j, none⟩ = some u) (hn : l.length ≤ 1000000) (hb : B ≤ w.heap.size)
    (h : ∀ v' w', OW w' B v' (l ++ [y]) → w.grownBy w' v.ownBlock → (v'.ownBlock = v.ownBlock ∨ v'.ownBlock = some w.heap.size) → K (a.put o.dst v') w') : if Region.wanted o (yielded ops a.tmps) = true then Oper.wp Tryz.prog o a w K Q else E := by
  obtain ⟨i0, hi, hz0, hz1, hz2⟩ := info_parts infoW
  refine step_append_own hgd s x 23 92 ho i0 (.agg #[.int .i64 0, .string ⟨#[]⟩]) 2 24 underW hi hz0 hz1 hz2 rfl (by decide) B v l.length (encW l) hs hP ⟨g, 0, none⟩ 1 c (encW [y]) hx rfl ?_ ?_ (by unfold maxLen; omega) (by omega) hb ?_
  · intro j u hj
    rw [addr_add, Nat.zero_add]
    exact hc j u hj
  · intro u hu
    obtain ⟨z, hz, hu⟩ := List.mem_flatMap.1 hu
    simp only [List.mem_cons, List.not_mem_nil, or_false] at hu
    rcases hu with rfl | rfl <;> rfl
  · intro v' w' hown hg hat
    refine h v' w' ?_ hg hat
    unfold OW
    rw [encW_append, List.length_append]
    exact hown
theorem upon_appW {o : Oper} {a : Act} {w : World} {R : Value → World → Prop} (s x : Operand)
    (ho : o.op = .call { callee := .builtin .append, args := #[s, x], argTypes := #[23, 23] }) (B : Nat) (v : Value) (l : List Wt) (y : Wt) (g c : Nat)
    (hs : a.eval s = v) (hx : a.eval x = .slice (some ⟨g, 0, none⟩) 1 c) (hP : OW w B v l) (hc : ∀ j u, (encW [y])[j]? = some u → w.cell? ⟨g, j, none⟩ = some u) (hn : l.length ≤ 1000000) (hb : B ≤ w.heap.size)
    (h : ∀ v' w', OW w' B v' (l ++ [y]) → w.grownBy w' v.ownBlock → (v'.ownBlock = v.ownBlock ∨ v'.ownBlock = some w.heap.size) → R v' w') : uponX Tryz.prog R ((execOp a.eval o).run Tryz.prog w) := by
  obtain ⟨i0, hi, hz0, hz1, hz2⟩ := info_parts infoW
  refine uponX_append_own s x 23 92 ho i0 (.agg #[.int .i64 0, .string ⟨#[]⟩]) 2 24 underW hi hz0 hz1 hz2 rfl (by decide) B v l.length (encW l) hs hP ⟨g, 0, none⟩ 1 c (encW [y]) hx rfl ?_ ?_ (by unfold maxLen; omega) (by omega) hb ?_
  · intro j u hj
    rw [addr_add, Nat.zero_add]
    exact hc j u hj
  · intro u hu
    obtain ⟨z, hz, hu⟩ := List.mem_flatMap.1 hu
    simp only [List.mem_cons, List.not_mem_nil, or_false] at hu
    rcases hu with rfl | rfl <;> rfl
  · intro v' w' hown hg hat
    refine h v' w' ?_ hg hat
    unfold OW
    rw [encW_append, List.length_append]
    exact hown
theorem step_appA {ops : Array Oper} {o : Oper} {a : Act} {w : World} {K : Act → World → Prop} {Q : Exit → Act → World → Prop} {E : Prop} (hgd : o.guard = none) (s x : Operand)
    (ho : o.op = .call { callee := .builtin .append, args := #[s, x], argTypes := #[37, 37] }) (B : Nat) (v : Value) (l : List Ac) (y : Ac) (g c : Nat)
    (hs : a.eval s = v) (hx : a.eval x = .slice (some ⟨g, 0, none⟩) 1 c) (hP : OA w B v l) (hc : ∀ j u, (encA [y])[j]? = some u → w.cell? ⟨g, j, none⟩ = some u) (hn : l.length ≤ 1000000) (hb : B ≤ w.heap.size)
    (h : ∀ v' w', OA w' B v' (l ++ [y]) → w.grownBy w' v.ownBlock → (v'.ownBlock = v.ownBlock ∨ v'.ownBlock = some w.heap.size) → K (a.put o.dst v') w') : if Region.wanted o (yielded ops a.tmps) = true then Oper.wp Tryz.prog o a w K Q else E := by
  obtain ⟨i0, hi, hz0, hz1, hz2⟩ := info_parts infoA
  refine step_append_own hgd s x 37 77 ho i0 (.agg #[.bool false, .int .i64 0, .string ⟨#[]⟩]) 3 32 underA hi hz0 hz1 hz2 rfl (by decide) B v l.length (encA l) hs hP ⟨g, 0, none⟩ 1 c (encA [y]) hx rfl ?_ ?_ (by unfold maxLen; omega) (by omega) hb ?_
  · intro j u hj
    rw [addr_add, Nat.zero_add]
    exact hc j u hj
  · intro u hu
    obtain ⟨z, hz, hu⟩ := List.mem_flatMap.1 hu
    simp only [List.mem_cons, List.not_mem_nil, or_false] at hu
    rcases hu with rfl | rfl | rfl <;> rfl
  · intro v' w' hown hg hat
    refine h v' w' ?_ hg hat
    unfold OA
    rw [encA_append, List.length_append]
    exact hown
theorem upon_appA {o : Oper} {a : Act} {w : World} {R : Value → World → Prop} (s x : Operand)
    (ho : o.op = .call { callee := .builtin .append, args := #[s, x], argTypes := #[37, 37] }) (B : Nat) (v : Value) (l : List Ac) (y : Ac) (g c : Nat)
    (hs : a.eval s = v) (hx : a.eval x = .slice (some ⟨g, 0, none⟩) 1 c) (hP : OA w B v l) (hc : ∀ j u, (encA [y])[j]? = some u → w.cell? ⟨g, j, none⟩ = some u) (hn : l.length ≤ 1000000) (hb : B ≤ w.heap.size)
    (h : ∀ v' w', OA w' B v' (l ++ [y]) → w.grownBy w' v.ownBlock → (v'.ownBlock = v.ownBlock ∨ v'.ownBlock = some w.heap.size) → R v' w') : uponX Tryz.prog R ((execOp a.eval o).run Tryz.prog w) := by
  obtain ⟨i0, hi, hz0, hz1, hz2⟩ := info_parts infoA
  refine uponX_append_own s x 37 77 ho i0 (.agg #[.bool false, .int .i64 0, .string ⟨#[]⟩]) 3 32 underA hi hz0 hz1 hz2 rfl (by decide) B v l.length (encA l) hs hP ⟨g, 0, none⟩ 1 c (encA [y]) hx rfl ?_ ?_ (by unfold maxLen; omega) (by omega) hb ?_
  · intro j u hj
    rw [addr_add, Nat.zero_add]
    exact hc j u hj
  · intro u hu
    obtain ⟨z, hz, hu⟩ := List.mem_flatMap.1 hu
    simp only [List.mem_cons, List.not_mem_nil, or_false] at hu
    rcases hu with rfl | rfl | rfl <;> rfl
  · intro v' w' hown hg hat
    refine h v' w' ?_ hg hat
    unfold OA
    rw [encA_append, List.length_append]
    exact hown
theorem step_appS {ops : Array Oper} {o : Oper} {a : Act} {w : World} {K : Act → World → Prop} {Q : Exit → Act → World → Prop} {E : Prop} (hgd : o.guard = none) (s x : Operand)
    (ho : o.op = .call { callee := .builtin .append, args := #[s, x], argTypes := #[22, 22] }) (B : Nat) (v : Value) (l : List Bs) (y : Bs) (g c : Nat)
    (hs : a.eval s = v) (hx : a.eval x = .slice (some ⟨g, 0, none⟩) 1 c) (hP : OS w B v l) (hc : ∀ j u, (encS [y])[j]? = some u → w.cell? ⟨g, j, none⟩ = some u) (hn : l.length ≤ 1000000) (hb : B ≤ w.heap.size)
    (h : ∀ v' w', OS w' B v' (l ++ [y]) → w.grownBy w' v.ownBlock → (v'.ownBlock = v.ownBlock ∨ v'.ownBlock = some w.heap.size) → K (a.put o.dst v') w') : if Region.wanted o (yielded ops a.tmps) = true then Oper.wp Tryz.prog o a w K Q else E := by
  obtain ⟨i0, hi, hz0, hz1, hz2⟩ := info_parts infoS
  refine step_append_own hgd s x 22 9 ho i0 (.string ⟨#[]⟩) 1 16 underS hi hz0 hz1 hz2 rfl (by decide) B v l.length (encS l) hs hP ⟨g, 0, none⟩ 1 c (encS [y]) hx rfl ?_ ?_ (by unfold maxLen; omega) (by omega) hb ?_
  · intro j u hj
    rw [addr_add, Nat.zero_add]
    exact hc j u hj
  · intro u hu
    obtain ⟨z, hz, hu⟩ := List.mem_flatMap.1 hu
    simp only [List.mem_cons, List.not_mem_nil, or_false] at hu
    subst hu; rfl
  · intro v' w' hown hg hat
    refine h v' w' ?_ hg hat
    unfold OS
    rw [encS_append, List.length_append]
    exact hown
theorem upon_appS {o : Oper} {a : Act} {w : World} {R : Value → World → Prop} (s x : Operand)
    (ho : o.op = .call { callee := .builtin .append, args := #[s, x], argTypes := #[22, 22] }) (B : Nat) (v : Value) (l : List Bs) (y : Bs) (g c : Nat)
    (hs : a.eval s = v) (hx : a.eval x = .slice (some ⟨g, 0, none⟩) 1 c) (hP : OS w B v l) (hc : ∀ j u, (encS [y])[j]? = some u → w.cell? ⟨g, j, none⟩ = some u) (hn : l.length ≤ 1000000) (hb : B ≤ w.heap.size)
    (h : ∀ v' w', OS w' B v' (l ++ [y]) → w.grownBy w' v.ownBlock → (v'.ownBlock = v.ownBlock ∨ v'.ownBlock = some w.heap.size) → R v' w') : uponX Tryz.prog R ((execOp a.eval o).run Tryz.prog w) := by
  obtain ⟨i0, hi, hz0, hz1, hz2⟩ := info_parts infoS
  refine uponX_append_own s x 22 9 ho i0 (.string ⟨#[]⟩) 1 16 underS hi hz0 hz1 hz2 rfl (by decide) B v l.length (encS l) hs hP ⟨g, 0, none⟩ 1 c (encS [y]) hx rfl ?_ ?_ (by unfold maxLen; omega) (by omega) hb ?_
  · intro j u hj
    rw [addr_add, Nat.zero_add]
    exact hc j u hj
  · intro u hu
    obtain ⟨z, hz, hu⟩ := List.mem_flatMap.1 hu
    simp only [List.mem_cons, List.not_mem_nil, or_false] at hu
    subst hu; rfl
  · intro v' w' hown hg hat
    refine h v' w' ?_ hg hat
    unfold OS
    rw [encS_append, List.length_append]
    exact hown
theorem cellsR (w : World) (b : Nat) (y : Rec) (h0 : w.cell? ⟨b, 0, none⟩ = some (strV y.1)) (h1 : w.cell? ⟨b, 1, none⟩ = some (strV y.2)) : ∀ j u, (encR [y])[j]? = some u → w.cell? ⟨b, j, none⟩ = some u
  | 0, u, h => by cases h; exact h0
  | 1, u, h => by cases h; exact h1
  | j + 2, u, h => by simp [encR] at h
theorem cellsW (w : World) (b : Nat) (y : Wt) (h0 : w.cell? ⟨b, 0, none⟩ = some (.int .i64 y.1)) (h1 : w.cell? ⟨b, 1, none⟩ = some (strV y.2)) : ∀ j u, (encW [y])[j]? = some u → w.cell? ⟨b, j, none⟩ = some u
  | 0, u, h => by cases h; exact h0
  | 1, u, h => by cases h; exact h1
  | j + 2, u, h => by simp [encW] at h
theorem cellsA (w : World) (b : Nat) (y : Ac) (h0 : w.cell? ⟨b, 0, none⟩ = some (.bool y.1)) (h1 : w.cell? ⟨b, 1, none⟩ = some (.int .i64 y.2.1)) (h2 : w.cell? ⟨b, 2, none⟩ = some (strV y.2.2)) : ∀ j u, (encA [y])[j]? = some u → w.cell? ⟨b, j, none⟩ = some u
  | 0, u, h => by cases h; exact h0
  | 1, u, h => by cases h; exact h1
  | 2, u, h => by cases h; exact h2
  | j + 3, u, h => by simp [encA] at h
theorem cellsO (w : World) (b : Nat) (y : FOp) (h0 : w.cell? ⟨b, 0, none⟩ = some (.int .i64 y.1)) (h1 : w.cell? ⟨b, 1, none⟩ = some (.int .i64 y.2.1)) (h2 : w.cell? ⟨b, 2, none⟩ = some (strV y.2.2.1)) (h3 : w.cell? ⟨b, 3, none⟩ = some (strV y.2.2.2)) : ∀ j u, (encO [y])[j]? = some u → w.cell? ⟨b, j, none⟩ = some u
  | 0, u, h => by cases h; exact h0
  | 1, u, h => by cases h; exact h1
  | 2, u, h => by cases h; exact h2
  | 3, u, h => by cases h; exact h3
  | j + 4, u, h => by simp [encO] at h
theorem cellsS (w : World) (b : Nat) (y : Bs) (h0 : w.cell? ⟨b, 0, none⟩ = some (strV y)) : ∀ j u, (encS [y])[j]? = some u → w.cell? ⟨b, j, none⟩ = some u
  | 0, u, h => by cases h; exact h0
  | j + 1, u, h => by simp [encS] at h
end Go.Proofs.YtifcgimpgbeocaaGreat
/- Rows of bytes in one block; strings made of them; bits. -/
set_option linter.unusedVariables false
set_option linter.unusedSimpArgs false
namespace Go.Proofs.YtifcgimpgbeocaaGreat
open Go.RowKit
theorem underB : Tryz.prog.underlying 131 = some (.slice 5) := by kernel_rfl
theorem under_u8 : Tryz.prog.underlying 5 = some (.int .u8) := by kernel_rfl
theorem under_str : Tryz.prog.underlying 9 = some .string := by kernel_rfl
theorem info_u8 : (Tryz.prog.info? 5).map (fun i => (i.zero, i.size, i.bytes)) = some (some (.int .u8 0), 1, 1) := by kernel_rfl
theorem sizeOf_u8 (w : World) : (sizeOf 5).run Tryz.prog w = .ok 1 w := by kernel_rfl
theorem elemB : Tryz.prog.elem 131 = 5 := by kernel_rfl
theorem sliceB : Tryz.prog.underlying 131 = some (.slice (Tryz.prog.elem 131)) := by kernel_rfl
/-- Block b is the bytes l. -/
def Bytes (w : World) (b : Nat) (l : List UInt8) : Prop := w.heap[b]? = some (.cells (l.map fun c => Value.int .u8 (c.toNat : Int)).toArray 5 (0, 0))
/-- The byte at i, as a number. -/
def byt (l : List UInt8) (i : Nat) : Int := (((l[i]?.getD 0).toNat : Nat) : Int)
theorem byt_bd (l : List UInt8) (i : Nat) : 0 ≤ byt l i ∧ byt l i ≤ 255 := by
  unfold byt; have := (l[i]?.getD 0).toNat_lt; omega
theorem Bytes.cell {w : World} {b : Nat} {l : List UInt8} (h : Bytes w b l) {i : Nat} (hi : i < l.length) : w.cell? ⟨b, i, none⟩ = some (.int .u8 (byt l i)) := by
  unfold Bytes at h
  simp [World.cell?, h, byt, List.getElem?_eq_getElem hi]
theorem Bytes.frozen {w : World} {b : Nat} {l : List UInt8} (h : Bytes w b l) (i : Nat) : w.frozen? ⟨b, i, none⟩ = false := by
  unfold Bytes at h
  simp [World.frozen?, h]
theorem Bytes.lt {w : World} {b : Nat} {l : List UInt8} (h : Bytes w b l) : b < w.heap.size := (Array.getElem?_eq_some_iff.1 h).1
theorem Bytes.below {w w' : World} {B b : Nat} {l : List UInt8} (h : Bytes w b l) (hb : Below B w w') (hB : b < B) : Bytes w' b l := (hb.block b hB).trans h
theorem Bytes.grown {w w' : World} {b : Nat} {l : List UInt8} {row : Option Nat} (h : Bytes w b l) (hg : w.grownBy w' row) (hne : row ≠ some b) : Bytes w' b l :=
  (hg.block b h.lt (Ne.symm hne)).trans h
theorem Bytes.set {w : World} {b i : Nat} {l : List UInt8} (h : Bytes w b l) (c : UInt8) : Bytes (w.setCell ⟨b, i, none⟩ (.int .u8 (c.toNat : Int))) b (l.set i c) := by
  unfold Bytes at *
  simp only [World.setCell, Array.getElem?_modify]
  simp [h, List.map_set]
theorem u8_of (n : Int) (m : Nat) (h : n = (m : Int)) : n % 256 = (((UInt8.ofNat m).toNat : Nat) : Int) := by
  subst h; simp
/-- The four bytes of n at k. -/
def setL (l : List UInt8) (k n : Nat) : List UInt8 :=
  (((l.set k (UInt8.ofNat (n / 16777216))).set (k + 1) (UInt8.ofNat (n / 65536))).set (k + 2) (UInt8.ofNat (n / 256))).set (k + 3) (UInt8.ofNat n)
theorem setL_length (l : List UInt8) (k n : Nat) : (setL l k n).length = l.length := by simp [setL]
/-- A list of bytes as cells. -/
def cellsB (l : List UInt8) : List Value := l.map fun c => Value.int .u8 (c.toNat : Int)
theorem cellsB_replicate (n : Nat) : cellsB (List.replicate n 0) = List.replicate n (.int .u8 0) := by simp [cellsB]
theorem run_makeB (w : World) (n : Nat) (hn : n ≤ 1000000) :
    (Instr.makeSlice 131 (.int .i64 (n : Int)) (.int .i64 (n : Int))).run Tryz.prog w = .ok (.slice (some ⟨w.heap.size, 0, none⟩) n n) (w.alloc (.cells (cellsB (List.replicate n 0)).toArray 5)) := by
  obtain ⟨i0, hi, hz0, hz1, hz2⟩ := info_parts info_u8
  have := run_make (P := Tryz.prog) w 131 5 i0 (.int .u8 0) underB hi hz0 .i64 .i64 n n (by omega) (Int.le_refl _) (by rw [hz2]; omega) (by omega)
  rw [this]
  have e : madeCells (Value.int IntKind.u8 0).cells (n * 1) = (cellsB (List.replicate n 0)).toArray := by
    apply Array.ext'
    rw [Nat.mul_one, show (Value.int IntKind.u8 0).cells = #[.int .u8 0] from rfl, toList_madeCells_one, cellsB_replicate]
  rw [Int.toNat_natCast, hz1, e]
theorem bytes_new (w : World) (l : List UInt8) : Bytes (w.alloc (.cells (cellsB l).toArray 5)) w.heap.size l := heap_alloc_new w _
/-- string(h), h a part of a block. -/
theorem run_str_of (w : World) (b k len cap : Nat) (m : List UInt8) (hm : m.length = len) (hc : ∀ i, i < len → w.cell? ⟨b, k + i, none⟩ = some (.int .u8 (byt m i))) :
    (convert 131 9 (.slice (some ⟨b, k, none⟩) len cap)).run Tryz.prog w = .ok (.string ⟨m.toArray⟩) w := by
  have := run_convert_bytes_arg (P := Tryz.prog) w 131 5 underB under_u8 b k len cap (m.map fun c => (c.toNat : Int)) (by simpa using hm) (fun i hi => by
    rw [hc i hi]
    simp [byt, List.getElem?_eq_getElem (show i < m.length by omega)]) 9 under_str
  rw [this]
  have e : strOfNums (m.map fun c => (c.toNat : Int)) = ⟨m.toArray⟩ := by
    unfold strOfNums
    rw [List.map_map]
    have : ((fun n : Int => UInt8.ofNat n.toNat) ∘ fun c : UInt8 => (c.toNat : Int)) = id := by
      funext c; simp
    rw [this, List.map_id]
  rw [e]
theorem run_strB (w : World) (b cap : Nat) (l : List UInt8) (hB : Bytes w b l) : (convert 131 9 (.slice (some ⟨b, 0, none⟩) l.length cap)).run Tryz.prog w = .ok (.string ⟨l.toArray⟩) w :=
  run_str_of w b 0 l.length cap l rfl (fun i hi => by rw [Nat.zero_add]; exact hB.cell hi)
/-- b[l:]. -/
theorem run_cutB (b off len cap : Nat) (w : World) (kl : IntKind) (l : Int) (h0 : 0 ≤ l) (h1 : l ≤ len) (h2 : l < cap) :
    (Instr.slice 131 (.slice (some ⟨b, off, none⟩) len cap) (some (.int kl l)) none none).run Tryz.prog w = .ok (.slice (some ⟨b, off + l.toNat, none⟩) (len - l.toNat) (cap - l.toNat)) w := by
  rw [run_slice_l (t := 131) (ht := sliceB) (kl := kl) (l := l) (h0 := h0) (h1 := h1), elemB, sizeOf_u8]
  simp only [Result.andThen, sliced, Nat.mul_one]
  have : l.toNat < cap := by omega
  split <;> simp_all [addr_add]
theorem str_at (s : ByteArray) (j : Int) (kd : IntKind) (h0 : 0 ≤ j) (h1 : j < s.size) (w : World) : (Instr.index 9 (.string s) (.int kd j)).run Tryz.prog w = .ok (.int .u8 (byt s.data.toList j.toNat)) w := by
  rw [run_index_string (t := 9) (h := under_str), dif_pos ⟨h0, h1⟩]
  have : byt s.data.toList j.toNat = ((s[j.toNat]'(by omega)).toNat : Int) := by
    unfold byt
    have hlt : j.toNat < s.data.toList.length := by rw [Array.length_toList]; show j.toNat < s.size; omega
    rw [List.getElem?_eq_getElem hlt]
    rfl
  rw [this]
theorem strv_at (s : Bs) (j : Nat) (kd : IntKind) (h1 : j < s.length) (w : World) : (Instr.index 9 (strV s) (.int kd (j : Int))).run Tryz.prog w = .ok (.int .u8 (byt s j)) w := by
  have h := str_at ⟨s.toArray⟩ (j : Int) kd (by omega) (by show (j : Int) < (s.toArray.size : Int); simp; omega) w
  rw [Int.toNat_natCast, List.toList_toArray] at h
  exact h
theorem wraps_i64 (n : Int) (h₀ : 0 ≤ n) (h₁ : n < 2 ^ 63) : IntKind.i64.wrap n = n := by rw [IntKind.wrap_i64]; omega
theorem i64_or8 (x y : Int) (hx₀ : 0 ≤ x) (hx : x % 256 = 0) (hx₁ : x < 4611686018427387904) (h₀ : 0 ≤ y) (h₁ : y < 256) : bits .or .i64 x y = x + y :=
  bits_join .i64 63 (by decide) wraps_i64 8 x y hx₀ hx (by omega) h₀ h₁ (by omega)
theorem balloc {w w1 : World} (h : Below w.heap.size w w1) (o : Obj) : Below w.heap.size w (w1.alloc o) := h.alloc h.size o
theorem grown_cell {w w1 : World} {row : Option Nat} {p : Addr} {v : Value} (h : w.grownBy w1 row) (hne : row ≠ some p.block) (k : w.cell? p = some v) : w1.cell? p = some v :=
  (World.cell?_of_block (h.block p.block (World.block_lt_of_cell? w p k) fun e => hne e.symm)).trans k
theorem num_of_bits (b0 b1 b2 b3 : Int) (h0 : 0 ≤ b0 ∧ b0 ≤ 255) (h1 : 0 ≤ b1 ∧ b1 ≤ 255) (h2 : 0 ≤ b2 ∧ b2 ≤ 255) (h3 : 0 ≤ b3 ∧ b3 ≤ 255) :
    bits .or .i64 (bits .or .i64 (bits .or .i64 (b0 * 16777216) (b1 * 65536)) (b2 * 256)) b3 = b0 * 16777216 + b1 * 65536 + b2 * 256 + b3 := by
  have e1 : bits .or .i64 (b0 * 16777216) (b1 * 65536) = b0 * 16777216 + b1 * 65536 :=
    bits_join .i64 63 (by decide) wraps_i64 24 (b0 * 16777216) (b1 * 65536) (by omega) (by omega) (by omega) (by omega) (by omega) (by omega)
  have e2 : bits .or .i64 (b0 * 16777216 + b1 * 65536) (b2 * 256) = b0 * 16777216 + b1 * 65536 + b2 * 256 :=
    bits_join .i64 63 (by decide) wraps_i64 16 _ (b2 * 256) (by omega) (by omega) (by omega) (by omega) (by omega) (by omega)
  rw [e1, e2]
  exact i64_or8 _ b3 (by omega) (by omega) (by omega) (by omega) (by omega)
end Go.Proofs.YtifcgimpgbeocaaGreat
/- Contracts of the library at this program, laid by the kit's tool. -/
namespace Go.Proofs
open Go.Shelf
def Tryz.lays170_ren : Go.Shelf.Ren := ⟨fun | 170 => 109 | n => n, fun | 70 => 137 | 3 => 3 | 0 => 0 | 72 => 139 | 37 => 131 | 5 => 5 | n => n, fun | n => n⟩
theorem Tryz.lays170 : Go.Proofs.Lays.n170 Tryz.prog Tryz.lays170_ren := {
  mixed := by kernel_rfl
  f170 := Tryz.func109.trans (congrArg some (by kernel_rfl))
  t0 := Tryz.underlying0
  a0 := Tryz.isAgg0
  z0 := Tryz.sizeOf0
  v0 := Tryz.zeroValue0
  t3 := Tryz.underlying3
  a3 := Tryz.isAgg3
  z3 := Tryz.sizeOf3
  v3 := Tryz.zeroValue3
  t37 := Tryz.underlying131
  a37 := Tryz.isAgg131
  z37 := Tryz.sizeOf131
  v37 := Tryz.zeroValue131
  t70 := Tryz.underlying137
  a70 := Tryz.isAgg137
  z70 := Tryz.sizeOf137
  v70 := Tryz.zeroValue137
  t72 := Tryz.underlying139
  a72 := Tryz.isAgg139
  z72 := Tryz.sizeOf139
  v72 := Tryz.zeroValue139 }
open Go.RowKit in
theorem Tryz.Builder_Len (B b : Nat) (bs : List Value) (w : World) (h : Lib.IsBuilder 139 5 B b bs w) :
    Calls Tryz.prog 109 #[.pointer (some ⟨b, 0, none⟩)] w fun e w' => e = .returned (.int .i64 bs.length) ∧ w' = w := Any.Builder_Len Tryz.lays170 B b bs w h
def Tryz.lays169_ren : Go.Shelf.Ren := ⟨fun | 169 => 84 | n => n, fun | 70 => 137 | 9 => 9 | 0 => 0 | 72 => 139 | 37 => 131 | 127 => 165 | 3 => 3 | 5 => 5 | n => n, fun | n => n⟩
theorem Tryz.lays169 : Go.Proofs.Lays.n169 Tryz.prog Tryz.lays169_ren := {
  mixed := by kernel_rfl
  f169 := Tryz.func84.trans (congrArg some (by kernel_rfl))
  t0 := Tryz.underlying0
  a0 := Tryz.isAgg0
  z0 := Tryz.sizeOf0
  v0 := Tryz.zeroValue0
  t3 := Tryz.underlying3
  a3 := Tryz.isAgg3
  z3 := Tryz.sizeOf3
  v3 := Tryz.zeroValue3
  t9 := Tryz.underlying9
  a9 := Tryz.isAgg9
  z9 := Tryz.sizeOf9
  v9 := Tryz.zeroValue9
  t37 := Tryz.underlying131
  a37 := Tryz.isAgg131
  z37 := Tryz.sizeOf131
  v37 := Tryz.zeroValue131
  t70 := Tryz.underlying137
  a70 := Tryz.isAgg137
  z70 := Tryz.sizeOf137
  v70 := Tryz.zeroValue137
  t72 := Tryz.underlying139
  a72 := Tryz.isAgg139
  z72 := Tryz.sizeOf139
  v72 := Tryz.zeroValue139
  t127 := Tryz.underlying165
  a127 := Tryz.isAgg165
  z127 := Tryz.sizeOf165
  v127 := Tryz.zeroValue165 }
theorem Tryz.Builder_Extra_169 : Builder.Extra Tryz.prog Tryz.lays169_ren := {
  sizeBuilder := by kernel_rfl
  liesBuilder := by kernel_rfl
  t5 := Tryz.underlying5
  a5 := Tryz.isAgg5
  z5 := Tryz.sizeOf5
  v5 := Tryz.zeroValue5
  infoByte := by kernel_rfl
  cellsByte := by kernel_rfl
  sizeByte := by kernel_rfl
  neB5 := by decide }
open Go.RowKit in
theorem Tryz.Builder_String (B b : Nat) (l : List UInt8) (w : World) (h : Lib.IsBuilder 139 5 B b (Lib.byteCells l) w) (h0 : l ≠ []) :
    Calls Tryz.prog 84 #[.pointer (some ⟨b, 0, none⟩)] w fun e w' => e = .returned (.string ⟨l.toArray⟩) ∧ Below B w w' := Any.Builder_String Tryz.lays169 Tryz.Builder_Extra_169 B b l w h h0
open Go.RowKit in
theorem Tryz.Builder_String_empty (B b : Nat) (w : World) (h : Lib.IsBuilder 139 5 B b [] w) (hBw : B ≤ w.heap.size) :
    Calls Tryz.prog 84 #[.pointer (some ⟨b, 0, none⟩)] w fun e w' => e = .returned (.string ⟨#[]⟩) ∧ Below B w w' := Any.Builder_String_empty Tryz.lays169 Tryz.Builder_Extra_169 B b w h hBw
open Go.RowKit in
theorem Tryz.Builder_String_any (B b : Nat) (l : List UInt8) (w : World) (h : Lib.IsBuilder 139 5 B b (Lib.byteCells l) w) (hBw : B ≤ w.heap.size) :
    Calls Tryz.prog 84 #[.pointer (some ⟨b, 0, none⟩)] w fun e w' => e = .returned (.string ⟨l.toArray⟩) ∧ Below B w w' := Any.Builder_String_any Tryz.lays169 Tryz.Builder_Extra_169 B b l w h hBw
def Tryz.lays241_ren : Go.Shelf.Ren := ⟨fun | 241 => 125 | 277 => 131 | n => n, fun | 70 => 137 | 3 => 3 | 0 => 0 | 72 => 139 | 37 => 131 | 5 => 5 | n => n, fun | n => n⟩
theorem Tryz.lays241 : Go.Proofs.Lays.n241 Tryz.prog Tryz.lays241_ren := {
  mixed := by kernel_rfl
  f241 := Tryz.func125.trans (congrArg some (by kernel_rfl))
  f277 := Tryz.func131.trans (congrArg some (by kernel_rfl))
  t0 := Tryz.underlying0
  a0 := Tryz.isAgg0
  z0 := Tryz.sizeOf0
  v0 := Tryz.zeroValue0
  t3 := Tryz.underlying3
  a3 := Tryz.isAgg3
  z3 := Tryz.sizeOf3
  v3 := Tryz.zeroValue3
  t37 := Tryz.underlying131
  a37 := Tryz.isAgg131
  z37 := Tryz.sizeOf131
  v37 := Tryz.zeroValue131
  t70 := Tryz.underlying137
  a70 := Tryz.isAgg137
  z70 := Tryz.sizeOf137
  v70 := Tryz.zeroValue137
  t72 := Tryz.underlying139
  a72 := Tryz.isAgg139
  z72 := Tryz.sizeOf139
  v72 := Tryz.zeroValue139 }
theorem Tryz.Builder_Extra_241 : Builder.Extra Tryz.prog Tryz.lays241_ren := {
  sizeBuilder := by kernel_rfl
  liesBuilder := by kernel_rfl
  t5 := Tryz.underlying5
  a5 := Tryz.isAgg5
  z5 := Tryz.sizeOf5
  v5 := Tryz.zeroValue5
  infoByte := by kernel_rfl
  cellsByte := by kernel_rfl
  sizeByte := by kernel_rfl
  neB5 := by decide }
open Go.RowKit in
theorem Tryz.Builder_grow_fresh (B b n : Nat) (w : World) (hB : B ≤ b) (hbk : w.heap[b]? = some (.cells #[.pointer (some ⟨b, 0, none⟩), .slice none 0 0] 139 (0, 0))) (hBw : B ≤ w.heap.size) (hn : n ≤ 281474976710656) :
    Calls Tryz.prog 125 #[.pointer (some ⟨b, 0, none⟩), .int .i64 n] w fun e w' => e = .returned (.tuple #[]) ∧ (Lib.BuilderAt 139 5 B b (.pointer (some ⟨b, 0, none⟩)) [] w' ∧ Below B w w') := Any.Builder_grow_fresh Tryz.lays241 Tryz.Builder_Extra_241 B b n w hB hbk hBw hn
def Tryz.lays165_ren : Go.Shelf.Ren := ⟨fun | 165 => 108 | 240 => 113 | 241 => 125 | 276 => 127 | 277 => 131 | n => n, fun | 70 => 137 | 3 => 3 | 0 => 0 | 4 => 4 | 9 => 9 | 20 => 20 | 72 => 139 | 37 => 131 | 164 => 179 | 5 => 5 | n => n, fun | n => n⟩
theorem Tryz.lays165 : Go.Proofs.Lays.n165 Tryz.prog Tryz.lays165_ren := {
  mixed := by kernel_rfl
  f165 := Tryz.func108.trans (congrArg some (by kernel_rfl))
  f240 := Tryz.func113.trans (congrArg some (by kernel_rfl))
  f241 := Tryz.func125.trans (congrArg some (by kernel_rfl))
  f276 := Tryz.func127.trans (congrArg some (by kernel_rfl))
  f277 := Tryz.func131.trans (congrArg some (by kernel_rfl))
  t0 := Tryz.underlying0
  a0 := Tryz.isAgg0
  z0 := Tryz.sizeOf0
  v0 := Tryz.zeroValue0
  t3 := Tryz.underlying3
  a3 := Tryz.isAgg3
  z3 := Tryz.sizeOf3
  v3 := Tryz.zeroValue3
  t4 := Tryz.underlying4
  a4 := Tryz.isAgg4
  z4 := Tryz.sizeOf4
  v4 := Tryz.zeroValue4
  t9 := Tryz.underlying9
  a9 := Tryz.isAgg9
  z9 := Tryz.sizeOf9
  v9 := Tryz.zeroValue9
  t20 := Tryz.underlying20
  a20 := Tryz.isAgg20
  z20 := Tryz.sizeOf20
  v20 := Tryz.zeroValue20
  t37 := Tryz.underlying131
  a37 := Tryz.isAgg131
  z37 := Tryz.sizeOf131
  v37 := Tryz.zeroValue131
  t70 := Tryz.underlying137
  a70 := Tryz.isAgg137
  z70 := Tryz.sizeOf137
  v70 := Tryz.zeroValue137
  t72 := Tryz.underlying139
  a72 := Tryz.isAgg139
  z72 := Tryz.sizeOf139
  v72 := Tryz.zeroValue139
  t164 := Tryz.underlying179
  a164 := Tryz.isAgg179
  z164 := Tryz.sizeOf179
  v164 := Tryz.zeroValue179 }
theorem Tryz.Builder_Extra_165 : Builder.Extra Tryz.prog Tryz.lays165_ren := {
  sizeBuilder := by kernel_rfl
  liesBuilder := by kernel_rfl
  t5 := Tryz.underlying5
  a5 := Tryz.isAgg5
  z5 := Tryz.sizeOf5
  v5 := Tryz.zeroValue5
  infoByte := by kernel_rfl
  cellsByte := by kernel_rfl
  sizeByte := by kernel_rfl
  neB5 := by decide }
open Go.RowKit in
theorem Tryz.Builder_Grow_fresh (B b n : Nat) (w : World) (hB : B ≤ b) (hbk : w.heap[b]? = some (.cells #[.pointer none, .slice none 0 0] 139 (0, 0))) (hBw : B ≤ w.heap.size) (hn : n ≤ 281474976710656) :
    Calls Tryz.prog 108 #[.pointer (some ⟨b, 0, none⟩), .int .i64 n] w fun e w' => e = .returned (.tuple #[]) ∧ (Lib.BuilderAt 139 5 B b (.pointer (some ⟨b, 0, none⟩)) [] w' ∧ Below B w w') := Any.Builder_Grow_fresh Tryz.lays165 Tryz.Builder_Extra_165 B b n w hB hbk hBw hn
open Go.RowKit in
theorem Tryz.Builder_Len_f (B b : Nat) (bs : List Value) (w : World) (h : Lib.IsBuilderF 139 5 B b bs w) :
    Calls Tryz.prog 109 #[.pointer (some ⟨b, 0, none⟩)] w fun e w' => e = .returned (.int .i64 bs.length) ∧ w' = w := Any.Builder_Len_f Tryz.lays170 B b bs w h
open Go.RowKit in
theorem Tryz.Builder_String_f (B b : Nat) (l : List UInt8) (w : World) (h : Lib.IsBuilderF 139 5 B b (Lib.byteCells l) w) (h0 : l ≠ []) :
    Calls Tryz.prog 84 #[.pointer (some ⟨b, 0, none⟩)] w fun e w' => e = .returned (.string ⟨l.toArray⟩) ∧ (Lib.IsBuilderF 139 5 B b (Lib.byteCells l) w' ∧ Below B w w') := Any.Builder_String_f Tryz.lays169 Tryz.Builder_Extra_169 B b l w h h0
open Go.RowKit in
theorem Tryz.Builder_String_empty_f (B b : Nat) (w : World) (h : Lib.IsBuilderF 139 5 B b [] w) (hBw : B ≤ w.heap.size) :
    Calls Tryz.prog 84 #[.pointer (some ⟨b, 0, none⟩)] w fun e w' => e = .returned (.string ⟨#[]⟩) ∧ (Lib.IsBuilderF 139 5 B b [] w' ∧ Below B w w') := Any.Builder_String_empty_f Tryz.lays169 Tryz.Builder_Extra_169 B b w h hBw
open Go.RowKit in
theorem Tryz.Builder_String_any_f (B b : Nat) (l : List UInt8) (w : World) (h : Lib.IsBuilderF 139 5 B b (Lib.byteCells l) w) (hBw : B ≤ w.heap.size) :
    Calls Tryz.prog 84 #[.pointer (some ⟨b, 0, none⟩)] w fun e w' => e = .returned (.string ⟨l.toArray⟩) ∧ (Lib.IsBuilderF 139 5 B b (Lib.byteCells l) w' ∧ Below B w w') := Any.Builder_String_any_f Tryz.lays169 Tryz.Builder_Extra_169 B b l w h hBw
open Go.RowKit in
theorem Tryz.Builder_String_k (B b : Nat) (l : List UInt8) (w : World) (h : Lib.IsBuilderF 139 5 B b (Lib.byteCells l) w) (h0 : l ≠ []) :
    Calls Tryz.prog 84 #[.pointer (some ⟨b, 0, none⟩)] w fun e w' => e = .returned (.string ⟨l.toArray⟩) ∧ (Lib.IsBuilderF 139 5 B b (Lib.byteCells l) w' ∧ Below B w w' ∧ Lib.OthersKept 5 (some b) w w') := Any.Builder_String_k Tryz.lays169 Tryz.Builder_Extra_169 B b l w h h0
open Go.RowKit in
theorem Tryz.Builder_String_empty_k (B b : Nat) (w : World) (h : Lib.IsBuilderF 139 5 B b [] w) (hBw : B ≤ w.heap.size) :
    Calls Tryz.prog 84 #[.pointer (some ⟨b, 0, none⟩)] w fun e w' => e = .returned (.string ⟨#[]⟩) ∧ (Lib.IsBuilderF 139 5 B b [] w' ∧ Below B w w' ∧ Lib.OthersKept 5 (some b) w w') := Any.Builder_String_empty_k Tryz.lays169 Tryz.Builder_Extra_169 B b w h hBw
open Go.RowKit in
theorem Tryz.Builder_String_any_k (B b : Nat) (l : List UInt8) (w : World) (h : Lib.IsBuilderF 139 5 B b (Lib.byteCells l) w) (hBw : B ≤ w.heap.size) :
    Calls Tryz.prog 84 #[.pointer (some ⟨b, 0, none⟩)] w fun e w' => e = .returned (.string ⟨l.toArray⟩) ∧ (Lib.IsBuilderF 139 5 B b (Lib.byteCells l) w' ∧ Below B w w' ∧ Lib.OthersKept 5 (some b) w w') := Any.Builder_String_any_k Tryz.lays169 Tryz.Builder_Extra_169 B b l w h hBw
open Go.RowKit in
theorem Tryz.Builder_grow_fresh_cap (B b n : Nat) (w : World) (hB : B ≤ b) (hbk : w.heap[b]? = some (.cells #[.pointer (some ⟨b, 0, none⟩), .slice none 0 0] 139 (0, 0))) (hBw : B ≤ w.heap.size) (hn : n ≤ 281474976710656) :
    Calls Tryz.prog 125 #[.pointer (some ⟨b, 0, none⟩), .int .i64 n] w fun e w' => e = .returned (.tuple #[]) ∧ (Lib.BuilderAt 139 5 B b (.pointer (some ⟨b, 0, none⟩)) [] w' ∧ Below B w w') ∧ ∃ p cap, w'.cell? ⟨b, 1, none⟩ = some (.slice p 0 cap) ∧ n ≤ cap := Any.Builder_grow_fresh_cap Tryz.lays241 Tryz.Builder_Extra_241 B b n w hB hbk hBw hn
open Go.RowKit in
theorem Tryz.Builder_Grow_fresh_cap (B b n : Nat) (w : World) (hB : B ≤ b) (hbk : w.heap[b]? = some (.cells #[.pointer none, .slice none 0 0] 139 (0, 0))) (hBw : B ≤ w.heap.size) (hn : n ≤ 281474976710656) :
    Calls Tryz.prog 108 #[.pointer (some ⟨b, 0, none⟩), .int .i64 n] w fun e w' => e = .returned (.tuple #[]) ∧ (Lib.BuilderAt 139 5 B b (.pointer (some ⟨b, 0, none⟩)) [] w' ∧ Below B w w') ∧ ∃ p cap, w'.cell? ⟨b, 1, none⟩ = some (.slice p 0 cap) ∧ n ≤ cap := Any.Builder_Grow_fresh_cap Tryz.lays165 Tryz.Builder_Extra_165 B b n w hB hbk hBw hn
def Tryz.lays206_ren : Go.Shelf.Ren := ⟨fun | 206 => 124 | n => n, fun | 9 => 9 | 4 => 4 | 3 => 3 | n => n, fun | n => n⟩
theorem Tryz.lays206 : Go.Proofs.Lays.n206 Tryz.prog Tryz.lays206_ren := {
  mixed := by kernel_rfl
  f206 := Tryz.func124.trans (congrArg some (by kernel_rfl))
  t3 := Tryz.underlying3
  a3 := Tryz.isAgg3
  z3 := Tryz.sizeOf3
  v3 := Tryz.zeroValue3
  t4 := Tryz.underlying4
  a4 := Tryz.isAgg4
  z4 := Tryz.sizeOf4
  v4 := Tryz.zeroValue4
  t9 := Tryz.underlying9
  a9 := Tryz.isAgg9
  z9 := Tryz.sizeOf9
  v9 := Tryz.zeroValue9 }
open Go.RowKit Go.Lib in
theorem Tryz.stringslite_HasPrefix (s p : ByteArray) (w : World) :
    Calls Tryz.prog 124 #[.string s, .string p] w fun e w' => e = .returned (.bool (Lib.hasPrefix s.data.toList p.data.toList)) ∧ w' = w := Any.stringslite_HasPrefix Tryz.lays206 s p w
def Tryz.lays99_ren : Go.Shelf.Ren := ⟨fun | 99 => 107 | 206 => 124 | n => n, fun | 9 => 9 | 4 => 4 | 3 => 3 | n => n, fun | n => n⟩
theorem Tryz.lays99 : Go.Proofs.Lays.n99 Tryz.prog Tryz.lays99_ren := {
  mixed := by kernel_rfl
  f99 := Tryz.func107.trans (congrArg some (by kernel_rfl))
  f206 := Tryz.func124.trans (congrArg some (by kernel_rfl))
  t3 := Tryz.underlying3
  a3 := Tryz.isAgg3
  z3 := Tryz.sizeOf3
  v3 := Tryz.zeroValue3
  t4 := Tryz.underlying4
  a4 := Tryz.isAgg4
  z4 := Tryz.sizeOf4
  v4 := Tryz.zeroValue4
  t9 := Tryz.underlying9
  a9 := Tryz.isAgg9
  z9 := Tryz.sizeOf9
  v9 := Tryz.zeroValue9 }
open Go.RowKit Go.Lib in
theorem Tryz.strings_HasPrefix (s p : ByteArray) (w : World) :
    Calls Tryz.prog 107 #[.string s, .string p] w fun e w' => e = .returned (.bool (Lib.hasPrefix s.data.toList p.data.toList)) ∧ w' = w := Any.strings_HasPrefix Tryz.lays99 s p w
def Tryz.lays264_ren : Go.Shelf.Ren := ⟨fun | 264 => 123 | n => n, fun | 53 => 175 | 46 => 136 | n => n, fun | n => n⟩
theorem Tryz.lays264 : Go.Proofs.Lays.n264 Tryz.prog Tryz.lays264_ren := {
  mixed := by kernel_rfl
  f264 := Tryz.func123.trans (congrArg some (by kernel_rfl))
  t46 := Tryz.underlying136
  a46 := Tryz.isAgg136
  z46 := Tryz.sizeOf136
  v46 := Tryz.zeroValue136
  t53 := Tryz.underlying175
  a53 := Tryz.isAgg175
  z53 := Tryz.sizeOf175
  v53 := Tryz.zeroValue175 }
open Go.RowKit Go.Lib in
theorem Tryz.bits_Mul64 (x y : Nat) (hx : x < 18446744073709551616) (hy : y < 18446744073709551616) (w : World) :
    Calls Tryz.prog 123 #[.int .u64 x, .int .u64 y] w fun e w' => e = .returned (.tuple #[.int .u64 ((x * y / 18446744073709551616 : Nat) : Int), .int .u64 ((x * y % 18446744073709551616 : Nat) : Int)]) ∧ w' = w := Any.bits_Mul64 Tryz.lays264 x y hx hy w
def Tryz.lays212_ren : Go.Shelf.Ren := ⟨fun | 212 => 106 | 263 => 122 | 264 => 123 | n => n, fun | 46 => 136 | 51 => 172 | 146 => 173 | 53 => 175 | 148 => 176 | n => n, fun | n => n⟩
theorem Tryz.lays212 : Go.Proofs.Lays.n212 Tryz.prog Tryz.lays212_ren := {
  mixed := by kernel_rfl
  f212 := Tryz.func106.trans (congrArg some (by kernel_rfl))
  f263 := Tryz.func122.trans (congrArg some (by kernel_rfl))
  f264 := Tryz.func123.trans (congrArg some (by kernel_rfl))
  t46 := Tryz.underlying136
  a46 := Tryz.isAgg136
  z46 := Tryz.sizeOf136
  v46 := Tryz.zeroValue136
  t51 := Tryz.underlying172
  a51 := Tryz.isAgg172
  z51 := Tryz.sizeOf172
  v51 := Tryz.zeroValue172
  t53 := Tryz.underlying175
  a53 := Tryz.isAgg175
  z53 := Tryz.sizeOf175
  v53 := Tryz.zeroValue175
  t146 := Tryz.underlying173
  a146 := Tryz.isAgg173
  z146 := Tryz.sizeOf173
  v146 := Tryz.zeroValue173
  t148 := Tryz.underlying176
  a148 := Tryz.isAgg176
  z148 := Tryz.sizeOf176
  v148 := Tryz.zeroValue176 }
open Go.RowKit Go.Lib in
theorem Tryz.bits_Mul (x y : Nat) (hx : x < 18446744073709551616) (hy : y < 18446744073709551616) (w : World) :
    Calls Tryz.prog 106 #[.int .u64 x, .int .u64 y] w fun e w' => e = .returned (.tuple #[.int .u64 ((x * y / 18446744073709551616 : Nat) : Int), .int .u64 ((x * y % 18446744073709551616 : Nat) : Int)]) ∧ w' = w := Any.bits_Mul Tryz.lays212 x y hx hy w
def Tryz.lays105_ren : Go.Shelf.Ren := ⟨fun | 105 => 73 | 212 => 106 | 99 => 107 | 165 => 108 | 166 => 82 | 170 => 109 | 169 => 84 | 263 => 122 | 264 => 123 | 206 => 124 | 240 => 113 | 241 => 125 | 276 => 127 | 277 => 131 | n => n, fun | 9 => 9 | 3 => 3 | 4 => 4 | 20 => 20 | 0 => 0 | 46 => 136 | 109 => 155 | 5 => 5 | 72 => 139 | 76 => 142 | 51 => 172 | 146 => 173 | 53 => 175 | 148 => 176 | 70 => 137 | 37 => 131 | 75 => 141 | 127 => 165 | 164 => 179 | 80 => 83 | n => n, fun | n => n⟩
theorem Tryz.lays105 : Go.Proofs.Lays.n105 Tryz.prog Tryz.lays105_ren := {
  mixed := by kernel_rfl
  f99 := Tryz.func107.trans (congrArg some (by kernel_rfl))
  f105 := Tryz.func73.trans (congrArg some (by kernel_rfl))
  f165 := Tryz.func108.trans (congrArg some (by kernel_rfl))
  f166 := Tryz.func82.trans (congrArg some (by kernel_rfl))
  f169 := Tryz.func84.trans (congrArg some (by kernel_rfl))
  f170 := Tryz.func109.trans (congrArg some (by kernel_rfl))
  f206 := Tryz.func124.trans (congrArg some (by kernel_rfl))
  f212 := Tryz.func106.trans (congrArg some (by kernel_rfl))
  f240 := Tryz.func113.trans (congrArg some (by kernel_rfl))
  f241 := Tryz.func125.trans (congrArg some (by kernel_rfl))
  f263 := Tryz.func122.trans (congrArg some (by kernel_rfl))
  f264 := Tryz.func123.trans (congrArg some (by kernel_rfl))
  f276 := Tryz.func127.trans (congrArg some (by kernel_rfl))
  f277 := Tryz.func131.trans (congrArg some (by kernel_rfl))
  t0 := Tryz.underlying0
  a0 := Tryz.isAgg0
  z0 := Tryz.sizeOf0
  v0 := Tryz.zeroValue0
  t3 := Tryz.underlying3
  a3 := Tryz.isAgg3
  z3 := Tryz.sizeOf3
  v3 := Tryz.zeroValue3
  t4 := Tryz.underlying4
  a4 := Tryz.isAgg4
  z4 := Tryz.sizeOf4
  v4 := Tryz.zeroValue4
  t5 := Tryz.underlying5
  a5 := Tryz.isAgg5
  z5 := Tryz.sizeOf5
  v5 := Tryz.zeroValue5
  t9 := Tryz.underlying9
  a9 := Tryz.isAgg9
  z9 := Tryz.sizeOf9
  v9 := Tryz.zeroValue9
  t20 := Tryz.underlying20
  a20 := Tryz.isAgg20
  z20 := Tryz.sizeOf20
  v20 := Tryz.zeroValue20
  t37 := Tryz.underlying131
  a37 := Tryz.isAgg131
  z37 := Tryz.sizeOf131
  v37 := Tryz.zeroValue131
  t46 := Tryz.underlying136
  a46 := Tryz.isAgg136
  z46 := Tryz.sizeOf136
  v46 := Tryz.zeroValue136
  t51 := Tryz.underlying172
  a51 := Tryz.isAgg172
  z51 := Tryz.sizeOf172
  v51 := Tryz.zeroValue172
  t53 := Tryz.underlying175
  a53 := Tryz.isAgg175
  z53 := Tryz.sizeOf175
  v53 := Tryz.zeroValue175
  t70 := Tryz.underlying137
  a70 := Tryz.isAgg137
  z70 := Tryz.sizeOf137
  v70 := Tryz.zeroValue137
  t72 := Tryz.underlying139
  a72 := Tryz.isAgg139
  z72 := Tryz.sizeOf139
  v72 := Tryz.zeroValue139
  t75 := Tryz.underlying141
  a75 := Tryz.isAgg141
  z75 := Tryz.sizeOf141
  v75 := Tryz.zeroValue141
  t76 := Tryz.underlying142
  a76 := Tryz.isAgg142
  z76 := Tryz.sizeOf142
  v76 := Tryz.zeroValue142
  t109 := Tryz.underlying155
  a109 := Tryz.isAgg155
  z109 := Tryz.sizeOf155
  v109 := Tryz.zeroValue155
  t127 := Tryz.underlying165
  a127 := Tryz.isAgg165
  z127 := Tryz.sizeOf165
  v127 := Tryz.zeroValue165
  t146 := Tryz.underlying173
  a146 := Tryz.isAgg173
  z146 := Tryz.sizeOf173
  v146 := Tryz.zeroValue173
  t148 := Tryz.underlying176
  a148 := Tryz.isAgg176
  z148 := Tryz.sizeOf176
  v148 := Tryz.zeroValue176
  t164 := Tryz.underlying179
  a164 := Tryz.isAgg179
  z164 := Tryz.sizeOf179
  v164 := Tryz.zeroValue179 }
theorem Tryz.Builder_Extra_105 : Builder.Extra Tryz.prog Tryz.lays105_ren := {
  sizeBuilder := by kernel_rfl
  liesBuilder := by kernel_rfl
  t5 := Tryz.underlying5
  a5 := Tryz.isAgg5
  z5 := Tryz.sizeOf5
  v5 := Tryz.zeroValue5
  infoByte := by kernel_rfl
  cellsByte := by kernel_rfl
  sizeByte := by kernel_rfl
  neB5 := by decide }
open Go.RowKit Go.Lib in
theorem Tryz.strings_Repeat_main (s : ByteArray) (c : Nat) (w : World) (hc2 : 2 ≤ c) (hc : c ≤ 9223372036854775807) (hlen : s.size * c ≤ 140737488355328) (h0 : 0 < s.size) :
    Calls Tryz.prog 73 #[.string s, .int .i64 c] w fun e w' => e = .returned (.string ⟨(Lib.repeatL s.data.toList c).toArray⟩) ∧ Below w.heap.size w w' := Any.strings_Repeat_main Tryz.lays105 Tryz.Builder_Extra_105 s c w hc2 hc hlen h0
open Go.RowKit Go.Lib in
theorem Tryz.strings_Repeat_zero (s : ByteArray) (w : World) :
    Calls Tryz.prog 73 #[.string s, .int .i64 0] w fun e w' => e = .returned (.string ⟨#[]⟩) ∧ w' = w := Any.strings_Repeat_zero Tryz.lays105 s w
open Go.RowKit Go.Lib in
theorem Tryz.strings_Repeat_one (s : ByteArray) (w : World) :
    Calls Tryz.prog 73 #[.string s, .int .i64 1] w fun e w' => e = .returned (.string s) ∧ w' = w := Any.strings_Repeat_one Tryz.lays105 s w
open Go.RowKit Go.Lib in
theorem Tryz.strings_Repeat_empty (s : ByteArray) (c : Nat) (w : World) (hc2 : 2 ≤ c) (hc : c ≤ 9223372036854775807) (h0 : s.size = 0) :
    Calls Tryz.prog 73 #[.string s, .int .i64 c] w fun e w' => e = .returned (.string ⟨#[]⟩) ∧ w' = w := Any.strings_Repeat_empty Tryz.lays105 s c w hc2 hc h0
open Go.RowKit Go.Lib in
theorem Tryz.strings_Repeat (s : ByteArray) (c : Nat) (w : World) (hc : c ≤ 9223372036854775807) (hlen : s.size * c ≤ 140737488355328) :
    Calls Tryz.prog 73 #[.string s, .int .i64 c] w fun e w' => e = .returned (.string ⟨(Lib.repeatL s.data.toList c).toArray⟩) ∧ Below w.heap.size w w' := Any.strings_Repeat Tryz.lays105 Tryz.Builder_Extra_105 s c w hc hlen
end Go.Proofs
/- strings.Builder and strings.Repeat in this work's words. -/
set_option linter.unusedVariables false
set_option linter.unusedSimpArgs false
namespace Go.Proofs.YtifcgimpgbeocaaGreat
open Go.RowKit Go.Shelf
/-- A builder in block b that holds l; all of it at or beyond B. -/
abbrev IsB (B b : Nat) (l : Bs) (w : World) : Prop := Lib.IsBuilder 139 5 B b (Lib.byteCells l) w
theorem wstr_any (B b : Nat) (l s : Bs) (w : World) (h : IsB B b l w) (hl : l.length + s.length ≤ 1000000000) (hb : B ≤ w.heap.size) :
    Calls Tryz.prog 82 #[.pointer (some ⟨b, 0, none⟩), strV s] w fun e w' => e = .returned (.tuple #[.int .i64 s.length, .nilIface]) ∧ IsB B b (l ++ s) w' ∧ Below B w w' := by
  have h1 := Any.Builder_WriteString (P := Tryz.prog) (ρ := Tryz.lays105_ren) { Tryz.lays105 with } Tryz.Builder_Extra_105 B b (Lib.byteCells l) ⟨s.toArray⟩ w h (by rw [Lib.byteCells_length]; show l.length + s.toArray.size ≤ _; simp; omega) hb
  refine Calls.mono h1 ?_
  rintro e w' ⟨rfl, h2, h3⟩
  refine ⟨?_, .inr ?_, h3⟩
  · show _ = Ending.returned (.tuple #[.int .i64 s.length, .nilIface])
    have : (ByteArray.mk s.toArray).size = s.length := by show s.toArray.size = _; simp
    rw [this]
  · have e : Lib.byteCells (l ++ s) = Lib.byteCells l ++ Lib.strCells ⟨s.toArray⟩ := by simp [Lib.byteCells, Lib.strCells]
    rw [e]; exact h2
theorem bstr_any (B b : Nat) (l : Bs) (w : World) (h : IsB B b l w) (hb : B ≤ w.heap.size) : Calls Tryz.prog 84 #[.pointer (some ⟨b, 0, none⟩)] w fun e w' => e = .returned (strV l) ∧ Below B w w' :=
  Tryz.Builder_String_any B b l w h hb
end Go.Proofs.YtifcgimpgbeocaaGreat
/- isKey, isData, isRecord, isOp, changes. -/
set_option linter.unusedVariables false
set_option linter.unusedSimpArgs false
namespace Go.Proofs.YtifcgimpgbeocaaGreat
open Go.RowKit
attribute [local go_sem] Oper.semAt_some
theorem dec_le (n k : Nat) : decide ((n : Int) ≤ (k : Int)) = decide (n ≤ k) := decide_eq_decide.2 (by omega)
theorem dec_le16 (n : Nat) : decide ((n : Int) ≤ 16) = decide (n ≤ 16) := decide_eq_decide.2 (by omega)
theorem dec_le255 (n : Nat) : decide ((n : Int) ≤ 255) = decide (n ≤ 255) := decide_eq_decide.2 (by omega)
theorem iskey_same (s : Bs) (w : World) : Calls Tryz.prog 64 #[strV s] w (fun e w' => e = .returned (.bool (isKey s)) ∧ w' = w) := by
  have ek : isKey s = (decide (1 ≤ s.length) && decide (s.length ≤ 16)) := rfl
  rw [ek]
  clear ek
  by_cases h1 : 1 ≤ s.length
  · have d1 : decide (1 ≤ s.length) = true := by simpa using h1
    rw [d1, Bool.true_and, ← dec_le16]
    go_enter Tryz.func64, Tryz.ntmps64
    go_wp2
    go_ret
    exact ⟨rfl, rfl⟩
  · have d1 : decide (1 ≤ s.length) = false := by simpa using h1
    rw [d1, Bool.false_and]
    go_enter Tryz.func64, Tryz.ntmps64
    go_wp2
    go_ret
    exact ⟨rfl, rfl⟩
theorem isdata_same (s : Bs) (w : World) : Calls Tryz.prog 103 #[strV s] w (fun e w' => e = .returned (.bool (decide (s.length ≤ 255))) ∧ w' = w) := by
  rw [← dec_le255]
  go_enter Tryz.func103, Tryz.ntmps103
  go_wp2
  go_ret
  exact ⟨rfl, rfl⟩
theorem iskey_any (s : Bs) (w : World) : Calls Tryz.prog 64 #[strV s] w (Ret (.bool (isKey s)) w) :=
  (iskey_same s w).mono fun e w' ⟨h1, h2⟩ => ⟨h1, by rw [h2]; exact Below.refl _ _⟩
theorem isdata_any (s : Bs) (w : World) : Calls Tryz.prog 103 #[strV s] w (Ret (.bool (decide (s.length ≤ 255))) w) :=
  (isdata_same s w).mono fun e w' ⟨h1, h2⟩ => ⟨h1, by rw [h2]; exact Below.refl _ _⟩
theorem isrecord_any (r : Rec) (w : World) : Calls Tryz.prog 66 #[recV r] w (Ret (.bool (isRec r)) w) := by
  have ek : isRec r = (isKey r.1 && decide (r.2.length ≤ 255)) := rfl
  rw [ek]
  clear ek
  have HD := hid (fun w => isdata_any r.2 w)
  have HK := hid (fun w => iskey_any r.1 w)
  cases e : isKey r.1 with
  | true =>
    rw [Bool.true_and]
    rw [e] at HK
    obtain ⟨q, hq⟩ : ∃ q, decide (r.2.length ≤ 255) = q := ⟨_, rfl⟩
    rw [hq] at HD ⊢
    clear e hq
    go_enter Tryz.func66, Tryz.ntmps66
    go_wp2_with fail
    refine (HK.out _).mono ?_
    rintro e w1 ⟨rfl, hb1⟩
    have c1 := keepc hb1 (cell_new w #[strV r.1, strV r.2] 59 1 _ rfl)
    have HB1 := hid (below_step hb1 ((Below.refl _ _).alloc (Nat.le_refl _) _))
    clear hb1
    go_wp2_with fail
    refine (HD.out _).mono ?_
    rintro e w2 ⟨rfl, hb2⟩
    have HB2 := hid (below_step hb2 HB1.out)
    clear hb2
    go_wp2_with fail
    go_ret
    exact ⟨rfl, HB2.out⟩
  | false =>
    rw [Bool.false_and]
    rw [e] at HK
    clear e
    go_enter Tryz.func66, Tryz.ntmps66
    go_wp2_with fail
    refine (HK.out _).mono ?_
    rintro e w1 ⟨rfl, hb1⟩
    have HB1 := hid (below_step hb1 ((Below.refl _ _).alloc (Nat.le_refl _) _))
    clear hb1
    go_wp2_with fail
    go_ret
    exact ⟨rfl, HB1.out⟩
end Go.Proofs.YtifcgimpgbeocaaGreat
