/- append to a row of one's own, as a step of a region that draws its order. -/
import Derived.Test.YtifcgimpgbeocaaK4
import Derived.Test.YtifcgimpgbeocaaK5
import Derived.Test.YtifcgimpgbeocaaK3
set_option linter.unusedVariables false
set_option linter.unusedSimpArgs false
namespace Go.Proofs.Ytifcgimpgbeocaa
open Go.RowKit
theorem step_append_own {ops : Array Oper} {o : Oper} {a : Act} {w : World} {K : Act → World → Prop} {Q : Exit → Act → World → Prop} {E : Prop} (hgd : o.guard = none) (s x : Operand) (t e : TypeId)
    (ho : o.op = .call { callee := .builtin .append, args := #[s, x], argTypes := #[t, t] }) (i : TypeInfo) (z : Value) (size bytes : Nat) (ht : Try.prog.underlying t = some (.slice e)) (hi : Try.prog.info? e = some i) (hz : i.zero = some z)
    (hsize : i.size = size) (hby : i.bytes = bytes) (hzs : z.cells.size = size) (hsz : 0 < size) (B : Nat) (v : Value) (n : Nat) (xs : List Value) (hs : a.eval s = v) (hown : w.ownsRow B e size v n xs)
    (ad : Addr) (m c : Nat) (news : List Value) (hx : a.eval x = .slice (some ad) m c) (hl : news.length = m * size) (hnews : ∀ j u, news[j]? = some u → w.cell? (ad.add j) = some u) (h1 : ∀ u ∈ news, u.oneCell' = true)
    (h63 : n + m ≤ maxLen) (hbytes : (n + m) * bytes ≤ 140737488355328) (hb : B ≤ w.heap.size)
    (h : ∀ v' w', w'.ownsRow B e size v' (n + m) (xs ++ news) → w.grownBy w' v.ownBlock → (v'.ownBlock = v.ownBlock ∨ v'.ownBlock = some w.heap.size) → K (a.put o.dst v') w') :
    if Region.wanted o (yielded ops a.tmps) = true then Oper.wp Try.prog o a w K Q else E := by
  have hw : Region.wanted o (yielded ops a.tmps) = true := by simp [Region.wanted, hgd]
  rw [if_pos hw]
  obtain ⟨v', w', hrun, h2, h3, -, h4⟩ := run_append_own_at (P := Try.prog) w B t o.type e i z size bytes ht hi hz hsize hby hzs hsz v n xs hown ad m c news hl hnews h1 h63 hbytes hb
  unfold Oper.wp
  simp [execOp, ho, resolve, invoke, builtin, hs, hx, hrun, Result.andThen]
  exact h _ _ h2 h3 h4
theorem uponX_append_own {o : Oper} {a : Act} {w : World} {R : Value → World → Prop} (s x : Operand) (t e : TypeId)
    (ho : o.op = .call { callee := .builtin .append, args := #[s, x], argTypes := #[t, t] }) (i : TypeInfo) (z : Value) (size bytes : Nat) (ht : Try.prog.underlying t = some (.slice e)) (hi : Try.prog.info? e = some i) (hz : i.zero = some z)
    (hsize : i.size = size) (hby : i.bytes = bytes) (hzs : z.cells.size = size) (hsz : 0 < size) (B : Nat) (v : Value) (n : Nat) (xs : List Value) (hs : a.eval s = v) (hown : w.ownsRow B e size v n xs)
    (ad : Addr) (m c : Nat) (news : List Value) (hx : a.eval x = .slice (some ad) m c) (hl : news.length = m * size) (hnews : ∀ j u, news[j]? = some u → w.cell? (ad.add j) = some u) (h1 : ∀ u ∈ news, u.oneCell' = true)
    (h63 : n + m ≤ maxLen) (hbytes : (n + m) * bytes ≤ 140737488355328) (hb : B ≤ w.heap.size)
    (h : ∀ v' w', w'.ownsRow B e size v' (n + m) (xs ++ news) → w.grownBy w' v.ownBlock → (v'.ownBlock = v.ownBlock ∨ v'.ownBlock = some w.heap.size) → R v' w') :
    uponX Try.prog R ((execOp a.eval o).run Try.prog w) := by
  obtain ⟨v', w', hrun, h2, h3, -, h4⟩ := run_append_own_at (P := Try.prog) w B t o.type e i z size bytes ht hi hz hsize hby hzs hsz v n xs hown ad m c news hl hnews h1 h63 hbytes hb
  simp [execOp, ho, resolve, invoke, builtin, hs, hx, hrun, Result.andThen]
  exact h _ _ h2 h3 h4
theorem step_appR {ops : Array Oper} {o : Oper} {a : Act} {w : World} {K : Act → World → Prop} {Q : Exit → Act → World → Prop} {E : Prop} (hgd : o.guard = none) (s x : Operand)
    (ho : o.op = .call { callee := .builtin .append, args := #[s, x], argTypes := #[69, 69] }) (B : Nat) (v : Value) (l : Ds) (y : Rec) (g c : Nat)
    (hs : a.eval s = v) (hx : a.eval x = .slice (some ⟨g, 0, none⟩) 1 c) (hP : OR w B v l) (hc : ∀ j u, (encR [y])[j]? = some u → w.cell? ⟨g, j, none⟩ = some u) (hn : l.length ≤ 1000000) (hb : B ≤ w.heap.size)
    (h : ∀ v' w', OR w' B v' (l ++ [y]) → w.grownBy w' v.ownBlock → (v'.ownBlock = v.ownBlock ∨ v'.ownBlock = some w.heap.size) → K (a.put o.dst v') w') : if Region.wanted o (yielded ops a.tmps) = true then Oper.wp Try.prog o a w K Q else E := by
  obtain ⟨i0, hi, hz0, hz1, hz2⟩ := info_parts infoR
  refine step_append_own hgd s x 69 59 ho i0 (.agg #[.string ⟨#[]⟩, .string ⟨#[]⟩]) 2 32 underR hi hz0 hz1 hz2 rfl (by decide) B v l.length (encR l) hs hP ⟨g, 0, none⟩ 1 c (encR [y]) hx rfl ?_ ?_ (by unfold maxLen; omega) (by omega) hb ?_
  · intro j u hj
    rw [addr_add, Nat.zero_add]
    exact hc j u hj
  · intro u hu
    obtain ⟨z, hz, hu⟩ := List.mem_flatMap.1 hu
    simp only [List.mem_cons, List.not_mem_nil, or_false] at hu
    rcases hu with rfl | rfl <;> rfl
  · intro v' w' hown hg hat
    refine h v' w' ?_ hg hat
    unfold OR
    rw [encR_append, List.length_append]
    exact hown
theorem upon_appR {o : Oper} {a : Act} {w : World} {R : Value → World → Prop} (s x : Operand)
    (ho : o.op = .call { callee := .builtin .append, args := #[s, x], argTypes := #[69, 69] }) (B : Nat) (v : Value) (l : Ds) (y : Rec) (g c : Nat)
    (hs : a.eval s = v) (hx : a.eval x = .slice (some ⟨g, 0, none⟩) 1 c) (hP : OR w B v l) (hc : ∀ j u, (encR [y])[j]? = some u → w.cell? ⟨g, j, none⟩ = some u) (hn : l.length ≤ 1000000) (hb : B ≤ w.heap.size)
    (h : ∀ v' w', OR w' B v' (l ++ [y]) → w.grownBy w' v.ownBlock → (v'.ownBlock = v.ownBlock ∨ v'.ownBlock = some w.heap.size) → R v' w') : uponX Try.prog R ((execOp a.eval o).run Try.prog w) := by
  obtain ⟨i0, hi, hz0, hz1, hz2⟩ := info_parts infoR
  refine uponX_append_own s x 69 59 ho i0 (.agg #[.string ⟨#[]⟩, .string ⟨#[]⟩]) 2 32 underR hi hz0 hz1 hz2 rfl (by decide) B v l.length (encR l) hs hP ⟨g, 0, none⟩ 1 c (encR [y]) hx rfl ?_ ?_ (by unfold maxLen; omega) (by omega) hb ?_
  · intro j u hj
    rw [addr_add, Nat.zero_add]
    exact hc j u hj
  · intro u hu
    obtain ⟨z, hz, hu⟩ := List.mem_flatMap.1 hu
    simp only [List.mem_cons, List.not_mem_nil, or_false] at hu
    rcases hu with rfl | rfl <;> rfl
  · intro v' w' hown hg hat
    refine h v' w' ?_ hg hat
    unfold OR
    rw [encR_append, List.length_append]
    exact hown
theorem step_appO {ops : Array Oper} {o : Oper} {a : Act} {w : World} {K : Act → World → Prop} {Q : Exit → Act → World → Prop} {E : Prop} (hgd : o.guard = none) (s x : Operand)
    (ho : o.op = .call { callee := .builtin .append, args := #[s, x], argTypes := #[54, 54] }) (B : Nat) (v : Value) (l : List FOp) (y : FOp) (g c : Nat)
    (hs : a.eval s = v) (hx : a.eval x = .slice (some ⟨g, 0, none⟩) 1 c) (hP : OO w B v l) (hc : ∀ j u, (encO [y])[j]? = some u → w.cell? ⟨g, j, none⟩ = some u) (hn : l.length ≤ 1000000) (hb : B ≤ w.heap.size)
    (h : ∀ v' w', OO w' B v' (l ++ [y]) → w.grownBy w' v.ownBlock → (v'.ownBlock = v.ownBlock ∨ v'.ownBlock = some w.heap.size) → K (a.put o.dst v') w') : if Region.wanted o (yielded ops a.tmps) = true then Oper.wp Try.prog o a w K Q else E := by
  obtain ⟨i0, hi, hz0, hz1, hz2⟩ := info_parts infoO
  refine step_append_own hgd s x 54 63 ho i0 (.agg #[.int .i64 0, .int .i64 0, .string ⟨#[]⟩, .string ⟨#[]⟩]) 4 48 underO hi hz0 hz1 hz2 rfl (by decide) B v l.length (encO l) hs hP ⟨g, 0, none⟩ 1 c (encO [y]) hx rfl ?_ ?_ (by unfold maxLen; omega) (by omega) hb ?_
  · intro j u hj
    rw [addr_add, Nat.zero_add]
    exact hc j u hj
  · intro u hu
    obtain ⟨z, hz, hu⟩ := List.mem_flatMap.1 hu
    simp only [List.mem_cons, List.not_mem_nil, or_false] at hu
    rcases hu with rfl | rfl | rfl | rfl <;> rfl
  · intro v' w' hown hg hat
    refine h v' w' ?_ hg hat
    unfold OO
    rw [encO_append, List.length_append]
    exact hown
theorem upon_appO {o : Oper} {a : Act} {w : World} {R : Value → World → Prop} (s x : Operand)
    (ho : o.op = .call { callee := .builtin .append, args := #[s, x], argTypes := #[54, 54] }) (B : Nat) (v : Value) (l : List FOp) (y : FOp) (g c : Nat)
    (hs : a.eval s = v) (hx : a.eval x = .slice (some ⟨g, 0, none⟩) 1 c) (hP : OO w B v l) (hc : ∀ j u, (encO [y])[j]? = some u → w.cell? ⟨g, j, none⟩ = some u) (hn : l.length ≤ 1000000) (hb : B ≤ w.heap.size)
    (h : ∀ v' w', OO w' B v' (l ++ [y]) → w.grownBy w' v.ownBlock → (v'.ownBlock = v.ownBlock ∨ v'.ownBlock = some w.heap.size) → R v' w') : uponX Try.prog R ((execOp a.eval o).run Try.prog w) := by
  obtain ⟨i0, hi, hz0, hz1, hz2⟩ := info_parts infoO
  refine uponX_append_own s x 54 63 ho i0 (.agg #[.int .i64 0, .int .i64 0, .string ⟨#[]⟩, .string ⟨#[]⟩]) 4 48 underO hi hz0 hz1 hz2 rfl (by decide) B v l.length (encO l) hs hP ⟨g, 0, none⟩ 1 c (encO [y]) hx rfl ?_ ?_ (by unfold maxLen; omega) (by omega) hb ?_
  · intro j u hj
    rw [addr_add, Nat.zero_add]
    exact hc j u hj
  · intro u hu
    obtain ⟨z, hz, hu⟩ := List.mem_flatMap.1 hu
    simp only [List.mem_cons, List.not_mem_nil, or_false] at hu
    rcases hu with rfl | rfl | rfl | rfl <;> rfl
  · intro v' w' hown hg hat
    refine h v' w' ?_ hg hat
    unfold OO
    rw [encO_append, List.length_append]
    exact hown
theorem step_appW {ops : Array Oper} {o : Oper} {a : Act} {w : World} {K : Act → World → Prop} {Q : Exit → Act → World → Prop} {E : Prop} (hgd : o.guard = none) (s x : Operand)
    (ho : o.op = .call { callee := .builtin .append, args := #[s, x], argTypes := #[25, 25] }) (B : Nat) (v : Value) (l : List Wt) (y : Wt) (g c : Nat)
    (hs : a.eval s = v) (hx : a.eval x = .slice (some ⟨g, 0, none⟩) 1 c) (hP : OW w B v l) (hc : ∀ j u, (encW [y])[j]? = some u → w.cell? ⟨g, j, none⟩ = some u) (hn : l.length ≤ 1000000) (hb : B ≤ w.heap.size)
    (h : ∀ v' w', OW w' B v' (l ++ [y]) → w.grownBy w' v.ownBlock → (v'.ownBlock = v.ownBlock ∨ v'.ownBlock = some w.heap.size) → K (a.put o.dst v') w') : if Region.wanted o (yielded ops a.tmps) = true then Oper.wp Try.prog o a w K Q else E := by
  obtain ⟨i0, hi, hz0, hz1, hz2⟩ := info_parts infoW
  refine step_append_own hgd s x 25 112 ho i0 (.agg #[.int .i64 0, .string ⟨#[]⟩]) 2 24 underW hi hz0 hz1 hz2 rfl (by decide) B v l.length (encW l) hs hP ⟨g, 0, none⟩ 1 c (encW [y]) hx rfl ?_ ?_ (by unfold maxLen; omega) (by omega) hb ?_
  · intro j u hj
    rw [addr_add, Nat.zero_add]
    exact hc j u hj
  · intro u hu
    obtain ⟨z, hz, hu⟩ := List.mem_flatMap.1 hu
    simp only [List.mem_cons, List.not_mem_nil, or_false] at hu
    rcases hu with rfl | rfl <;> rfl
  · intro v' w' hown hg hat
    refine h v' w' ?_ hg hat
    unfold OW
    rw [encW_append, List.length_append]
    exact hown
theorem upon_appW {o : Oper} {a : Act} {w : World} {R : Value → World → Prop} (s x : Operand)
    (ho : o.op = .call { callee := .builtin .append, args := #[s, x], argTypes := #[25, 25] }) (B : Nat) (v : Value) (l : List Wt) (y : Wt) (g c : Nat)
    (hs : a.eval s = v) (hx : a.eval x = .slice (some ⟨g, 0, none⟩) 1 c) (hP : OW w B v l) (hc : ∀ j u, (encW [y])[j]? = some u → w.cell? ⟨g, j, none⟩ = some u) (hn : l.length ≤ 1000000) (hb : B ≤ w.heap.size)
    (h : ∀ v' w', OW w' B v' (l ++ [y]) → w.grownBy w' v.ownBlock → (v'.ownBlock = v.ownBlock ∨ v'.ownBlock = some w.heap.size) → R v' w') : uponX Try.prog R ((execOp a.eval o).run Try.prog w) := by
  obtain ⟨i0, hi, hz0, hz1, hz2⟩ := info_parts infoW
  refine uponX_append_own s x 25 112 ho i0 (.agg #[.int .i64 0, .string ⟨#[]⟩]) 2 24 underW hi hz0 hz1 hz2 rfl (by decide) B v l.length (encW l) hs hP ⟨g, 0, none⟩ 1 c (encW [y]) hx rfl ?_ ?_ (by unfold maxLen; omega) (by omega) hb ?_
  · intro j u hj
    rw [addr_add, Nat.zero_add]
    exact hc j u hj
  · intro u hu
    obtain ⟨z, hz, hu⟩ := List.mem_flatMap.1 hu
    simp only [List.mem_cons, List.not_mem_nil, or_false] at hu
    rcases hu with rfl | rfl <;> rfl
  · intro v' w' hown hg hat
    refine h v' w' ?_ hg hat
    unfold OW
    rw [encW_append, List.length_append]
    exact hown
theorem step_appA {ops : Array Oper} {o : Oper} {a : Act} {w : World} {K : Act → World → Prop} {Q : Exit → Act → World → Prop} {E : Prop} (hgd : o.guard = none) (s x : Operand)
    (ho : o.op = .call { callee := .builtin .append, args := #[s, x], argTypes := #[45, 45] }) (B : Nat) (v : Value) (l : List Ac) (y : Ac) (g c : Nat)
    (hs : a.eval s = v) (hx : a.eval x = .slice (some ⟨g, 0, none⟩) 1 c) (hP : OA w B v l) (hc : ∀ j u, (encA [y])[j]? = some u → w.cell? ⟨g, j, none⟩ = some u) (hn : l.length ≤ 1000000) (hb : B ≤ w.heap.size)
    (h : ∀ v' w', OA w' B v' (l ++ [y]) → w.grownBy w' v.ownBlock → (v'.ownBlock = v.ownBlock ∨ v'.ownBlock = some w.heap.size) → K (a.put o.dst v') w') : if Region.wanted o (yielded ops a.tmps) = true then Oper.wp Try.prog o a w K Q else E := by
  obtain ⟨i0, hi, hz0, hz1, hz2⟩ := info_parts infoA
  refine step_append_own hgd s x 45 104 ho i0 (.agg #[.bool false, .int .i64 0, .string ⟨#[]⟩]) 3 32 underA hi hz0 hz1 hz2 rfl (by decide) B v l.length (encA l) hs hP ⟨g, 0, none⟩ 1 c (encA [y]) hx rfl ?_ ?_ (by unfold maxLen; omega) (by omega) hb ?_
  · intro j u hj
    rw [addr_add, Nat.zero_add]
    exact hc j u hj
  · intro u hu
    obtain ⟨z, hz, hu⟩ := List.mem_flatMap.1 hu
    simp only [List.mem_cons, List.not_mem_nil, or_false] at hu
    rcases hu with rfl | rfl | rfl <;> rfl
  · intro v' w' hown hg hat
    refine h v' w' ?_ hg hat
    unfold OA
    rw [encA_append, List.length_append]
    exact hown
theorem upon_appA {o : Oper} {a : Act} {w : World} {R : Value → World → Prop} (s x : Operand)
    (ho : o.op = .call { callee := .builtin .append, args := #[s, x], argTypes := #[45, 45] }) (B : Nat) (v : Value) (l : List Ac) (y : Ac) (g c : Nat)
    (hs : a.eval s = v) (hx : a.eval x = .slice (some ⟨g, 0, none⟩) 1 c) (hP : OA w B v l) (hc : ∀ j u, (encA [y])[j]? = some u → w.cell? ⟨g, j, none⟩ = some u) (hn : l.length ≤ 1000000) (hb : B ≤ w.heap.size)
    (h : ∀ v' w', OA w' B v' (l ++ [y]) → w.grownBy w' v.ownBlock → (v'.ownBlock = v.ownBlock ∨ v'.ownBlock = some w.heap.size) → R v' w') : uponX Try.prog R ((execOp a.eval o).run Try.prog w) := by
  obtain ⟨i0, hi, hz0, hz1, hz2⟩ := info_parts infoA
  refine uponX_append_own s x 45 104 ho i0 (.agg #[.bool false, .int .i64 0, .string ⟨#[]⟩]) 3 32 underA hi hz0 hz1 hz2 rfl (by decide) B v l.length (encA l) hs hP ⟨g, 0, none⟩ 1 c (encA [y]) hx rfl ?_ ?_ (by unfold maxLen; omega) (by omega) hb ?_
  · intro j u hj
    rw [addr_add, Nat.zero_add]
    exact hc j u hj
  · intro u hu
    obtain ⟨z, hz, hu⟩ := List.mem_flatMap.1 hu
    simp only [List.mem_cons, List.not_mem_nil, or_false] at hu
    rcases hu with rfl | rfl | rfl <;> rfl
  · intro v' w' hown hg hat
    refine h v' w' ?_ hg hat
    unfold OA
    rw [encA_append, List.length_append]
    exact hown
theorem step_appS {ops : Array Oper} {o : Oper} {a : Act} {w : World} {K : Act → World → Prop} {Q : Exit → Act → World → Prop} {E : Prop} (hgd : o.guard = none) (s x : Operand)
    (ho : o.op = .call { callee := .builtin .append, args := #[s, x], argTypes := #[24, 24] }) (B : Nat) (v : Value) (l : List Bs) (y : Bs) (g c : Nat)
    (hs : a.eval s = v) (hx : a.eval x = .slice (some ⟨g, 0, none⟩) 1 c) (hP : OS w B v l) (hc : ∀ j u, (encS [y])[j]? = some u → w.cell? ⟨g, j, none⟩ = some u) (hn : l.length ≤ 1000000) (hb : B ≤ w.heap.size)
    (h : ∀ v' w', OS w' B v' (l ++ [y]) → w.grownBy w' v.ownBlock → (v'.ownBlock = v.ownBlock ∨ v'.ownBlock = some w.heap.size) → K (a.put o.dst v') w') : if Region.wanted o (yielded ops a.tmps) = true then Oper.wp Try.prog o a w K Q else E := by
  obtain ⟨i0, hi, hz0, hz1, hz2⟩ := info_parts infoS
  refine step_append_own hgd s x 24 9 ho i0 (.string ⟨#[]⟩) 1 16 underS hi hz0 hz1 hz2 rfl (by decide) B v l.length (encS l) hs hP ⟨g, 0, none⟩ 1 c (encS [y]) hx rfl ?_ ?_ (by unfold maxLen; omega) (by omega) hb ?_
  · intro j u hj
    rw [addr_add, Nat.zero_add]
    exact hc j u hj
  · intro u hu
    obtain ⟨z, hz, hu⟩ := List.mem_flatMap.1 hu
    simp only [List.mem_cons, List.not_mem_nil, or_false] at hu
    subst hu; rfl
  · intro v' w' hown hg hat
    refine h v' w' ?_ hg hat
    unfold OS
    rw [encS_append, List.length_append]
    exact hown
theorem upon_appS {o : Oper} {a : Act} {w : World} {R : Value → World → Prop} (s x : Operand)
    (ho : o.op = .call { callee := .builtin .append, args := #[s, x], argTypes := #[24, 24] }) (B : Nat) (v : Value) (l : List Bs) (y : Bs) (g c : Nat)
    (hs : a.eval s = v) (hx : a.eval x = .slice (some ⟨g, 0, none⟩) 1 c) (hP : OS w B v l) (hc : ∀ j u, (encS [y])[j]? = some u → w.cell? ⟨g, j, none⟩ = some u) (hn : l.length ≤ 1000000) (hb : B ≤ w.heap.size)
    (h : ∀ v' w', OS w' B v' (l ++ [y]) → w.grownBy w' v.ownBlock → (v'.ownBlock = v.ownBlock ∨ v'.ownBlock = some w.heap.size) → R v' w') : uponX Try.prog R ((execOp a.eval o).run Try.prog w) := by
  obtain ⟨i0, hi, hz0, hz1, hz2⟩ := info_parts infoS
  refine uponX_append_own s x 24 9 ho i0 (.string ⟨#[]⟩) 1 16 underS hi hz0 hz1 hz2 rfl (by decide) B v l.length (encS l) hs hP ⟨g, 0, none⟩ 1 c (encS [y]) hx rfl ?_ ?_ (by unfold maxLen; omega) (by omega) hb ?_
  · intro j u hj
    rw [addr_add, Nat.zero_add]
    exact hc j u hj
  · intro u hu
    obtain ⟨z, hz, hu⟩ := List.mem_flatMap.1 hu
    simp only [List.mem_cons, List.not_mem_nil, or_false] at hu
    subst hu; rfl
  · intro v' w' hown hg hat
    refine h v' w' ?_ hg hat
    unfold OS
    rw [encS_append, List.length_append]
    exact hown
theorem cellsR (w : World) (b : Nat) (y : Rec) (h0 : w.cell? ⟨b, 0, none⟩ = some (strV y.1)) (h1 : w.cell? ⟨b, 1, none⟩ = some (strV y.2)) : ∀ j u, (encR [y])[j]? = some u → w.cell? ⟨b, j, none⟩ = some u
  | 0, u, h => by cases h; exact h0
  | 1, u, h => by cases h; exact h1
  | j + 2, u, h => by simp [encR] at h
theorem cellsW (w : World) (b : Nat) (y : Wt) (h0 : w.cell? ⟨b, 0, none⟩ = some (.int .i64 y.1)) (h1 : w.cell? ⟨b, 1, none⟩ = some (strV y.2)) : ∀ j u, (encW [y])[j]? = some u → w.cell? ⟨b, j, none⟩ = some u
  | 0, u, h => by cases h; exact h0
  | 1, u, h => by cases h; exact h1
  | j + 2, u, h => by simp [encW] at h
theorem cellsA (w : World) (b : Nat) (y : Ac) (h0 : w.cell? ⟨b, 0, none⟩ = some (.bool y.1)) (h1 : w.cell? ⟨b, 1, none⟩ = some (.int .i64 y.2.1)) (h2 : w.cell? ⟨b, 2, none⟩ = some (strV y.2.2)) : ∀ j u, (encA [y])[j]? = some u → w.cell? ⟨b, j, none⟩ = some u
  | 0, u, h => by cases h; exact h0
  | 1, u, h => by cases h; exact h1
  | 2, u, h => by cases h; exact h2
  | j + 3, u, h => by simp [encA] at h
theorem cellsO (w : World) (b : Nat) (y : FOp) (h0 : w.cell? ⟨b, 0, none⟩ = some (.int .i64 y.1)) (h1 : w.cell? ⟨b, 1, none⟩ = some (.int .i64 y.2.1)) (h2 : w.cell? ⟨b, 2, none⟩ = some (strV y.2.2.1)) (h3 : w.cell? ⟨b, 3, none⟩ = some (strV y.2.2.2)) : ∀ j u, (encO [y])[j]? = some u → w.cell? ⟨b, j, none⟩ = some u
  | 0, u, h => by cases h; exact h0
  | 1, u, h => by cases h; exact h1
  | 2, u, h => by cases h; exact h2
  | 3, u, h => by cases h; exact h3
  | j + 4, u, h => by simp [encO] at h
theorem cellsS (w : World) (b : Nat) (y : Bs) (h0 : w.cell? ⟨b, 0, none⟩ = some (strV y)) : ∀ j u, (encS [y])[j]? = some u → w.cell? ⟨b, j, none⟩ = some u
  | 0, u, h => by cases h; exact h0
  | j + 1, u, h => by simp [encS] at h
end Go.Proofs.Ytifcgimpgbeocaa
/- Rows of bytes in one block; strings made of them; bits. -/
set_option linter.unusedVariables false
set_option linter.unusedSimpArgs false
namespace Go.Proofs.Ytifcgimpgbeocaa
open Go.RowKit
theorem underB : Try.prog.underlying 164 = some (.slice 5) := by kernel_rfl
theorem under_u8 : Try.prog.underlying 5 = some (.int .u8) := by kernel_rfl
theorem under_str : Try.prog.underlying 9 = some .string := by kernel_rfl
theorem info_u8 : (Try.prog.info? 5).map (fun i => (i.zero, i.size, i.bytes)) = some (some (.int .u8 0), 1, 1) := by kernel_rfl
theorem sizeOf_u8 (w : World) : (sizeOf 5).run Try.prog w = .ok 1 w := by kernel_rfl
theorem elemB : Try.prog.elem 164 = 5 := by kernel_rfl
theorem sliceB : Try.prog.underlying 164 = some (.slice (Try.prog.elem 164)) := by kernel_rfl
/-- Block b is the bytes l. -/
def Bytes (w : World) (b : Nat) (l : List UInt8) : Prop := w.heap[b]? = some (.cells (l.map fun c => Value.int .u8 (c.toNat : Int)).toArray 5 (0, 0))
/-- The byte at i, as a number. -/
def byt (l : List UInt8) (i : Nat) : Int := (((l[i]?.getD 0).toNat : Nat) : Int)
theorem byt_bd (l : List UInt8) (i : Nat) : 0 ≤ byt l i ∧ byt l i ≤ 255 := by
  unfold byt; have := (l[i]?.getD 0).toNat_lt; omega
theorem Bytes.cell {w : World} {b : Nat} {l : List UInt8} (h : Bytes w b l) {i : Nat} (hi : i < l.length) : w.cell? ⟨b, i, none⟩ = some (.int .u8 (byt l i)) := by
  unfold Bytes at h
  simp [World.cell?, h, byt, List.getElem?_eq_getElem hi]
theorem Bytes.frozen {w : World} {b : Nat} {l : List UInt8} (h : Bytes w b l) (i : Nat) : w.frozen? ⟨b, i, none⟩ = false := by
  unfold Bytes at h
  simp [World.frozen?, h]
theorem Bytes.lt {w : World} {b : Nat} {l : List UInt8} (h : Bytes w b l) : b < w.heap.size := (Array.getElem?_eq_some_iff.1 h).1
theorem Bytes.below {w w' : World} {B b : Nat} {l : List UInt8} (h : Bytes w b l) (hb : Below B w w') (hB : b < B) : Bytes w' b l := (hb.block b hB).trans h
theorem Bytes.grown {w w' : World} {b : Nat} {l : List UInt8} {row : Option Nat} (h : Bytes w b l) (hg : w.grownBy w' row) (hne : row ≠ some b) : Bytes w' b l :=
  (hg.block b h.lt (Ne.symm hne)).trans h
theorem Bytes.set {w : World} {b i : Nat} {l : List UInt8} (h : Bytes w b l) (c : UInt8) : Bytes (w.setCell ⟨b, i, none⟩ (.int .u8 (c.toNat : Int))) b (l.set i c) := by
  unfold Bytes at *
  simp only [World.setCell, Array.getElem?_modify]
  simp [h, List.map_set]
theorem u8_of (n : Int) (m : Nat) (h : n = (m : Int)) : n % 256 = (((UInt8.ofNat m).toNat : Nat) : Int) := by
  subst h; simp
/-- The four bytes of n at k. -/
def setL (l : List UInt8) (k n : Nat) : List UInt8 :=
  (((l.set k (UInt8.ofNat (n / 16777216))).set (k + 1) (UInt8.ofNat (n / 65536))).set (k + 2) (UInt8.ofNat (n / 256))).set (k + 3) (UInt8.ofNat n)
theorem setL_length (l : List UInt8) (k n : Nat) : (setL l k n).length = l.length := by simp [setL]
/-- A list of bytes as cells. -/
def cellsB (l : List UInt8) : List Value := l.map fun c => Value.int .u8 (c.toNat : Int)
theorem cellsB_replicate (n : Nat) : cellsB (List.replicate n 0) = List.replicate n (.int .u8 0) := by simp [cellsB]
theorem run_makeB (w : World) (n : Nat) (hn : n ≤ 1000000) :
    (Instr.makeSlice 164 (.int .i64 (n : Int)) (.int .i64 (n : Int))).run Try.prog w = .ok (.slice (some ⟨w.heap.size, 0, none⟩) n n) (w.alloc (.cells (cellsB (List.replicate n 0)).toArray 5)) := by
  obtain ⟨i0, hi, hz0, hz1, hz2⟩ := info_parts info_u8
  have := run_make (P := Try.prog) w 164 5 i0 (.int .u8 0) underB hi hz0 .i64 .i64 n n (by omega) (Int.le_refl _) (by rw [hz2]; omega) (by omega)
  rw [this]
  have e : madeCells (Value.int IntKind.u8 0).cells (n * 1) = (cellsB (List.replicate n 0)).toArray := by
    apply Array.ext'
    rw [Nat.mul_one, show (Value.int IntKind.u8 0).cells = #[.int .u8 0] from rfl, toList_madeCells_one, cellsB_replicate]
  rw [Int.toNat_natCast, hz1, e]
theorem bytes_new (w : World) (l : List UInt8) : Bytes (w.alloc (.cells (cellsB l).toArray 5)) w.heap.size l := heap_alloc_new w _
/-- string(h), h a part of a block. -/
theorem run_str_of (w : World) (b k len cap : Nat) (m : List UInt8) (hm : m.length = len) (hc : ∀ i, i < len → w.cell? ⟨b, k + i, none⟩ = some (.int .u8 (byt m i))) :
    (convert 164 9 (.slice (some ⟨b, k, none⟩) len cap)).run Try.prog w = .ok (.string ⟨m.toArray⟩) w := by
  have := run_convert_bytes_arg (P := Try.prog) w 164 5 underB under_u8 b k len cap (m.map fun c => (c.toNat : Int)) (by simpa using hm) (fun i hi => by
    rw [hc i hi]
    simp [byt, List.getElem?_eq_getElem (show i < m.length by omega)]) 9 under_str
  rw [this]
  have e : strOfNums (m.map fun c => (c.toNat : Int)) = ⟨m.toArray⟩ := by
    unfold strOfNums
    rw [List.map_map]
    have : ((fun n : Int => UInt8.ofNat n.toNat) ∘ fun c : UInt8 => (c.toNat : Int)) = id := by
      funext c; simp
    rw [this, List.map_id]
  rw [e]
theorem run_strB (w : World) (b cap : Nat) (l : List UInt8) (hB : Bytes w b l) : (convert 164 9 (.slice (some ⟨b, 0, none⟩) l.length cap)).run Try.prog w = .ok (.string ⟨l.toArray⟩) w :=
  run_str_of w b 0 l.length cap l rfl (fun i hi => by rw [Nat.zero_add]; exact hB.cell hi)
/-- b[l:]. -/
theorem run_cutB (b off len cap : Nat) (w : World) (kl : IntKind) (l : Int) (h0 : 0 ≤ l) (h1 : l ≤ len) (h2 : l < cap) :
    (Instr.slice 164 (.slice (some ⟨b, off, none⟩) len cap) (some (.int kl l)) none none).run Try.prog w = .ok (.slice (some ⟨b, off + l.toNat, none⟩) (len - l.toNat) (cap - l.toNat)) w := by
  rw [run_slice_l (t := 164) (ht := sliceB) (kl := kl) (l := l) (h0 := h0) (h1 := h1), elemB, sizeOf_u8]
  simp only [Result.andThen, sliced, Nat.mul_one]
  have : l.toNat < cap := by omega
  split <;> simp_all [addr_add]
theorem str_at (s : ByteArray) (j : Int) (kd : IntKind) (h0 : 0 ≤ j) (h1 : j < s.size) (w : World) : (Instr.index 9 (.string s) (.int kd j)).run Try.prog w = .ok (.int .u8 (byt s.data.toList j.toNat)) w := by
  rw [run_index_string (t := 9) (h := under_str), dif_pos ⟨h0, h1⟩]
  have : byt s.data.toList j.toNat = ((s[j.toNat]'(by omega)).toNat : Int) := by
    unfold byt
    have hlt : j.toNat < s.data.toList.length := by rw [Array.length_toList]; show j.toNat < s.size; omega
    rw [List.getElem?_eq_getElem hlt]
    rfl
  rw [this]
theorem strv_at (s : Bs) (j : Nat) (kd : IntKind) (h1 : j < s.length) (w : World) : (Instr.index 9 (strV s) (.int kd (j : Int))).run Try.prog w = .ok (.int .u8 (byt s j)) w := by
  have h := str_at ⟨s.toArray⟩ (j : Int) kd (by omega) (by show (j : Int) < (s.toArray.size : Int); simp; omega) w
  rw [Int.toNat_natCast, List.toList_toArray] at h
  exact h
theorem wraps_i64 (n : Int) (h₀ : 0 ≤ n) (h₁ : n < 2 ^ 63) : IntKind.i64.wrap n = n := by rw [IntKind.wrap_i64]; omega
theorem i64_or8 (x y : Int) (hx₀ : 0 ≤ x) (hx : x % 256 = 0) (hx₁ : x < 4611686018427387904) (h₀ : 0 ≤ y) (h₁ : y < 256) : bits .or .i64 x y = x + y :=
  bits_join .i64 63 (by decide) wraps_i64 8 x y hx₀ hx (by omega) h₀ h₁ (by omega)
theorem balloc {w w1 : World} (h : Below w.heap.size w w1) (o : Obj) : Below w.heap.size w (w1.alloc o) := h.alloc h.size o
theorem grown_cell {w w1 : World} {row : Option Nat} {p : Addr} {v : Value} (h : w.grownBy w1 row) (hne : row ≠ some p.block) (k : w.cell? p = some v) : w1.cell? p = some v :=
  (World.cell?_of_block (h.block p.block (World.block_lt_of_cell? w p k) fun e => hne e.symm)).trans k
theorem num_of_bits (b0 b1 b2 b3 : Int) (h0 : 0 ≤ b0 ∧ b0 ≤ 255) (h1 : 0 ≤ b1 ∧ b1 ≤ 255) (h2 : 0 ≤ b2 ∧ b2 ≤ 255) (h3 : 0 ≤ b3 ∧ b3 ≤ 255) :
    bits .or .i64 (bits .or .i64 (bits .or .i64 (b0 * 16777216) (b1 * 65536)) (b2 * 256)) b3 = b0 * 16777216 + b1 * 65536 + b2 * 256 + b3 := by
  have e1 : bits .or .i64 (b0 * 16777216) (b1 * 65536) = b0 * 16777216 + b1 * 65536 :=
    bits_join .i64 63 (by decide) wraps_i64 24 (b0 * 16777216) (b1 * 65536) (by omega) (by omega) (by omega) (by omega) (by omega) (by omega)
  have e2 : bits .or .i64 (b0 * 16777216 + b1 * 65536) (b2 * 256) = b0 * 16777216 + b1 * 65536 + b2 * 256 :=
    bits_join .i64 63 (by decide) wraps_i64 16 _ (b2 * 256) (by omega) (by omega) (by omega) (by omega) (by omega) (by omega)
  rw [e1, e2]
  exact i64_or8 _ b3 (by omega) (by omega) (by omega) (by omega) (by omega)
end Go.Proofs.Ytifcgimpgbeocaa
/- What a step of a store makes of what it keeps. -/
set_option linter.unusedVariables false
set_option linter.unusedSimpArgs false
namespace Go.Proofs.Ytifcgimpgbeocaa
open Go.RowKit
/-- A store in block S, all of whose memory is U. -/
def So (w : World) (U : Nat → Prop) (S : Nat) (st : St) : Prop := ∃ D vp vq va vw vd vk us ks, SA w U S D vp vq va vw vd vk us ks st
/-- What a method of a store leaves: it returns v, the store is st', nothing else that was there has turned. -/
def StPost (U : Nat → Prop) (S : Nat) (v : Value) (st' : St) (w : World) (e : Ending) (w' : World) : Prop :=
  e = .returned v ∧ ∃ U', So w' U' S st' ∧ Frm U w w' ∧ ∀ k, U' k → U k ∨ w.heap.size ≤ k
/-- do: the datasets alone. -/
def inDo (st : St) (o : FOp) : St := { st with now := (doData st.now o).1 }
theorem doData_bad {data : List Ds} {o : FOp} (h : ¬ (isOp o = true ∧ o.2.1 < (data.length : Int))) : doData data o = (data, ([], []), 1) := by unfold doData; rw [if_neg h]
theorem frm_put (w : World) (g i : Nat) (v : Value) : Frm (fun k => k = g) w (w.setCell ⟨g, i, none⟩ v) := frm_setCell (Frm.refl _ _) (by rfl) v
variable {w : World} {U : Nat → Prop} {S D : Nat} {vp vq va vw vd vk : Value} {us ks : List Value} {st : St}
theorem SA.vdS (h : SA w U S D vp vq va vw vd vk us ks st) : vd.ownBlock ≠ some S ∧ vd.ownBlock ≠ some D := h.no vd (.inr (.inr rfl))
theorem SA.mem_us {i : Nat} {u : Value} (hu : us[i]? = some u) : u ∈ vp :: vq :: vk :: (us ++ ks) := by have := List.mem_of_getElem? hu; simp [this]
theorem SA.mem_ks {i : Nat} {u : Value} (hu : ks[i]? = some u) : u ∈ vp :: vq :: vk :: (us ++ ks) := by have := List.mem_of_getElem? hu; simp [this]
/-- A dataset is laid in the place of another one. -/
theorem SA.data (h : SA w U S D vp vq va vw vd vk us ks st) {g cd i B : Nat} {v : Value} {d : Ds} (hvd : vd = .slice (some ⟨g, 0, none⟩) us.length cd) (hi : i < us.length) (ho : OR w B v d) (hB : ∀ k, U k → k < B) :
    SA (w.setCell ⟨g, i, none⟩ v) (fun k => U k ∨ v.ownBlock = some k) S D vp vq va vw vd vk (us.set i v) ks { st with now := st.now.set i d } := by
  have hgo : vd.ownBlock = some g := by rw [hvd]; rfl
  have hgU : U g := h.uF g (.inr (.inr (.inr (.inr hgo))))
  have hgl := h.ult g hgU
  have hvo : ∀ k, v.ownBlock = some k → B ≤ k ∧ k < w.heap.size := fun k hk => World.ownsRow.lt ho k hk
  have hSg : S ≠ g := fun e => h.vdS.1 (by rw [hgo, e])
  have hDg : D ≠ g := fun e => h.vdS.2 (by rw [hgo, e])
  have hz : w.heap.size ≤ (w.setCell ⟨g, i, none⟩ v).heap.size := (frm_put w g i v).size
  have hblk : ∀ k, k ≠ g → (w.setCell ⟨g, i, none⟩ v).heap[k]? = w.heap[k]? := fun k hk => Below.heap_setCell _ _ _ _ hk
  have hR : ∀ x, x ∈ vp :: vq :: vk :: (us ++ ks) → ∀ k, x.ownBlock = some k → k ≠ g := fun x hx k hk e => (h.uR x hx k hk).2 (by rw [e]; exact .inr (.inr (.inr (.inr hgo))))
  have hva : ∀ k, va.ownBlock = some k → k ≠ g := fun k hk e => by
    have := rows_apart h.dv.oa h.od (by decide)
    rcases this with h1 | h1
    · rw [h1] at hk; cases hk
    · exact h1 (by rw [hk, hgo, e])
  have hvw : ∀ k, vw.ownBlock = some k → k ≠ g := fun k hk e => by
    have := rows_apart h.ow h.od (by decide)
    rcases this with h1 | h1
    · rw [h1] at hk; cases hk
    · exact h1 (by rw [hk, hgo, e])
  have hS := hblk S hSg
  have hFS : ∀ k, FSt S D va vw vd k → U k := h.uF
  refine ⟨?_, fun k hk => .inl (h.uF k hk), ?_, h.sd, h.no, cell_at hS h.s0, cell_at hS h.s1, cell_at hS h.s2, cell_at hS h.s3, cell_at hS h.s4, cell_at hS h.s5, cell_at hS h.s6, cell_at hS h.s7, cell_at hS h.s8, fun j => by rw [World.frozen?_setCell]; exact h.fz j, ?_, ?_, ?_, ?_, ?_, ?_, h.kl, ?_⟩
  · rintro k (hk | hk)
    · exact Nat.lt_of_lt_of_le (h.ult k hk) hz
    · exact Nat.lt_of_lt_of_le (hvo k hk).2 hz
  · intro x hx k hk
    have hx' : x = v ∨ x ∈ vp :: vq :: vk :: (us ++ ks) := by
      simp only [List.mem_cons, List.mem_append] at hx ⊢
      rcases hx with hx | hx | hx | hx | hx
      · exact .inr (.inl hx)
      · exact .inr (.inr (.inl hx))
      · exact .inr (.inr (.inr (.inl hx)))
      · rcases List.mem_or_eq_of_mem_set hx with hx | hx
        · exact .inr (.inr (.inr (.inr (.inl hx))))
        · exact .inl hx
      · exact .inr (.inr (.inr (.inr (.inr hx))))
    rcases hx' with rfl | hx'
    · refine ⟨.inr hk, fun hf => ?_⟩
      have h1 := hB k (hFS k hf)
      have h2 := (hvo k hk).1
      omega
    · exact ⟨.inl (h.uR x hx' k hk).1, (h.uR x hx' k hk).2⟩
  · exact h.dv.blocks hz (fun k hk hc => hblk k (by
      rcases hc with rfl | hc | hc | hc
      · exact hDg
      · exact hva k hc
      · exact hR vp (by simp) k hc
      · exact hR vq (by simp) k hc)) (fun k hk => h.ult k (h.uR vp (by simp) k hk).1) (fun k hk => h.ult k (h.uR vq (by simp) k hk).1)
  · exact ownsRow_of_block h.ow fun k hk => hblk k (hvw k hk)
  · subst hvd
    exact (OV.set (u := v) h.od rfl hi).1
  · simp only [List.length_set]; exact h.ul
  · intro j u x hu hx
    by_cases hj : i = j
    · subst hj
      rw [List.getElem?_set_self (by omega)] at hu
      simp only [Option.some.injEq] at hu
      have hx' : x = d := by
        simp only at hx
        rw [List.getElem?_set_self (by have := h.ul; omega)] at hx
        simpa using hx.symm
      subst hu hx'
      exact ownsRow_of_block (ho.mono (Nat.zero_le _)) fun k hk => hblk k (fun e => by have h1 := (hvo k hk).1; have h2 := hB g hgU; omega)
    · rw [List.getElem?_set_ne hj] at hu
      simp only at hx
      rw [List.getElem?_set_ne hj] at hx
      exact ownsRow_of_block (h.ur j u x hu hx) fun k hk => hblk k (hR u (SA.mem_us hu) k hk)
  · exact ownsRow_of_block h.ok fun k hk => hblk k (hR vk (by simp) k hk)
  · exact fun j u x hu hx => ownsRow_of_block (h.kr j u x hu hx) fun k hk => hblk k (hR u (SA.mem_ks hu) k hk)
theorem frm_drew {F : Nat → Prop} {w w1 : World} (h : Frm F w w1) : Frm F w w1.drew := ⟨h.os, h.tape, h.output, h.size, h.block⟩
theorem SA.data_post {W8 : World} (h : SA w U S D vp vq va vw vd vk us ks st) (hb : Below w.heap.size w W8) {g cd i B R : Nat} {v x y : Value} {d : Ds} (hvd : vd = .slice (some ⟨g, 0, none⟩) us.length cd) (hi : i < us.length) (ho : OR W8 B v d) (hR : w.heap.size ≤ R) (hRB : R < B) :
    ∃ U', So ((((W8.setCell ⟨g, i, none⟩ v).drew).setCell ⟨R, 0, none⟩ x).setCell ⟨R, 1, none⟩ y) U' S { st with now := st.now.set i d } ∧ Frm U w ((((W8.setCell ⟨g, i, none⟩ v).drew).setCell ⟨R, 0, none⟩ x).setCell ⟨R, 1, none⟩ y) ∧ ∀ k, U' k → U k ∨ w.heap.size ≤ k := by
  have hgU : U g := h.uF g (.inr (.inr (.inr (.inr (by rw [hvd]; rfl)))))
  have hvo : ∀ k, v.ownBlock = some k → B ≤ k := fun k hk => (World.ownsRow.lt ho k hk).1
  have h1 := (h.below hb).data hvd hi ho (fun k hk => by have := h.ult k hk; omega)
  have hf : Frm (fun k => k = R) (W8.setCell ⟨g, i, none⟩ v) ((((W8.setCell ⟨g, i, none⟩ v).drew).setCell ⟨R, 0, none⟩ x).setCell ⟨R, 1, none⟩ y) := frm_setCell (frm_setCell (frm_drew (Frm.refl _ _)) (by rfl) _) (by rfl) _
  have h2 := h1.frm hf (fun k hk e => by
    rcases hk with hk | hk
    · have := h.ult k hk; omega
    · have := hvo k hk; omega)
  refine ⟨_, ⟨D, vp, vq, va, vw, vd, vk, _, ks, h2⟩, ?_, fun k hk => ?_⟩
  · have f1 : Frm U w (W8.setCell ⟨g, i, none⟩ v) := frm_setCell (Frm.of_below hb) hgU v
    exact f1.trans hf (fun k hk e => by omega)
  · rcases hk with hk | hk
    · exact .inl hk
    · exact .inr (by have := hvo k hk; omega)
end Go.Proofs.Ytifcgimpgbeocaa
/- What the methods of a store make of what it keeps: cells of the store's own block set anew. -/
set_option linter.unusedVariables false
set_option linter.unusedSimpArgs false
namespace Go.Proofs.Ytifcgimpgbeocaa
open Go.RowKit
theorem SA.inS {w w9 : World} {U : Nat → Prop} {S D : Nat} {vp vq va vw vd vk : Value} {us ks : List Value} {st : St} (hf : Frm (fun k => k = S) w w9) (hdv : DA w D vp vq va st.dk st.acts) (hult : ∀ k, U k → k < w.heap.size) (huF : ∀ k, FSt S D va vw vd k → U k)
    (huR : ∀ v, v ∈ vp :: vq :: vk :: (us ++ ks) → ∀ k, v.ownBlock = some k → U k ∧ ¬ FSt S D va vw vd k) (hsd : S ≠ D) (hno : ∀ v, v = va ∨ v = vw ∨ v = vd → v.ownBlock ≠ some S ∧ v.ownBlock ≠ some D)
    (s0 : w9.cell? ⟨S, 0, none⟩ = some (.pointer (some ⟨D, 0, none⟩))) (s1 : w9.cell? ⟨S, 1, none⟩ = some (.int .i64 st.hd.1)) (s2 : w9.cell? ⟨S, 2, none⟩ = some (.int .i64 st.hd.2.1)) (s3 : w9.cell? ⟨S, 3, none⟩ = some (.int .i64 st.hd.2.2.1)) (s4 : w9.cell? ⟨S, 4, none⟩ = some (.int .i64 st.hd.2.2.2))
    (s5 : w9.cell? ⟨S, 5, none⟩ = some (strV st.log)) (s6 : w9.cell? ⟨S, 6, none⟩ = some vw) (s7 : w9.cell? ⟨S, 7, none⟩ = some vd) (s8 : w9.cell? ⟨S, 8, none⟩ = some vk) (fz : ∀ j, w9.frozen? ⟨S, j, none⟩ = false)
    (ow : OO w 0 vw st.ops) (od : OV w 0 vd us) (ul : us.length = st.now.length) (ur : ∀ (i : Nat) (u : Value) (d : Ds), us[i]? = some u → st.now[i]? = some d → OR w 0 u d)
    (ok : OV w 0 vk ks) (kl : ks.length = st.kept.length) (kr : ∀ (i : Nat) (u : Value) (d : Ds), ks[i]? = some u → st.kept[i]? = some d → OR w 0 u d) : SA w9 U S D vp vq va vw vd vk us ks st := by
  have hblk : ∀ k, k < w.heap.size → k ≠ S → w9.heap[k]? = w.heap[k]? := fun k h1 h2 => hf.block k h1 h2
  have hR : ∀ x, x ∈ vp :: vq :: vk :: (us ++ ks) → ∀ k, x.ownBlock = some k → w9.heap[k]? = w.heap[k]? := fun x hx k hk => hblk k (hult k (huR x hx k hk).1) (fun e => (huR x hx k hk).2 (.inl e))
  exact ⟨fun k hk => Nat.lt_of_lt_of_le (hult k hk) hf.size, huF, huR, hsd, hno, s0, s1, s2, s3, s4, s5, s6, s7, s8, fz,
    hdv.blocks hf.size (fun k hk hc => hblk k hk (by
      rcases hc with rfl | hc | hc | hc
      · exact fun e => hsd e.symm
      · exact fun e => (hno va (.inl rfl)).1 (by rw [hc, e])
      · exact fun e => (huR vp (by simp) k hc).2 (.inl e)
      · exact fun e => (huR vq (by simp) k hc).2 (.inl e))) (fun k hk => hult k (huR vp (by simp) k hk).1) (fun k hk => hult k (huR vq (by simp) k hk).1),
    ownsRow_of_block ow (fun k hk => hblk k (World.ownsRow.lt ow k hk).2 (fun e => (hno vw (.inr (.inl rfl))).1 (by rw [hk, e]))),
    ownsRow_of_block od (fun k hk => hblk k (World.ownsRow.lt od k hk).2 (fun e => (hno vd (.inr (.inr rfl))).1 (by rw [hk, e]))), ul,
    fun i u d hu hd => ownsRow_of_block (ur i u d hu hd) (hR u (SA.mem_us hu)), ownsRow_of_block ok (hR vk (by simp)), kl, fun i u d hu hd => ownsRow_of_block (kr i u d hu hd) (hR u (SA.mem_ks hu))⟩
variable {w : World} {U : Nat → Prop} {S D : Nat} {vp vq va vw vd vk : Value} {us ks : List Value} {st : St}
theorem SA.rdNow (h : SA w U S D vp vq va vw vd vk us ks st) : RdD w vd st.now := OD.rd (B := 0) ⟨us, h.ul, h.od, h.ur⟩
theorem SA.rdKept (h : SA w U S D vp vq va vw vd vk us ks st) : RdD w vk st.kept := OD.rd (B := 0) ⟨ks, h.kl, h.ok, h.kr⟩
theorem setS (w : World) (S i : Nat) (v : Value) (j : Nat) (h : j ≠ i) : (w.setCell ⟨S, i, none⟩ v).cell? ⟨S, j, none⟩ = w.cell? ⟨S, j, none⟩ := World.cell?_setCell_other _ _ _ _ (fun e => h (by cases e; rfl))
/-- The datasets are those of the last commit again. -/
theorem SA.undo_post {W8 : World} (h : SA w U S D vp vq va vw vd vk us ks st) (hb : Below w.heap.size w W8) {B : Nat} {v : Value} (ho : OD W8 B v st.kept) (hB : w.heap.size ≤ B) :
    ∃ U', So ((W8.setCell ⟨S, 7, none⟩ v).setCell ⟨S, 6, none⟩ (.slice none 0 0)) U' S (undoD st) ∧ Frm U w ((W8.setCell ⟨S, 7, none⟩ v).setCell ⟨S, 6, none⟩ (.slice none 0 0)) ∧ ∀ k, U' k → U k ∨ w.heap.size ≤ k := by
  obtain ⟨us', hul, hod, hur⟩ := ho
  have h8 := h.below hb
  have hvo : ∀ k, v.ownBlock = some k → B ≤ k ∧ k < W8.heap.size := fun k hk => World.ownsRow.lt hod k hk
  have hSl := h.ult S (h.uF S (.inl rfl))
  have hDl := h.ult D (h.uF D (.inr (.inl rfl)))
  have huo : ∀ u, u ∈ us' → ∀ k, u.ownBlock = some k → B ≤ k ∧ k < W8.heap.size ∧ v.ownBlock ≠ some k := fun u hu k hk => by
    obtain ⟨i, hi⟩ := List.getElem?_of_mem hu
    obtain ⟨d, hd⟩ : ∃ d, st.kept[i]? = some d := ⟨_, List.getElem?_eq_getElem (by have := (List.getElem?_eq_some_iff.1 hi).1; omega)⟩
    have h1 := hur i u d hi hd
    refine ⟨(World.ownsRow.lt h1 k hk).1, (World.ownsRow.lt h1 k hk).2, fun e => ?_⟩
    rcases rows_apart h1 hod (by decide) with h2 | h2
    · rw [h2] at hk; cases hk
    · exact h2 (by rw [hk, e])
  have hvS : v.ownBlock ≠ some S := fun e => by have := (hvo S e).1; omega
  have hvD : v.ownBlock ≠ some D := fun e => by have := (hvo D e).1; omega
  have hf : Frm (fun k => k = S) W8 ((W8.setCell ⟨S, 7, none⟩ v).setCell ⟨S, 6, none⟩ (.slice none 0 0)) := frm_setCell (frm_setCell (Frm.refl _ _) (by rfl) _) (by rfl) _
  have hcell : ∀ j, j ≠ 7 → j ≠ 6 → ((W8.setCell ⟨S, 7, none⟩ v).setCell ⟨S, 6, none⟩ (.slice none 0 0)).cell? ⟨S, j, none⟩ = W8.cell? ⟨S, j, none⟩ := fun j h1 h2 => by rw [setS _ _ _ _ _ h2, setS _ _ _ _ _ h1]
  refine ⟨fun k => U k ∨ v.ownBlock = some k ∨ ∃ u ∈ us', u.ownBlock = some k, ⟨D, vp, vq, va, .slice none 0 0, v, vk, us', ks, SA.inS (w := W8) hf h8.dv ?_ ?_ ?_ h.sd ?_ ?_ ?_ ?_ ?_ ?_ ?_ ?_ ?_ ?_ ?_ (oO_nil _ _) (hod.mono (Nat.zero_le _)) hul (fun i u d hu hd => (hur i u d hu hd).mono (Nat.zero_le _)) h8.ok h8.kl h8.kr⟩, ?_, ?_⟩
  · rintro k (hk | hk | ⟨u, hu, hk⟩)
    · exact h8.ult k hk
    · exact (hvo k hk).2
    · exact (huo u hu k hk).2.1
  · rintro k (hk | hk | hk | hk | hk)
    · exact .inl (h.uF k (.inl hk))
    · exact .inl (h.uF k (.inr (.inl hk)))
    · exact .inl (h.uF k (.inr (.inr (.inl hk))))
    · cases hk
    · exact .inr (.inl hk)
  · intro x hx k hk
    have hold : x ∈ vp :: vq :: vk :: (us ++ ks) → (U k ∨ v.ownBlock = some k ∨ ∃ u ∈ us', u.ownBlock = some k) ∧ ¬ FSt S D va (.slice none 0 0) v k := fun hx' => by
      refine ⟨.inl (h.uR x hx' k hk).1, fun hf => ?_⟩
      rcases hf with hf | hf | hf | hf | hf
      · exact (h.uR x hx' k hk).2 (.inl hf)
      · exact (h.uR x hx' k hk).2 (.inr (.inl hf))
      · exact (h.uR x hx' k hk).2 (.inr (.inr (.inl hf)))
      · cases hf
      · have h1 := (hvo k hf).1; have h2 := h.ult k (h.uR x hx' k hk).1; omega
    simp only [List.mem_cons, List.mem_append] at hx
    rcases hx with hx | hx | hx | hx | hx
    · exact hold (by simp [hx])
    · exact hold (by simp [hx])
    · exact hold (by simp [hx])
    · refine ⟨.inr (.inr ⟨x, hx, hk⟩), fun hf => ?_⟩
      have h1 := huo x hx k hk
      rcases hf with hf | hf | hf | hf | hf
      · omega
      · omega
      · have := h.ult k (h.uF k (.inr (.inr (.inl hf)))); omega
      · cases hf
      · exact h1.2.2 hf
    · exact hold (by simp [hx])
  · rintro x (rfl | rfl | rfl)
    · exact h.no x (.inl rfl)
    · exact ⟨by simp [Value.ownBlock], by simp [Value.ownBlock]⟩
    · exact ⟨hvS, hvD⟩
  · rw [hcell _ (by decide) (by decide)]; exact h8.s0
  · rw [hcell _ (by decide) (by decide)]; exact h8.s1
  · rw [hcell _ (by decide) (by decide)]; exact h8.s2
  · rw [hcell _ (by decide) (by decide)]; exact h8.s3
  · rw [hcell _ (by decide) (by decide)]; exact h8.s4
  · rw [hcell _ (by decide) (by decide)]; exact h8.s5
  · exact World.cell?_setCell_same _ _ _ (by rw [setS _ _ _ _ _ (by decide)]; exact h8.s6)
  · rw [setS _ _ _ _ _ (by decide)]; exact World.cell?_setCell_same _ _ _ h8.s7
  · rw [hcell _ (by decide) (by decide)]; exact h8.s8
  · intro j; rw [World.frozen?_setCell, World.frozen?_setCell]; exact h8.fz j
  · exact frm_setCell (frm_setCell (Frm.of_below hb) (h.uF S (.inl rfl)) _) (h.uF S (.inl rfl)) _
  · rintro k (hk | hk | ⟨u, hu, hk⟩)
    · exact .inl hk
    · exact .inr (by have := (hvo k hk).1; omega)
    · exact .inr (by have := (huo u hu k hk).1; omega)
end Go.Proofs.Ytifcgimpgbeocaa
/- An operation is laid behind those since the last commit. -/
set_option linter.unusedVariables false
set_option linter.unusedSimpArgs false
namespace Go.Proofs.Ytifcgimpgbeocaa
open Go.RowKit
theorem So.frm {w w' : World} {U F : Nat → Prop} {S : Nat} {st : St} (h : So w U S st) (hf : Frm F w w') (hF : ∀ k, U k → ¬ F k) : So w' U S st := by
  obtain ⟨D, vp, vq, va, vw, vd, vk, us, ks, h⟩ := h
  exact ⟨D, vp, vq, va, vw, vd, vk, us, ks, h.frm hf hF⟩
theorem So.below {w w' : World} {U : Nat → Prop} {S : Nat} {st : St} (h : So w U S st) (hb : Below w.heap.size w w') : So w' U S st := by
  obtain ⟨D, vp, vq, va, vw, vd, vk, us, ks, h⟩ := h
  exact ⟨D, vp, vq, va, vw, vd, vk, us, ks, h.below hb⟩
theorem So.lt {w : World} {U : Nat → Prop} {S : Nat} {st : St} (h : So w U S st) : ∀ k, U k → k < w.heap.size := by
  obtain ⟨D, vp, vq, va, vw, vd, vk, us, ks, h⟩ := h
  exact h.ult
theorem doData_err {data : List Ds} {o : FOp} (h : (doData data o).2.2 ≠ 0) : (doData data o).1 = data := by
  unfold doData at *
  split
  · rename_i h1
    rw [if_pos h1] at h
    split
    · rename_i h2
      rw [if_pos h2] at h
      exact absurd h2 h
    · rfl
  · rfl
variable {w : World} {U : Nat → Prop} {S D : Nat} {vp vq va vw vd vk : Value} {us ks : List Value} {st : St}
theorem SA.wait (h : SA w U S D vp vq va vw vd vk us ks st) {X w4 : World} {v4 : Value} {o : FOp} (hX : Below w.heap.size w X) (hg : X.grownBy w4 vw.ownBlock) (ho : OO w4 0 v4 (st.ops ++ [o])) (hat : v4.ownBlock = vw.ownBlock ∨ v4.ownBlock = some X.heap.size) :
    SA (w4.setCell ⟨S, 6, none⟩ v4) (fun k => U k ∨ v4.ownBlock = some k) S D vp vq va v4 vd vk us ks { st with ops := st.ops ++ [o] } := by
  have h8 := h.below hX
  have hSl := h.ult S (h.uF S (.inl rfl))
  have hDl := h.ult D (h.uF D (.inr (.inl rfl)))
  have hXz := hX.size
  have hvwS := h.no vw (.inr (.inl rfl))
  have hblk : ∀ k, k < X.heap.size → vw.ownBlock ≠ some k → w4.heap[k]? = X.heap[k]? := fun k h1 h2 => hg.block k h1 (fun e => h2 e.symm)
  have hR : ∀ x, x ∈ vp :: vq :: vk :: (us ++ ks) → ∀ k, x.ownBlock = some k → w4.heap[k]? = X.heap[k]? := fun x hx k hk => hblk k (h8.ult k (h8.uR x hx k hk).1) (fun e => (h8.uR x hx k hk).2 (.inr (.inr (.inr (.inl e)))))
  have hapA := rows_apart h8.dv.oa h8.ow (by decide)
  have hapV := rows_apart h8.od h8.ow (by decide)
  have hva : ∀ k, va.ownBlock = some k → vw.ownBlock ≠ some k := fun k hk e => by
    rcases hapA with h1 | h1
    · rw [h1] at hk; cases hk
    · exact h1 (by rw [hk, e])
  have hvd : ∀ k, vd.ownBlock = some k → vw.ownBlock ≠ some k := fun k hk e => by
    rcases hapV with h1 | h1
    · rw [h1] at hk; cases hk
    · exact h1 (by rw [hk, e])
  have hn4 : v4.ownBlock ≠ some S ∧ v4.ownBlock ≠ some D := by
    rcases hat with h1 | h1
    · rw [h1]; exact hvwS
    · rw [h1]; simp only [ne_eq, Option.some.injEq]; omega
  have hS := hblk S (by omega) hvwS.1
  have hcell : ∀ j, j ≠ 6 → ∀ v, X.cell? ⟨S, j, none⟩ = some v → (w4.setCell ⟨S, 6, none⟩ v4).cell? ⟨S, j, none⟩ = some v := fun j hj v hv => by rw [setS _ _ _ _ _ hj]; exact cell_at hS hv
  refine SA.inS (w := w4) (frm_setCell (Frm.refl _ _) (by rfl) _) ?_ ?_ ?_ ?_ h.sd ?_ (hcell 0 (by decide) _ h8.s0) (hcell 1 (by decide) _ h8.s1) (hcell 2 (by decide) _ h8.s2) (hcell 3 (by decide) _ h8.s3) (hcell 4 (by decide) _ h8.s4) (hcell 5 (by decide) _ h8.s5) ?_ (hcell 7 (by decide) _ h8.s7) (hcell 8 (by decide) _ h8.s8) ?_ ho ?_ h8.ul ?_ ?_ h8.kl ?_
  · exact h8.dv.blocks hg.size (fun k hk hc => hblk k hk (by
      rcases hc with rfl | hc | hc | hc
      · exact hvwS.2
      · exact hva k hc
      · exact fun e => (h8.uR vp (by simp) k hc).2 (.inr (.inr (.inr (.inl e))))
      · exact fun e => (h8.uR vq (by simp) k hc).2 (.inr (.inr (.inr (.inl e)))))) (fun k hk => h8.ult k (h8.uR vp (by simp) k hk).1) (fun k hk => h8.ult k (h8.uR vq (by simp) k hk).1)
  · rintro k (hk | hk)
    · exact Nat.lt_of_lt_of_le (h8.ult k hk) hg.size
    · exact (World.ownsRow.lt ho k hk).2
  · rintro k (hk | hk | hk | hk | hk)
    · exact .inl (h.uF k (.inl hk))
    · exact .inl (h.uF k (.inr (.inl hk)))
    · exact .inl (h.uF k (.inr (.inr (.inl hk))))
    · exact .inr hk
    · exact .inl (h.uF k (.inr (.inr (.inr (.inr hk)))))
  · intro x hx k hk
    have h1 := h.uR x hx k hk
    refine ⟨.inl h1.1, fun hf => ?_⟩
    rcases hf with hf | hf | hf | hf | hf
    · exact h1.2 (.inl hf)
    · exact h1.2 (.inr (.inl hf))
    · exact h1.2 (.inr (.inr (.inl hf)))
    · rcases hat with h2 | h2
      · exact h1.2 (.inr (.inr (.inr (.inl (by rw [← h2]; exact hf)))))
      · rw [h2] at hf; simp only [Option.some.injEq] at hf; have := h.ult k h1.1; omega
    · exact h1.2 (.inr (.inr (.inr (.inr hf))))
  · rintro x (rfl | rfl | rfl)
    · exact h.no x (.inl rfl)
    · exact hn4
    · exact h.no x (.inr (.inr rfl))
  · exact World.cell?_setCell_same _ _ _ (cell_at hS h8.s6)
  · intro j; rw [World.frozen?_setCell]; exact (frozen_at hS).trans (h8.fz j)
  · exact ownsRow_of_block h8.od fun k hk => hblk k (World.ownsRow.lt h8.od k hk).2 (hvd k hk)
  · exact fun i u d hu hd => ownsRow_of_block (h8.ur i u d hu hd) (hR u (SA.mem_us hu))
  · exact ownsRow_of_block h8.ok (hR vk (by simp))
  · exact fun i u d hu hd => ownsRow_of_block (h8.kr i u d hu hd) (hR u (SA.mem_ks hu))
end Go.Proofs.Ytifcgimpgbeocaa
/- slices.Clone at records, strings, writes, acts. -/
set_option linter.unusedVariables false
set_option linter.unusedSimpArgs false
namespace Go.Proofs.Ytifcgimpgbeocaa
open Go.RowKit
attribute [local go_sem] Oper.semAt_some
/-- A call that returns a row of its own. -/
def OwnR (l : Ds) (w : World) (e : Ending) (w' : World) : Prop := ∃ v, e = .returned v ∧ OR w' w.heap.size v l ∧ Below w.heap.size w w'
set_option maxRecDepth 100000 in
theorem cloneR_any (l : Ds) (v : Value) (w : World) (hR : RdR w v l) (hl : l.length ≤ 1000000000) : Calls Try.prog 89 #[v] w (OwnR l w) := by
  obtain ⟨o, cap, rfl, hcap, hc⟩ := hR.enc
  cases o with
  | none =>
    have e : l = [] := by
      rcases hc with hc | ⟨b, off, hc, -⟩
      · exact hc
      · cases hc
    subst e
    clear hc
    have hnil := fun (w : World) => Lib.run_eql_slice_nil (P := Try.prog) w 69 59 none 0 cap 0 0 underR
    simp only [List.length_nil]
    go_enter Try.func89, Try.ntmps89
    go_wp2_with fail
    go_ret
    exact ⟨_, rfl, oR_nil _ _, Below.refl _ _⟩
  | some a =>
    have hcs : ∀ j u, (encR l)[j]? = some u → (w.alloc (.cells #[] 59)).cell? (a.add j) = some u := fun j u hj => by
      rcases hc with hc | ⟨b, off, ho, hb, hc⟩
      · rw [hc] at hj; simp [encR_nil] at hj
      · cases ho
        rw [addr_add]
        exact keepc ((Below.refl w.heap.size w).alloc (Nat.le_refl _) _) (hc j u hj)
    have HCS := hid hcs
    have HN := hid (show ([] : Ds).length + l.length ≤ 1000000000 by simpa using hl)
    have HO := hid (oR_new w w.heap.size (Nat.le_refl _))
    have HB := hid (show w.heap.size ≤ (w.alloc (.cells #[] 59)).heap.size by simp)
    have HBW := hid ((Below.refl w.heap.size w).alloc (Nat.le_refl _) (.cells #[] 59))
    clear hcs hc
    have hnil := fun (w : World) => Lib.run_eql_slice_nil (P := Try.prog) w 69 59 (some a) l.length cap 0 0 underR
    go_enter Try.func89, Try.ntmps89
    go_wp2_with (at_builtin; refine appAllR rfl _ _ rfl w.heap.size _ [] l a cap rfl rfl HO.out HCS.out HN.out HB.out ?_)
    intro v7 w7 hop7 hg7
    have HB7 := hid (HO.out.grown HBW.out hg7 HB.out)
    have HO7 := hid hop7
    clear hop7 hg7
    go_wp2_with fail
    go_ret
    exact ⟨_, rfl, HO7.out, HB7.out⟩
/-- A call that returns a row of its own. -/
def OwnS (l : List Bs) (w : World) (e : Ending) (w' : World) : Prop := ∃ v, e = .returned v ∧ OS w' w.heap.size v l ∧ Below w.heap.size w w'
set_option maxRecDepth 100000 in
theorem cloneS_any (l : List Bs) (v : Value) (w : World) (hR : RdS w v l) (hl : l.length ≤ 1000000000) : Calls Try.prog 76 #[v] w (OwnS l w) := by
  obtain ⟨o, cap, rfl, hcap, hc⟩ := hR.enc
  cases o with
  | none =>
    have e : l = [] := by
      rcases hc with hc | ⟨b, off, hc, -⟩
      · exact hc
      · cases hc
    subst e
    clear hc
    have hnil := fun (w : World) => Lib.run_eql_slice_nil (P := Try.prog) w 24 9 none 0 cap 0 0 underS
    simp only [List.length_nil]
    go_enter Try.func76, Try.ntmps76
    go_wp2_with fail
    go_ret
    exact ⟨_, rfl, oS_nil _ _, Below.refl _ _⟩
  | some a =>
    have hcs : ∀ j u, (encS l)[j]? = some u → (w.alloc (.cells #[] 9)).cell? (a.add j) = some u := fun j u hj => by
      rcases hc with hc | ⟨b, off, ho, hb, hc⟩
      · rw [hc] at hj; simp [encS_nil] at hj
      · cases ho
        rw [addr_add]
        exact keepc ((Below.refl w.heap.size w).alloc (Nat.le_refl _) _) (hc j u hj)
    have HCS := hid hcs
    have HN := hid (show ([] : List Bs).length + l.length ≤ 1000000000 by simpa using hl)
    have HO := hid (oS_new w w.heap.size (Nat.le_refl _))
    have HB := hid (show w.heap.size ≤ (w.alloc (.cells #[] 9)).heap.size by simp)
    have HBW := hid ((Below.refl w.heap.size w).alloc (Nat.le_refl _) (.cells #[] 9))
    clear hcs hc
    have hnil := fun (w : World) => Lib.run_eql_slice_nil (P := Try.prog) w 24 9 (some a) l.length cap 0 0 underS
    go_enter Try.func76, Try.ntmps76
    go_wp2_with (at_builtin; refine appAllS rfl _ _ rfl w.heap.size _ [] l a cap rfl rfl HO.out HCS.out HN.out HB.out ?_)
    intro v7 w7 hop7 hg7
    have HB7 := hid (HO.out.grown HBW.out hg7 HB.out)
    have HO7 := hid hop7
    clear hop7 hg7
    go_wp2_with fail
    go_ret
    exact ⟨_, rfl, HO7.out, HB7.out⟩
/-- A call that returns a row of its own. -/
def OwnW (l : List Wt) (w : World) (e : Ending) (w' : World) : Prop := ∃ v, e = .returned v ∧ OW w' w.heap.size v l ∧ Below w.heap.size w w'
set_option maxRecDepth 100000 in
theorem cloneW_any (l : List Wt) (v : Value) (w : World) (hR : RdW w v l) (hl : l.length ≤ 1000000000) : Calls Try.prog 77 #[v] w (OwnW l w) := by
  obtain ⟨o, cap, rfl, hcap, hc⟩ := hR.enc
  cases o with
  | none =>
    have e : l = [] := by
      rcases hc with hc | ⟨b, off, hc, -⟩
      · exact hc
      · cases hc
    subst e
    clear hc
    have hnil := fun (w : World) => Lib.run_eql_slice_nil (P := Try.prog) w 25 112 none 0 cap 0 0 underW
    simp only [List.length_nil]
    go_enter Try.func77, Try.ntmps77
    go_wp2_with fail
    go_ret
    exact ⟨_, rfl, oW_nil _ _, Below.refl _ _⟩
  | some a =>
    have hcs : ∀ j u, (encW l)[j]? = some u → (w.alloc (.cells #[] 112)).cell? (a.add j) = some u := fun j u hj => by
      rcases hc with hc | ⟨b, off, ho, hb, hc⟩
      · rw [hc] at hj; simp [encW_nil] at hj
      · cases ho
        rw [addr_add]
        exact keepc ((Below.refl w.heap.size w).alloc (Nat.le_refl _) _) (hc j u hj)
    have HCS := hid hcs
    have HN := hid (show ([] : List Wt).length + l.length ≤ 1000000000 by simpa using hl)
    have HO := hid (oW_new w w.heap.size (Nat.le_refl _))
    have HB := hid (show w.heap.size ≤ (w.alloc (.cells #[] 112)).heap.size by simp)
    have HBW := hid ((Below.refl w.heap.size w).alloc (Nat.le_refl _) (.cells #[] 112))
    clear hcs hc
    have hnil := fun (w : World) => Lib.run_eql_slice_nil (P := Try.prog) w 25 112 (some a) l.length cap 0 0 underW
    go_enter Try.func77, Try.ntmps77
    go_wp2_with (at_builtin; refine appAllW rfl _ _ rfl w.heap.size _ [] l a cap rfl rfl HO.out HCS.out HN.out HB.out ?_)
    intro v7 w7 hop7 hg7
    have HB7 := hid (HO.out.grown HBW.out hg7 HB.out)
    have HO7 := hid hop7
    clear hop7 hg7
    go_wp2_with fail
    go_ret
    exact ⟨_, rfl, HO7.out, HB7.out⟩
/-- A call that returns a row of its own. -/
def OwnA (l : List Ac) (w : World) (e : Ending) (w' : World) : Prop := ∃ v, e = .returned v ∧ OA w' w.heap.size v l ∧ Below w.heap.size w w'
set_option maxRecDepth 100000 in
theorem cloneA_any (l : List Ac) (v : Value) (w : World) (hR : RdA w v l) (hl : l.length ≤ 1000000000) : Calls Try.prog 125 #[v] w (OwnA l w) := by
  obtain ⟨o, cap, rfl, hcap, hc⟩ := hR.enc
  cases o with
  | none =>
    have e : l = [] := by
      rcases hc with hc | ⟨b, off, hc, -⟩
      · exact hc
      · cases hc
    subst e
    clear hc
    have hnil := fun (w : World) => Lib.run_eql_slice_nil (P := Try.prog) w 45 104 none 0 cap 0 0 underA
    simp only [List.length_nil]
    go_enter Try.func125, Try.ntmps125
    go_wp2_with fail
    go_ret
    exact ⟨_, rfl, oA_nil _ _, Below.refl _ _⟩
  | some a =>
    have hcs : ∀ j u, (encA l)[j]? = some u → (w.alloc (.cells #[] 104)).cell? (a.add j) = some u := fun j u hj => by
      rcases hc with hc | ⟨b, off, ho, hb, hc⟩
      · rw [hc] at hj; simp [encA_nil] at hj
      · cases ho
        rw [addr_add]
        exact keepc ((Below.refl w.heap.size w).alloc (Nat.le_refl _) _) (hc j u hj)
    have HCS := hid hcs
    have HN := hid (show ([] : List Ac).length + l.length ≤ 1000000000 by simpa using hl)
    have HO := hid (oA_new w w.heap.size (Nat.le_refl _))
    have HB := hid (show w.heap.size ≤ (w.alloc (.cells #[] 104)).heap.size by simp)
    have HBW := hid ((Below.refl w.heap.size w).alloc (Nat.le_refl _) (.cells #[] 104))
    clear hcs hc
    have hnil := fun (w : World) => Lib.run_eql_slice_nil (P := Try.prog) w 45 104 (some a) l.length cap 0 0 underA
    go_enter Try.func125, Try.ntmps125
    go_wp2_with (at_builtin; refine appAllA rfl _ _ rfl w.heap.size _ [] l a cap rfl rfl HO.out HCS.out HN.out HB.out ?_)
    intro v7 w7 hop7 hg7
    have HB7 := hid (HO.out.grown HBW.out hg7 HB.out)
    have HO7 := hid hop7
    clear hop7 hg7
    go_wp2_with fail
    go_ret
    exact ⟨_, rfl, HO7.out, HB7.out⟩
end Go.Proofs.Ytifcgimpgbeocaa
