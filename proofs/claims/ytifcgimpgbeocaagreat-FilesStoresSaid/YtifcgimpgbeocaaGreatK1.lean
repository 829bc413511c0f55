/- Plain: disks, what is written last, crashes. -/
import Derived.Test.YtifcgimpgbeocaaGreatK0
set_option linter.unusedVariables false
set_option linter.unusedSimpArgs false
namespace Go.Proofs.YtifcgimpgbeocaaGreat
open Go.RowKit
abbrev Wt := Int × Bs
abbrev Dk := List Bs × List Wt
abbrev Ac := Bool × Int × Bs
def isPg (s : Bs) : Bool := s.length == 64
def isWt (n : Nat) (w : Wt) : Bool := decide (0 ≤ w.1 ∧ w.1 < (n : Int)) && (w.2.length == 64)
def isDk (d : Dk) : Bool := decide (4 ≤ d.1.length ∧ d.1.length ≤ 4096) && (d.1.all isPg && d.2.all (isWt d.1.length))
/-- What was written to a page last. -/
def wrt (d : Dk) (p : Nat) : Bs := d.2.foldl (fun s w => if w.1 = (p : Int) then w.2 else s) ((d.1[p]?).getD [])
def zs (n : Nat) : Bs := List.replicate n 0
def newDk (n : Int) : Dk × Int := if 4 ≤ n ∧ n ≤ 4096 then ((List.replicate n.toNat (zs 64), []), 0) else (([], []), 1)
def clamp (c : Int) : Nat := (min (max c 0) 64).toNat
def cutAt (cuts : List Int) (k : Nat) : Nat := match cuts[k]? with
  | some c => clamp c
  | none => 0
def tear (pages : List Bs) (w : Wt) (c : Nat) : List Bs := pages.set w.1.toNat (w.2.take c ++ ((pages[w.1.toNat]?).getD []).drop c)
/-- The pages behind the first k writes of a crash. -/
def crashTo (pages : List Bs) (ws : List Wt) (cuts : List Int) : Nat → List Bs
  | 0 => pages
  | k + 1 => match ws[k]? with
    | some w => tear (crashTo pages ws cuts k) w (cutAt cuts k)
    | none => crashTo pages ws cuts k
def crashDk (d : Dk) (cuts : List Int) : Dk := (crashTo d.1 d.2 cuts d.2.length, [])
def actDk (d : Dk) (a : Ac) : Dk := if a.1 = true then crashDk d (List.replicate d.2.length 64) else (d.1, d.2 ++ [a.2])
def isAct (d : Dk) (a : Ac) : Bool := if a.1 = true then (a.2.1 == 0) && a.2.2.isEmpty else isWt d.1.length a.2
theorem clamp_le (c : Int) : clamp c ≤ 64 := by unfold clamp; omega
theorem clamp64 : clamp 64 = 64 := rfl
theorem cutAt_le (cuts : List Int) (k : Nat) : cutAt cuts k ≤ 64 := by
  unfold cutAt
  split
  · exact clamp_le _
  · omega
theorem cutAt_rep (n k : Nat) : cutAt (List.replicate n 64) k = if k < n then 64 else 0 := by
  unfold cutAt
  rw [List.getElem?_replicate]
  by_cases h : k < n <;> simp [h, clamp64]
theorem isDk_len {d : Dk} (h : isDk d = true) : 4 ≤ d.1.length ∧ d.1.length ≤ 4096 := by
  unfold isDk at h
  simp only [Bool.and_eq_true, decide_eq_true_eq] at h
  exact h.1
theorem isDk_page {d : Dk} (h : isDk d = true) {i : Nat} {s : Bs} (hs : d.1[i]? = some s) : s.length = 64 := by
  unfold isDk at h
  simp only [Bool.and_eq_true, decide_eq_true_eq] at h
  have := List.all_eq_true.1 h.2.1 s (List.mem_of_getElem? hs)
  unfold isPg at this
  simpa using this
theorem isDk_wait {d : Dk} (h : isDk d = true) {w : Wt} (hw : w ∈ d.2) : 0 ≤ w.1 ∧ w.1 < (d.1.length : Int) ∧ w.2.length = 64 := by
  unfold isDk at h
  simp only [Bool.and_eq_true, decide_eq_true_eq] at h
  have := List.all_eq_true.1 h.2.2 w hw
  unfold isWt at this
  simp only [Bool.and_eq_true, decide_eq_true_eq, beq_iff_eq] at this
  exact ⟨this.1.1, this.1.2, this.2⟩
theorem isDk_mk {d : Dk} (h1 : 4 ≤ d.1.length) (h2 : d.1.length ≤ 4096) (h3 : ∀ s ∈ d.1, s.length = 64) (h4 : ∀ w ∈ d.2, 0 ≤ w.1 ∧ w.1 < (d.1.length : Int) ∧ w.2.length = 64) : isDk d = true := by
  unfold isDk
  simp only [Bool.and_eq_true, decide_eq_true_eq]
  refine ⟨⟨h1, h2⟩, List.all_eq_true.2 fun s hs => ?_, List.all_eq_true.2 fun w hw => ?_⟩
  · unfold isPg; simpa using h3 s hs
  · obtain ⟨a, b, c⟩ := h4 w hw
    unfold isWt
    simp only [Bool.and_eq_true, decide_eq_true_eq, beq_iff_eq]
    exact ⟨⟨a, b⟩, c⟩
theorem tear_len (pages : List Bs) (w : Wt) (c : Nat) : (tear pages w c).length = pages.length := by unfold tear; rw [List.length_set]
theorem crashTo_len (pages : List Bs) (ws : List Wt) (cuts : List Int) : ∀ k, (crashTo pages ws cuts k).length = pages.length
  | 0 => rfl
  | k + 1 => by
    unfold crashTo
    split
    · rw [tear_len, crashTo_len pages ws cuts k]
    · exact crashTo_len pages ws cuts k
theorem crashTo_page (pages : List Bs) (ws : List Wt) (cuts : List Int) (hp : ∀ s ∈ pages, s.length = 64) (hw : ∀ w ∈ ws, w.2.length = 64) : ∀ k, ∀ s ∈ crashTo pages ws cuts k, s.length = 64
  | 0 => hp
  | k + 1 => by
    have ih := crashTo_page pages ws cuts hp hw k
    unfold crashTo
    split
    · rename_i w hk
      intro s hs
      unfold tear at hs
      rcases List.mem_or_eq_of_mem_set hs with hs | rfl
      · exact ih s hs
      · have h1 := hw w (List.mem_of_getElem? hk)
        have h2 := cutAt_le cuts k
        by_cases hlt : w.1.toNat < (crashTo pages ws cuts k).length
        · have h3 := ih _ (List.getElem_mem hlt)
          rw [List.getElem?_eq_getElem hlt]
          simp only [Option.getD_some, List.length_append, List.length_take, List.length_drop, h1, h3]
          omega
        · have e : (crashTo pages ws cuts k).set w.1.toNat (w.2.take (cutAt cuts k) ++ (((crashTo pages ws cuts k)[w.1.toNat]?).getD []).drop (cutAt cuts k)) = crashTo pages ws cuts k := List.set_eq_of_length_le (by omega)
          rw [e] at hs
          exact ih _ hs
    · exact ih
theorem crash_isDk {d : Dk} (h : isDk d = true) (cuts : List Int) : isDk (crashDk d cuts) = true := by
  have hl := isDk_len h
  refine isDk_mk ?_ ?_ ?_ ?_
  · unfold crashDk; simp only [crashTo_len]; exact hl.1
  · unfold crashDk; simp only [crashTo_len]; exact hl.2
  · unfold crashDk
    exact crashTo_page _ _ _ (fun s hs => by obtain ⟨i, hi⟩ := List.getElem?_of_mem hs; exact isDk_page h hi) (fun w hw => (isDk_wait h hw).2.2) _
  · intro w hw; cases hw
theorem act_isDk {d : Dk} (h : isDk d = true) {a : Ac} (ha : isAct d a = true) : isDk (actDk d a) = true := by
  unfold actDk
  split
  · exact crash_isDk h _
  · rename_i hs
    have hl := isDk_len h
    unfold isAct at ha
    rw [if_neg hs] at ha
    unfold isWt at ha
    simp only [Bool.and_eq_true, decide_eq_true_eq, beq_iff_eq] at ha
    refine isDk_mk hl.1 hl.2 (fun s hs => by obtain ⟨i, hi⟩ := List.getElem?_of_mem hs; exact isDk_page h hi) fun w hw => ?_
    rcases List.mem_append.1 hw with hw | hw
    · exact isDk_wait h hw
    · rw [List.mem_singleton] at hw
      subst hw
      exact ⟨ha.1.1, ha.1.2, ha.2⟩
/-- Each byte of a torn page. -/
def byteTo (b : UInt8) (ws : List Wt) (cuts : List Int) (n i : Nat) : Nat → UInt8
  | 0 => b
  | k + 1 => match ws[k]? with
    | some w => if w.1 = (n : Int) ∧ i < cutAt cuts k then (w.2[i]?).getD 0 else byteTo b ws cuts n i k
    | none => byteTo b ws cuts n i k
theorem crashTo_byte (pages : List Bs) (ws : List Wt) (cuts : List Int) (n i : Nat) (hn : n < pages.length) (hi : i < 64) (hp : ∀ s ∈ pages, s.length = 64) (hw : ∀ w ∈ ws, 0 ≤ w.1 ∧ w.2.length = 64) :
    ∀ k, (((crashTo pages ws cuts k)[n]?).getD [])[i]? = some (byteTo ((((pages[n]?).getD [])[i]?).getD 0) ws cuts n i k)
  | 0 => by
    unfold crashTo byteTo
    rw [List.getElem?_eq_getElem hn]
    have := hp _ (List.getElem_mem hn)
    simp only [Option.getD_some]
    rw [List.getElem?_eq_getElem (by omega)]
    rfl
  | k + 1 => by
    have ih := crashTo_byte pages ws cuts n i hn hi hp hw k
    have hl := crashTo_len pages ws cuts k
    unfold crashTo byteTo
    split
    · rename_i w hk
      obtain ⟨w0, w1⟩ := hw w (List.mem_of_getElem? hk)
      have hc := cutAt_le cuts k
      unfold tear
      rw [List.getElem?_set]
      by_cases hwn : w.1.toNat = n
      · have e : w.1 = (n : Int) := by omega
        rw [if_pos hwn, if_pos (by omega)]
        simp only [Option.getD_some, e, true_and, Int.toNat_natCast]
        by_cases hic : i < cutAt cuts k
        · rw [if_pos hic, List.getElem?_append_left (by rw [List.length_take]; omega), List.getElem?_take_of_lt hic, List.getElem?_eq_getElem (by omega)]
          rfl
        · rw [if_neg hic, List.getElem?_append_right (by rw [List.length_take]; omega), List.getElem?_drop, List.length_take, ← ih]
          congr 1
          omega
      · rw [if_neg hwn, ih, if_neg (fun h => hwn (by omega))]
    · exact ih
/-! ### A crash with cuts of 64 is a sync -/
theorem crash_rep_page (pages : List Bs) (ws : List Wt) (m p : Nat) (hp : ∀ s ∈ pages, s.length = 64) (hw : ∀ w ∈ ws, 0 ≤ w.1 ∧ w.1 < (pages.length : Int) ∧ w.2.length = 64) (hm : ws.length ≤ m) :
    ∀ k, k ≤ ws.length → ((crashTo pages ws (List.replicate m 64) k)[p]?).getD [] = (ws.take k).foldl (fun s w => if w.1 = (p : Int) then w.2 else s) ((pages[p]?).getD [])
  | 0, _ => rfl
  | k + 1, hk => by
    have ih := crash_rep_page pages ws m p hp hw hm k (by omega)
    have hl := crashTo_len pages ws (List.replicate m 64) k
    have hlk : k < ws.length := hk
    obtain ⟨w0, w1, w2⟩ := hw _ (List.getElem_mem hlk)
    unfold crashTo
    rw [List.getElem?_eq_getElem hlk, List.take_succ_eq_append_getElem hlk, List.foldl_append]
    simp only [List.foldl_cons, List.foldl_nil]
    rw [cutAt_rep, if_pos (by omega)]
    unfold tear
    rw [List.getElem?_set]
    by_cases h : (ws[k]).1.toNat = p
    · have e : (ws[k]).1 = (p : Int) := by omega
      rw [if_pos h, if_pos (by omega), if_pos e, Option.getD_some, List.take_of_length_le (by omega)]
      have hd : (((crashTo pages ws (List.replicate m 64) k)[(ws[k]).1.toNat]?).getD []).drop 64 = [] := by
        have hlt : (ws[k]).1.toNat < (crashTo pages ws (List.replicate m 64) k).length := by omega
        have := crashTo_page pages ws (List.replicate m 64) hp (fun w hw' => (hw w hw').2.2) k _ (List.getElem_mem hlt)
        rw [List.getElem?_eq_getElem hlt, Option.getD_some]
        exact List.drop_of_length_le (by omega)
      rw [hd, List.append_nil]
    · rw [if_neg h, ih, if_neg (fun e => h (by omega))]
theorem sync_wrt {d : Dk} (h : isDk d = true) (m p : Nat) (hm : d.2.length ≤ m) : ((crashDk d (List.replicate m 64)).1[p]?).getD [] = wrt d p := by
  have := crash_rep_page d.1 d.2 m p (fun s hs => by obtain ⟨i, hi⟩ := List.getElem?_of_mem hs; exact isDk_page h hi) (fun w hw => isDk_wait h hw) hm d.2.length (Nat.le_refl _)
  rw [List.take_length] at this
  exact this
theorem wrt_len {d : Dk} (h : isDk d = true) {p : Nat} (hp : p < d.1.length) : (wrt d p).length = 64 := by
  rw [← sync_wrt h d.2.length p (Nat.le_refl _)]
  have hc := crash_isDk h (List.replicate d.2.length 64)
  have hl : p < (crashDk d (List.replicate d.2.length 64)).1.length := by unfold crashDk; simp only [crashTo_len]; exact hp
  rw [List.getElem?_eq_getElem hl, Option.getD_some]
  exact isDk_page hc (List.getElem?_eq_getElem hl)
/-- The program's way: from the last write backward. -/
def backP (p : Nat) (o : Bs) : List Wt → Bs
  | [] => o
  | w :: r => if w.1 = (p : Int) then w.2 else backP p o r
theorem back_wrt (p : Nat) : ∀ (ws : List Wt) (o : Bs), backP p o ws.reverse = ws.foldl (fun s w => if w.1 = (p : Int) then w.2 else s) o := by
  intro ws
  induction ws with
  | nil => intro o; rfl
  | cons w r ih =>
    intro o
    rw [List.foldl_cons, ← ih, List.reverse_cons]
    have : ∀ (l : List Wt) (o : Bs), backP p o (l ++ [w]) = backP p (if w.1 = (p : Int) then w.2 else o) l := by
      intro l
      induction l with
      | nil => intro o; rfl
      | cons x l ihl => intro o; simp only [List.cons_append, backP, ihl]
    rw [this]
end Go.Proofs.YtifcgimpgbeocaaGreat
/- Plain: heads of stores: their pages, which are valid, what is left of one that tears. -/
set_option linter.unusedVariables false
set_option linter.unusedSimpArgs false
namespace Go.Proofs.YtifcgimpgbeocaaGreat
open Go.RowKit
def four (n : Nat) : Bs := [UInt8.ofNat (n / 16777216), UInt8.ofNat (n / 65536), UInt8.ofNat (n / 256), UInt8.ofNat n]
def byteAt (s : Bs) (i : Nat) : Nat := ((s[i]?).getD 0).toNat
def num4 (s : Bs) (i : Nat) : Nat := byteAt s i * 16777216 + byteAt s (i + 1) * 65536 + byteAt s (i + 2) * 256 + byteAt s (i + 3)
/-- A head: its turn, its log, how many datasets, how many bytes. -/
abbrev Hd := Nat × Nat × Nat × Nat
def headPg (h : Hd) : Bs := four h.1 ++ ([UInt8.ofNat h.2.1, UInt8.ofNat h.2.2.1, 0, 0] ++ (four h.2.2.2 ++ (zs 48 ++ four h.1)))
def headOf (s : Bs) : Hd := (num4 s 0, byteAt s 4, byteAt s 5, num4 s 8)
def hdOk (h : Hd) (p half : Nat) : Bool := decide (1 ≤ h.1 ∧ h.1 % 2 = p ∧ h.2.1 ≤ 1 ∧ 1 ≤ h.2.2.1 ∧ h.2.2.1 ≤ 8 ∧ h.2.2.2 ≤ 64 * half)
def headOk (s : Bs) (p half : Nat) : Bool := hdOk (headOf s) p half && (headPg (headOf s) == s)
theorem four_len (n : Nat) : (four n).length = 4 := rfl
theorem headPg_len (h : Hd) : (headPg h).length = 64 := by unfold headPg zs; simp [four_len]
theorem zs_len (n : Nat) : (zs n).length = n := by unfold zs; simp
theorem ofNat_toNat (n : Nat) : (UInt8.ofNat n).toNat = n % 256 := UInt8.toNat_ofNat'
theorem byteAt_append_left {s t : Bs} {i : Nat} (h : i < s.length) : byteAt (s ++ t) i = byteAt s i := by
  unfold byteAt; rw [List.getElem?_append_left h]
theorem byteAt_append_right {s t : Bs} {i : Nat} (h : s.length ≤ i) : byteAt (s ++ t) i = byteAt t (i - s.length) := by
  unfold byteAt; rw [List.getElem?_append_right h]
theorem byteAt_lt (s : Bs) (i : Nat) : byteAt s i < 256 := by unfold byteAt; exact UInt8.toNat_lt _
theorem num4_lt (s : Bs) (i : Nat) : num4 s i < 4294967296 := by
  unfold num4
  have := byteAt_lt s i; have := byteAt_lt s (i + 1); have := byteAt_lt s (i + 2); have := byteAt_lt s (i + 3)
  omega
theorem num4_four {n : Nat} (h : n < 4294967296) (t : Bs) : num4 (four n ++ t) 0 = n := by
  unfold num4
  rw [byteAt_append_left (by simp [four_len]), byteAt_append_left (by simp [four_len]), byteAt_append_left (by simp [four_len]), byteAt_append_left (by simp [four_len])]
  unfold four byteAt
  simp only [List.getElem?_cons_zero, List.getElem?_cons_succ, Option.getD_some, ofNat_toNat]
  omega
theorem num4_drop (s t : Bs) (i : Nat) : num4 (s ++ t) (s.length + i) = num4 t i := by
  unfold num4
  rw [byteAt_append_right (by omega), byteAt_append_right (by omega), byteAt_append_right (by omega), byteAt_append_right (by omega)]
  rw [show s.length + i - s.length = i by omega, show s.length + i + 1 - s.length = i + 1 by omega, show s.length + i + 2 - s.length = i + 2 by omega, show s.length + i + 3 - s.length = i + 3 by omega]
theorem headOf_pg {h : Hd} (h1 : h.1 < 4294967296) (h2 : h.2.1 < 256) (h3 : h.2.2.1 < 256) (h4 : h.2.2.2 < 4294967296) : headOf (headPg h) = h := by
  obtain ⟨a, b, c, d⟩ := h
  simp only at h1 h2 h3 h4
  have e1 : num4 (headPg (a, b, c, d)) 0 = a := num4_four h1 _
  have e4 : num4 (headPg (a, b, c, d)) 8 = d := by
    unfold headPg
    have := num4_drop (four a ++ [UInt8.ofNat b, UInt8.ofNat c, 0, 0]) (four d ++ (zs 48 ++ four a)) 0
    rw [List.append_assoc] at this
    rw [show (four a ++ [UInt8.ofNat b, UInt8.ofNat c, 0, 0]).length + 0 = 8 from rfl] at this
    simp only
    rw [this]
    exact num4_four h4 _
  unfold headOf
  rw [e1, e4]
  have e2 : byteAt (headPg (a, b, c, d)) 4 = b := by
    unfold byteAt headPg four
    simp only [List.cons_append, List.nil_append, List.getElem?_cons_succ, List.getElem?_cons_zero, Option.getD_some, ofNat_toNat]
    omega
  have e3 : byteAt (headPg (a, b, c, d)) 5 = c := by
    unfold byteAt headPg four
    simp only [List.cons_append, List.nil_append, List.getElem?_cons_succ, List.getElem?_cons_zero, Option.getD_some, ofNat_toNat]
    omega
  rw [e2, e3]
theorem headPg_ok {h : Hd} {p half : Nat} (h1 : h.1 < 4294967296) (h4 : h.2.2.2 < 4294967296) (ho : hdOk h p half = true) : headOk (headPg h) p half = true := by
  have ho' := ho
  unfold hdOk at ho'
  rw [decide_eq_true_eq] at ho'
  unfold headOk
  rw [headOf_pg h1 (by omega) (by omega) h4, ho]
  simp
/-- The last four bytes of a valid head's page. -/
theorem headOk_ends {s : Bs} {p half : Nat} (h : headOk s p half = true) : s = headPg (headOf s) ∧ hdOk (headOf s) p half = true := by
  unfold headOk at h
  simp only [Bool.and_eq_true, beq_iff_eq] at h
  exact ⟨h.2.symm, h.1⟩
theorem headPg_take (h : Hd) : (headPg h).take 4 = four h.1 := rfl
theorem headPg_drop (h : Hd) : (headPg h).drop 60 = four h.1 := by
  unfold headPg
  rw [← List.append_assoc, ← List.append_assoc, ← List.append_assoc]
  exact List.drop_left' (by simp [four_len, zs])
/-! ### What is left of a head that tears -/
/-- The other head's page while the turn is T: bytes of the head T - 1 under the beginning of heads T + 1. -/
def Torn (T : Nat) (q : Bs) : Prop := q.length = 64 ∧ ∃ a b : Nat, a ≤ 4 ∧ b ≤ 3 ∧ (0 < b → a = 4) ∧ q.take 4 = (four (T + 1)).take a ++ (four (T - 1)).drop a ∧ q.drop 60 = (four (T + 1)).take b ++ (four (T - 1)).drop b
theorem four_inj {m n : Nat} (hm : m < 4294967296) (hn : n < 4294967296) (h : four m = four n) : m = n := by
  have h1 := num4_four hm []
  rw [h, num4_four hn] at h1
  exact h1.symm
/-- A page that is torn so, if it is valid, has a turn that is less. -/
theorem torn_less {T : Nat} {q : Bs} {p half : Nat} (hT : 1 ≤ T) (hT2 : T + 1 < 4294967296) (h : Torn T q) (ho : headOk q p half = true) : (headOf q).1 = T - 1 := by
  obtain ⟨hl, a, b, ha, hb, hab, h1, h2⟩ := h
  obtain ⟨e, -⟩ := headOk_ends ho
  have hlt : (headOf q).1 < 4294967296 := num4_lt q 0
  have f1 : q.take 4 = four (headOf q).1 := by conv => lhs; rw [e]
                                               exact headPg_take _
  have f2 : q.drop 60 = four (headOf q).1 := by conv => lhs; rw [e]
                                                exact headPg_drop _
  rw [f1] at h1
  rw [f2] at h2
  by_cases hb0 : b = 0
  · subst hb0
    simp only [List.take_zero, List.nil_append, List.drop_zero] at h2
    exact four_inj hlt (by omega) h2
  · have ha4 := hab (by omega)
    subst ha4
    rw [show (four (T + 1)).take 4 = four (T + 1) from rfl, show (four (T - 1)).drop 4 = [] from rfl, List.append_nil] at h1
    rw [h1] at h2
    have h3 : (four (T + 1))[3]? = ((four (T + 1)).take b ++ (four (T - 1)).drop b)[3]? := by rw [← h2]
    rw [List.getElem?_append_right (by rw [List.length_take, four_len]; omega), List.length_take, four_len, List.getElem?_drop] at h3
    rw [show b + (3 - min b 4) = 3 by omega] at h3
    unfold four at h3
    simp only [List.getElem?_cons_succ, List.getElem?_cons_zero, Option.some.injEq] at h3
    have h4 := congrArg UInt8.toNat h3
    rw [ofNat_toNat, ofNat_toNat] at h4
    omega
theorem torn_start : Torn 1 (zs 64) := ⟨by simp [zs], 0, 0, by omega, by omega, by omega, by decide, by decide⟩
theorem torn_head {h : Hd} : Torn (h.1 + 1) (headPg h) := ⟨headPg_len h, 0, 0, by omega, by omega, by omega, by rw [headPg_take]; rfl, by rw [headPg_drop]; rfl⟩
end Go.Proofs.YtifcgimpgbeocaaGreat
/- Plain: stores: what Open finds, what Do, Commit and Undo make. -/
set_option linter.unusedVariables false
set_option linter.unusedSimpArgs false
namespace Go.Proofs.YtifcgimpgbeocaaGreat
open Go.RowKit
def halfN (n : Nat) : Nat := (n - 2) / 2
def firstPg (n lg : Nat) : Nat := 2 + lg * halfN n
def pgs (n : Nat) : Nat := (n + 63) / 64
def logPages (d : Dk) (lg m : Nat) : Bs := (List.range m).flatMap (fun p => wrt d (firstPg d.1.length lg + p))
def content (d : Dk) (lg len : Nat) : Bs := (logPages d lg (pgs len)).take len
def readHd (d : Dk) (p : Nat) : Option Hd := if headOk (wrt d p) p (halfN d.1.length) = true then some (headOf (wrt d p)) else none
def pickHd : Option Hd → Option Hd → Option Hd
  | some a, some b => if a.1 < b.1 then some b else some a
  | some a, none => some a
  | none, x => x
def bestHd (d : Dk) : Option Hd := pickHd (readHd d 0) (readHd d 1)
theorem pick_left {a : Hd} {x : Option Hd} (h : x = none ∨ ∃ b, x = some b ∧ b.1 < a.1) : pickHd (some a) x = some a := by
  rcases h with rfl | ⟨b, rfl, h⟩
  · rfl
  · unfold pickHd
    exact if_neg (by omega)
theorem pick_right {a : Hd} {x : Option Hd} (h : x = none ∨ ∃ b, x = some b ∧ b.1 < a.1) : pickHd x (some a) = some a := by
  rcases h with rfl | ⟨b, rfl, h⟩
  · rfl
  · unfold pickHd
    exact if_pos h
def doData (data : List Ds) (o : FOp) : List Ds × Rec × Int :=
  if isOp o = true ∧ o.2.1 < (data.length : Int) then
    (if (applyD ((data[o.2.1.toNat]?).getD []) o).2.2 = 0 then (data.set o.2.1.toNat (applyD ((data[o.2.1.toNat]?).getD []) o).1, (applyD ((data[o.2.1.toNat]?).getD []) o).2)
     else (data, ([], []), (applyD ((data[o.2.1.toNat]?).getD []) o).2.2))
  else (data, ([], []), 1)
def runAll : List Ds → List FOp → Option (List Ds)
  | data, [] => some data
  | data, o :: l => if (doData data o).2.2 = 0 then runAll (doData data o).1 l else none
def empties (n : Nat) : List Ds := List.replicate n []
structure St where
  dk : Dk
  hd : Hd
  log : Bs
  ops : List FOp
  now : List Ds
  kept : List Ds
  acts : List Ac
def openD (d : Dk) : Option St × Int :=
  if isDk d = true then (match bestHd d with
    | none => (none, 143)
    | some h => match decL (content d h.2.1 h.2.2.2) with
      | none => (none, 143)
      | some ops => match runAll (empties h.2.2.1) ops with
        | none => (none, 143)
        | some data => (some ⟨d, h, content d h.2.1 h.2.2.2, [], data, data, []⟩, 0))
  else (none, 142)
def doSt (st : St) (o : FOp) : St × Rec × Int :=
  if (doData st.now o).2.2 = 0 then ({ st with now := (doData st.now o).1, ops := if chg o = true then st.ops ++ [o] else st.ops }, (doData st.now o).2) else (st, (doData st.now o).2)
def snap : Nat → List Ds → List FOp
  | _, [] => []
  | i, d :: r => d.map (fun x => ((3 : Int), (i : Int), x.1, x.2)) ++ snap (i + 1) r
def pad (s : Bs) : Bs := s ++ zs (pgs s.length * 64 - s.length)
def pageOf (s : Bs) (p : Nat) : Bs := ((pad s).drop (p * 64)).take 64
def layW (n lg from_ : Nat) (s : Bs) : List Wt := (List.range (pgs s.length - from_ / 64)).map (fun i => (((firstPg n lg + (from_ / 64 + i) : Nat) : Int), pageOf s (from_ / 64 + i)))
def syncA : Ac := (true, 0, [])
def room (st : St) : Nat := 64 * halfN st.dk.1.length
def full1 (st : St) : Bool := decide (room st < (st.log ++ encL st.ops).length)
def nLog (st : St) : Nat := if full1 st = true then 1 - st.hd.2.1 else st.hd.2.1
def nBytes (st : St) : Bs := if full1 st = true then encL (snap 0 st.now) else st.log ++ encL st.ops
def nFrom (st : St) : Nat := if full1 st = true then 0 else st.log.length
def nHd (st : St) : Hd := (st.hd.1 + 1, nLog st, st.hd.2.2.1, (nBytes st).length)
def nW (st : St) : List Wt := layW st.dk.1.length (nLog st) (nFrom st) (nBytes st)
def headA (st : St) : Ac := (false, (((st.hd.1 + 1) % 2 : Nat) : Int), headPg (nHd st))
def nActs (st : St) : List Ac := (nW st).map (fun w => (false, w)) ++ [syncA, headA st, syncA]
def commitSt (st : St) : St := { st with dk := (nActs st).foldl actDk st.dk, hd := nHd st, log := nBytes st, ops := [], kept := st.now, acts := st.acts ++ nActs st }
def commitD (st : St) : St × Int :=
  if st.ops = [] then (st, 0) else if st.hd.1 = 4294967295 then (st, 2) else if room st < (nBytes st).length then (st, 144) else (commitSt st, 0)
def undoD (st : St) : St := { st with now := st.kept, ops := [] }
/-! ### Datasets behind operations -/
theorem apply_isDs {d : Ds} (h : isDs d = true) {o : FOp} (he : (applyD d o).2.2 = 0) : isDs (applyD d o).1 = true := by
  by_cases ho : isOp o = true
  · obtain ⟨k1, k2⟩ := isOp_kinds ho
    unfold applyD at he ⊢
    rw [if_pos h, if_pos ho] at he ⊢
    by_cases c1 : o.1 = 1
    · rw [if_pos c1] at he ⊢
      by_cases e : (readD d o.2.2.1).2 = 0
      · rw [if_pos e]; exact h
      · rw [if_neg e] at he; exact absurd he e
    rw [if_neg c1] at he ⊢
    by_cases c2 : o.1 = 2
    · rw [if_pos c2] at he ⊢
      by_cases e : (nextD d o.2.2.1).2 = 0
      · rw [if_pos e]; exact h
      · rw [if_neg e] at he; exact absurd he e
    rw [if_neg c2] at he ⊢
    by_cases c3 : o.1 = 3
    · rw [if_pos c3] at he ⊢
      simp only at he ⊢
      unfold writeD at he ⊢
      rw [if_pos h] at he ⊢
      split at he
      · rename_i hr
        rw [if_pos hr]
        split at he
        · simp at he
        · rename_i hh
          rw [if_neg hh]
          split at he
          · simp at he
          · rename_i hl
            rw [if_neg hl]
            exact ins_isDs h hr (by simpa using hh) (by have := isDs_len h; omega)
      · simp at he
    rw [if_neg c3] at he ⊢
    by_cases c4 : o.1 = 4
    · rw [if_pos c4] at he ⊢
      simp only at he ⊢
      unfold rewriteD at he ⊢
      rw [if_pos h] at he ⊢
      split at he
      · rename_i hr
        rw [if_pos hr]
        split at he
        · rename_i hh
          rw [if_pos hh]
          exact set_isDs h hr hh
        · simp at he
      · simp at he
    rw [if_neg c4] at he ⊢
    simp only at he ⊢
    unfold deleteD at he ⊢
    rw [if_pos h] at he ⊢
    split at he
    · rename_i hr
      rw [if_pos hr]
      split at he
      · rename_i hh
        rw [if_pos hh]
        exact erase_isDs h _
      · simp at he
    · simp at he
  · unfold applyD at he
    rw [if_pos h, if_neg ho] at he
    simp at he
def AllDs (data : List Ds) : Prop := ∀ d ∈ data, isDs d = true
theorem allDs_get {data : List Ds} (h : AllDs data) (i : Nat) : isDs ((data[i]?).getD []) = true := by
  cases e : data[i]? with
  | none => rfl
  | some d => exact h d (List.mem_of_getElem? e)
theorem doData_len (data : List Ds) (o : FOp) : (doData data o).1.length = data.length := by
  unfold doData
  split
  · split
    · simp
    · rfl
  · rfl
theorem doData_all {data : List Ds} (h : AllDs data) (o : FOp) : AllDs (doData data o).1 := by
  unfold doData
  split
  · split
    · rename_i he
      intro d hd
      rcases List.mem_or_eq_of_mem_set hd with hd | rfl
      · exact h d hd
      · exact apply_isDs (allDs_get h _) he
    · exact h
  · exact h
theorem runAll_append : ∀ (data : List Ds) (l m : List FOp), runAll data (l ++ m) = (runAll data l).bind fun e => runAll e m
  | data, [], m => rfl
  | data, o :: l, m => by
    simp only [List.cons_append, runAll]
    split
    · exact runAll_append _ l m
    · rfl
theorem runAll_len : ∀ {l : List FOp} {data e : List Ds}, runAll data l = some e → e.length = data.length
  | [], data, e, h => by simp only [runAll, Option.some.injEq] at h; rw [h]
  | o :: l, data, e, h => by
    simp only [runAll] at h
    split at h
    · rw [runAll_len h, doData_len]
    · cases h
theorem runAll_all : ∀ {l : List FOp} {data e : List Ds}, AllDs data → runAll data l = some e → AllDs e
  | [], data, e, ha, h => by simp only [runAll, Option.some.injEq] at h; rw [← h]; exact ha
  | o :: l, data, e, ha, h => by
    simp only [runAll] at h
    split at h
    · exact runAll_all (doData_all ha o) h
    · cases h
theorem empties_all (n : Nat) : AllDs (empties n) := fun d hd => by
  have := (List.mem_replicate.1 hd).2
  rw [this]; rfl
/-! ### The operations that make datasets of empty ones -/
theorem ins_last {p : Ds} {r : Rec} (h : ∀ x ∈ p, ltB x.1 r.1 = true) : atD p r.1 = p.length ∧ hasD p r.1 = false ∧ insD p r = p ++ [r] := by
  have ha : atD p r.1 = p.length := by
    unfold atD
    rw [List.findIdx_eq_length]
    intro x hx
    rw [h x hx]; rfl
  refine ⟨ha, ?_, ?_⟩
  · unfold hasD keyAt
    rw [ha, List.getElem?_eq_none (Nat.le_refl _)]
  · unfold insD
    rw [ha, List.take_length, List.drop_length]
theorem isOp_write {i : Nat} {r : Rec} (hi : i < 8) (hr : isRec r = true) : isOp (3, (i : Int), r.1, r.2) = true ∧ chg (3, (i : Int), r.1, r.2) = true := by
  have hr' := hr
  unfold isRec at hr'
  simp only [Bool.and_eq_true, decide_eq_true_eq] at hr'
  have h1 : isOp (3, (i : Int), r.1, r.2) = true := by
    unfold isOp
    simp [hr'.1, hr'.2]
    omega
  exact ⟨h1, by unfold chg; simp [h1]⟩
theorem apply_writeF {d : Ds} {r : Rec} (h : isDs d = true) (f : Nat) (hf : f < 8) (hr : isRec r = true) (hh : hasD d r.1 = false) (hl : d.length < 64) : applyD d (3, (f : Int), r.1, r.2) = (insD d r, ([], []), 0) := by
  unfold applyD writeD
  rw [if_pos h, if_pos (isOp_write hf hr).1]
  simp [h, hr, hh]
  rw [if_neg (by omega)]
  simp
theorem run_writes : ∀ (l p : Ds) (data : List Ds) (i : Nat), i < 8 → data[i]? = some p → isDs (p ++ l) = true →
    runAll data (l.map (fun x => ((3 : Int), (i : Int), x.1, x.2))) = some (data.set i (p ++ l))
  | [], p, data, i, hi, hd, h => by
    obtain ⟨hlt, e⟩ := List.getElem?_eq_some_iff.1 hd
    simp only [List.map_nil, runAll, List.append_nil, Option.some.injEq]
    rw [← e, List.set_getElem_self]
  | r :: l, p, data, i, hi, hd, h => by
    have hs := isDs_sorted h
    have hp : ∀ x ∈ p, ltB x.1 r.1 = true := fun x hx => (List.pairwise_append.1 hs).2.2 x hx r (List.mem_cons_self ..)
    obtain ⟨-, h2, h3⟩ := ins_last hp
    have hr : isRec r = true := isDs_rec h (by simp)
    have hlen := isDs_len h
    simp only [List.length_append, List.length_cons] at hlen
    have hpd : isDs p = true := isDs_mk (by omega) (fun x hx => isDs_rec h (List.mem_append_left _ hx)) (List.pairwise_append.1 hs).1
    obtain ⟨hlt, e⟩ := List.getElem?_eq_some_iff.1 hd
    have hdo : doData data (3, (i : Int), r.1, r.2) = (data.set i (p ++ [r]), ([], []), 0) := by
      unfold doData
      rw [if_pos ⟨(isOp_write hi hr).1, by simp only; omega⟩]
      simp only [Int.toNat_natCast]
      rw [hd, Option.getD_some, apply_writeF hpd i hi hr h2 (by omega), h3]
      rfl
    simp only [List.map_cons, runAll, hdo, if_true]
    rw [run_writes l (p ++ [r]) (data.set i (p ++ [r])) i hi (by rw [List.getElem?_set, if_pos rfl, if_pos hlt]) (by simpa using h)]
    simp
theorem run_snapAt : ∀ (r pre : List Ds), (∀ d ∈ r, isDs d = true) → pre.length + r.length ≤ 8 → runAll (pre ++ empties r.length) (snap pre.length r) = some (pre ++ r)
  | [], pre, _, _ => by simp [snap, runAll, empties]
  | d :: r, pre, h, hl => by
    simp only [List.length_cons] at hl
    rw [snap, runAll_append]
    have h1 := run_writes d [] (pre ++ empties (r.length + 1)) pre.length (by omega) (by
      rw [List.getElem?_append_right (Nat.le_refl _), Nat.sub_self]; rfl) (by simpa using h d (List.mem_cons_self ..))
    rw [List.length_cons, h1, Option.bind_some, List.nil_append]
    have e : (pre ++ empties (r.length + 1)).set pre.length d = (pre ++ [d]) ++ empties r.length := by
      rw [List.set_append_right _ _ (Nat.le_refl _), Nat.sub_self]
      simp [empties, List.replicate_succ]
    rw [e]
    have := run_snapAt r (pre ++ [d]) (fun x hx => h x (List.mem_cons_of_mem _ hx)) (by simp; omega)
    simp only [List.length_append, List.length_cons, List.length_nil] at this
    rw [this]
    simp
theorem run_snap {data : List Ds} (h : AllDs data) (hl : data.length ≤ 8) : runAll (empties data.length) (snap 0 data) = some data := by
  have := run_snapAt data [] h (by simpa using hl)
  simpa using this
theorem snap_chg : ∀ (r : List Ds) (i : Nat), (∀ d ∈ r, isDs d = true) → i + r.length ≤ 8 → ∀ o ∈ snap i r, chg o = true
  | [], _, _, _, o, ho => by cases ho
  | d :: r, i, h, hl, o, ho => by
    simp only [List.length_cons] at hl
    rw [snap] at ho
    rcases List.mem_append.1 ho with ho | ho
    · obtain ⟨x, hx, rfl⟩ := List.mem_map.1 ho
      exact (isOp_write (by omega) (isDs_rec (h d (List.mem_cons_self ..)) hx)).2
    · exact snap_chg r (i + 1) (fun x hx => h x (List.mem_cons_of_mem _ hx)) (by omega) o ho
end Go.Proofs.YtifcgimpgbeocaaGreat
/- Plain: contents of logs, crashes: what Open finds behind them. -/
set_option linter.unusedVariables false
set_option linter.unusedSimpArgs false
namespace Go.Proofs.YtifcgimpgbeocaaGreat
open Go.RowKit
/-! ### Bytes of logs -/
theorem flat64 (f : Nat → Bs) (hf : ∀ p, (f p).length = 64) : ∀ (m j : Nat), ((List.range m).flatMap f)[j]? = if j < m * 64 then (f (j / 64))[j % 64]? else none
  | 0, j => by simp
  | m + 1, j => by
    have hl : ∀ m, ((List.range m).flatMap f).length = m * 64 := by
      intro m
      induction m with
      | zero => rfl
      | succ m ih => rw [List.range_succ, List.flatMap_append, List.length_append, ih]; simp [hf]; omega
    rw [List.range_succ, List.flatMap_append]
    by_cases h : j < m * 64
    · rw [List.getElem?_append_left (by rw [hl]; exact h), flat64 f hf m j, if_pos h, if_pos (by omega)]
    · rw [List.getElem?_append_right (by rw [hl]; omega), hl]
      simp only [List.flatMap_cons, List.flatMap_nil, List.append_nil]
      by_cases h2 : j < (m + 1) * 64
      · rw [if_pos h2, show j / 64 = m by omega, show j - m * 64 = j % 64 by omega]
      · rw [if_neg h2, List.getElem?_eq_none (by rw [hf]; omega)]
theorem flat64_len (f : Nat → Bs) (hf : ∀ p, (f p).length = 64) (m : Nat) : ((List.range m).flatMap f).length = m * 64 := by
  induction m with
  | zero => rfl
  | succ m ih => rw [List.range_succ, List.flatMap_append, List.length_append, ih]; simp [hf]; omega
/-- The pages of a log lie on the disk. -/
theorem first_lt {n lg p : Nat} (hn : 4 ≤ n) (hlg : lg ≤ 1) (hp : p < halfN n) : 2 ≤ firstPg n lg + p ∧ firstPg n lg + p < n := by
  unfold firstPg halfN at *
  have : lg = 0 ∨ lg = 1 := by omega
  rcases this with rfl | rfl <;> omega
/-- A page, zeros where there is none. -/
def pgZ (d : Dk) (n : Nat) : Bs := if n < d.1.length then wrt d n else zs 64
theorem pgZ_len {d : Dk} (h : isDk d = true) (n : Nat) : (pgZ d n).length = 64 := by
  unfold pgZ
  split
  · rename_i hn; exact wrt_len h hn
  · exact zs_len 64
theorem content_pgZ {d : Dk} (h : isDk d = true) {lg len : Nat} (hlg : lg ≤ 1) (hlen : len ≤ 64 * halfN d.1.length) :
    content d lg len = ((List.range (pgs len)).flatMap (fun p => pgZ d (firstPg d.1.length lg + p))).take len := by
  unfold content logPages
  congr 1
  have hd := isDk_len h
  have e : ∀ m, m ≤ pgs len → (List.range m).flatMap (fun p => wrt d (firstPg d.1.length lg + p)) = (List.range m).flatMap (fun p => pgZ d (firstPg d.1.length lg + p)) := by
    intro m
    induction m with
    | zero => intro _; rfl
    | succ m ih =>
      intro hm
      rw [List.range_succ, List.flatMap_append, List.flatMap_append, ih (by omega)]
      congr 1
      have hp : m < halfN d.1.length := by unfold pgs at hm; omega
      have := first_lt hd.1 hlg hp
      simp only [List.flatMap_cons, List.flatMap_nil, List.append_nil]
      unfold pgZ
      rw [if_pos this.2]
  exact e _ (Nat.le_refl _)
theorem content_len {d : Dk} (h : isDk d = true) {lg len : Nat} (hlg : lg ≤ 1) (hlen : len ≤ 64 * halfN d.1.length) : (content d lg len).length = len := by
  rw [content_pgZ h hlg hlen, List.length_take, flat64_len _ (fun p => pgZ_len h _)]
  unfold pgs
  omega
theorem content_get {d : Dk} (h : isDk d = true) {lg len : Nat} (hlg : lg ≤ 1) (hlen : len ≤ 64 * halfN d.1.length) {j : Nat} (hj : j < len) :
    (content d lg len)[j]? = (wrt d (firstPg d.1.length lg + j / 64))[j % 64]? := by
  have hd := isDk_len h
  have := first_lt hd.1 hlg (p := j / 64) (by omega)
  rw [content_pgZ h hlg hlen, List.getElem?_take_of_lt hj, flat64 _ (fun p => pgZ_len h _), if_pos (by unfold pgs; omega)]
  unfold pgZ
  rw [if_pos this.2]
/-- A log is what is said byte by byte. -/
theorem content_eq {d : Dk} (h : isDk d = true) {lg : Nat} {s : Bs} (hlg : lg ≤ 1) (hlen : s.length ≤ 64 * halfN d.1.length) (hb : ∀ j, j < s.length → (wrt d (firstPg d.1.length lg + j / 64))[j % 64]? = s[j]?) : content d lg s.length = s := by
  refine List.ext_getElem? fun j => ?_
  by_cases hj : j < s.length
  · rw [content_get h hlg hlen hj, hb j hj]
  · rw [List.getElem?_eq_none (by rw [content_len h hlg hlen]; omega), List.getElem?_eq_none (by omega)]
/-! ### The pages that a commit writes -/
theorem pad_len (s : Bs) : (pad s).length = pgs s.length * 64 := by
  unfold pad
  rw [List.length_append, zs_len]
  unfold pgs
  omega
theorem pageOf_len {s : Bs} {p : Nat} (hp : p < pgs s.length) : (pageOf s p).length = 64 := by
  unfold pageOf
  rw [List.length_take, List.length_drop, pad_len]
  omega
theorem pageOf_get {s : Bs} {p i : Nat} (hi : i < 64) (h : p * 64 + i < s.length) : (pageOf s p)[i]? = s[p * 64 + i]? := by
  unfold pageOf
  rw [List.getElem?_take_of_lt hi, List.getElem?_drop]
  unfold pad
  rw [List.getElem?_append_left h]
theorem layW_len (n lg fr : Nat) (s : Bs) : (layW n lg fr s).length = pgs s.length - fr / 64 := by unfold layW; simp
theorem layW_get {n lg fr : Nat} {s : Bs} {k : Nat} {w : Wt} (h : (layW n lg fr s)[k]? = some w) : k < pgs s.length - fr / 64 ∧ w = (((firstPg n lg + (fr / 64 + k) : Nat) : Int), pageOf s (fr / 64 + k)) := by
  have hlt : k < pgs s.length - fr / 64 := by have := (List.getElem?_eq_some_iff.1 h).1; rw [layW_len] at this; exact this
  refine ⟨hlt, ?_⟩
  unfold layW at h
  rw [List.getElem?_map, List.getElem?_range hlt] at h
  exact (Option.some.inj h).symm
theorem layW_at {n lg fr : Nat} {s : Bs} {k : Nat} (h : k < pgs s.length - fr / 64) : (layW n lg fr s)[k]? = some (((firstPg n lg + (fr / 64 + k) : Nat) : Int), pageOf s (fr / 64 + k)) := by
  unfold layW
  rw [List.getElem?_map, List.getElem?_range h]
  rfl
/-! ### Bytes behind writes -/
theorem byteTo_same {b : UInt8} {ws : List Wt} {cuts : List Int} {n i : Nat} : ∀ k, (∀ (m : Nat) (w : Wt), m < k → ws[m]? = some w → w.1 = (n : Int) → (w.2[i]?).getD 0 = b) → byteTo b ws cuts n i k = b
  | 0, _ => rfl
  | k + 1, h => by
    have ih := byteTo_same (cuts := cuts) k fun m w hm => h m w (by omega)
    unfold byteTo
    split
    · rename_i w hk
      split
      · rename_i hc
        exact h k w (by omega) hk hc.1
      · exact ih
    · exact ih
theorem byteTo_hit {b v : UInt8} {ws : List Wt} {n i M : Nat} (hi : i < 64) (hM : ws.length ≤ M) : ∀ k, (∀ (m : Nat) (w : Wt), m < k → ws[m]? = some w → w.1 = (n : Int) → (w.2[i]?).getD 0 = v) → (∃ (m : Nat) (w : Wt), m < k ∧ ws[m]? = some w ∧ w.1 = (n : Int)) →
    byteTo b ws (List.replicate M 64) n i k = v
  | 0, _, ⟨m, w, hm, _⟩ => by omega
  | k + 1, h, hex => by
    have ih := byteTo_hit (b := b) hi hM k fun m w hm => h m w (by omega)
    unfold byteTo
    split
    · rename_i w hk
      have hkl : k < ws.length := (List.getElem?_eq_some_iff.1 hk).1
      have hcut : cutAt (List.replicate M 64) k = 64 := by rw [cutAt_rep, if_pos (by omega)]
      rw [hcut]
      by_cases hn : w.1 = (n : Int)
      · rw [if_pos ⟨hn, hi⟩]
        exact h k w (by omega) hk hn
      · rw [if_neg (fun hc => hn hc.1)]
        refine ih ?_
        obtain ⟨m, u, hm, hu, hun⟩ := hex
        refine ⟨m, u, ?_, hu, hun⟩
        rcases Nat.lt_or_ge m k with h1 | h1
        · exact h1
        · have : m = k := by omega
          subst this
          rw [hk] at hu
          cases hu
          exact absurd hun hn
    · rename_i hk
      refine ih ?_
      obtain ⟨m, u, hm, hu, hun⟩ := hex
      refine ⟨m, u, ?_, hu, hun⟩
      rcases Nat.lt_or_ge m k with h1 | h1
      · exact h1
      · have : m = k := by omega
        subst this
        rw [hk] at hu
        cases hu
/-- A page that no write is for stays. -/
theorem crashTo_other (pages : List Bs) (ws : List Wt) (cuts : List Int) (n : Nat) : ∀ k, (∀ (m : Nat) (w : Wt), m < k → ws[m]? = some w → 0 ≤ w.1 ∧ w.1 ≠ (n : Int)) → (crashTo pages ws cuts k)[n]? = pages[n]?
  | 0, _ => rfl
  | k + 1, h => by
    have ih := crashTo_other pages ws cuts n k fun m w hm => h m w (by omega)
    unfold crashTo
    split
    · rename_i w hk
      obtain ⟨h0, h1⟩ := h k w (by omega) hk
      unfold tear
      rw [List.getElem?_set, if_neg (by omega), ih]
    · exact ih
theorem foldl_writes : ∀ (ws : List Wt) (d : Dk), (ws.map (fun w => ((false, w) : Ac))).foldl actDk d = (d.1, d.2 ++ ws)
  | [], d => by simp
  | w :: ws, d => by
    rw [List.map_cons, List.foldl_cons, foldl_writes ws]
    unfold actDk
    simp
end Go.Proofs.YtifcgimpgbeocaaGreat
/- Plain: a store that lives: what Open finds at every crash. -/
set_option linter.unusedVariables false
set_option linter.unusedSimpArgs false
namespace Go.Proofs.YtifcgimpgbeocaaGreat
open Go.RowKit
/-- On the disk lies a store with this head, this log and these datasets. -/
structure OpenAs (e : Dk) (h : Hd) (L : Bs) (data : List Ds) : Prop where
  dk : isDk e = true
  nw : e.2 = []
  hd : hdOk h (h.1 % 2) (halfN e.1.length) = true
  turn : h.1 + 1 < 4294967296
  pg : e.1[h.1 % 2]? = some (headPg h)
  other : ∃ q, e.1[(h.1 + 1) % 2]? = some q ∧ Torn h.1 q
  loglen : L.length = h.2.2.2
  cont : content e h.2.1 h.2.2.2 = L
  dec : ∃ ops0, decL L = some ops0 ∧ runAll (empties h.2.2.1) ops0 = some data
structure Live (st : St) : Prop where
  as_ : OpenAs st.dk st.hd st.log st.kept
  run : runAll st.kept st.ops = some st.now
  chg : ∀ o ∈ st.ops, chg o = true
theorem hdOk_parts {h : Hd} {p half : Nat} (ho : hdOk h p half = true) : 1 ≤ h.1 ∧ h.1 % 2 = p ∧ h.2.1 ≤ 1 ∧ 1 ≤ h.2.2.1 ∧ h.2.2.1 ≤ 8 ∧ h.2.2.2 ≤ 64 * half := by
  unfold hdOk at ho
  rwa [decide_eq_true_eq] at ho
theorem hdOk_mk {h : Hd} {p half : Nat} (ho : 1 ≤ h.1 ∧ h.1 % 2 = p ∧ h.2.1 ≤ 1 ∧ 1 ≤ h.2.2.1 ∧ h.2.2.1 ≤ 8 ∧ h.2.2.2 ≤ 64 * half) : hdOk h p half = true := by
  unfold hdOk
  rwa [decide_eq_true_eq]
theorem half_bd {n : Nat} (h : n ≤ 4096) : 64 * halfN n ≤ 131008 := by unfold halfN; omega
theorem wrt_nw {e : Dk} (h : e.2 = []) (p : Nat) : wrt e p = (e.1[p]?).getD [] := by unfold wrt; rw [h]; rfl
theorem open_best {e : Dk} {h : Hd} {L : Bs} {data : List Ds} (H : OpenAs e h L data) : bestHd e = some h := by
  obtain ⟨q, hq, ht⟩ := H.other
  obtain ⟨h1, h2, h3, h4, h5, h6⟩ := hdOk_parts H.hd
  have hb := half_bd (isDk_len H.dk).2
  have hturn := H.turn
  have r1 : readHd e (h.1 % 2) = some h := by
    unfold readHd
    rw [wrt_nw H.nw, H.pg, Option.getD_some, headPg_ok (by omega) (by omega) H.hd, if_pos rfl, headOf_pg (by omega) (by omega) (by omega) (by omega)]
  have r2 : readHd e ((h.1 + 1) % 2) = none ∨ ∃ x, readHd e ((h.1 + 1) % 2) = some x ∧ x.1 < h.1 := by
    unfold readHd
    rw [wrt_nw H.nw, hq, Option.getD_some]
    by_cases c : headOk q ((h.1 + 1) % 2) (halfN e.1.length) = true
    · rw [if_pos c]
      have := torn_less h1 hturn ht c
      exact .inr ⟨_, rfl, by omega⟩
    · rw [if_neg c]; exact .inl rfl
  rcases Nat.mod_two_eq_zero_or_one h.1 with c | c
  · have e1 : (h.1 + 1) % 2 = 1 := by omega
    rw [e1] at r2
    rw [c] at r1
    exact (congrArg (fun x => pickHd x (readHd e 1)) r1).trans (pick_left r2)
  · have e1 : (h.1 + 1) % 2 = 0 := by omega
    rw [e1] at r2
    rw [c] at r1
    exact (congrArg (fun x => pickHd (readHd e 0) x) r1).trans (pick_right r2)
theorem open_as {e : Dk} {h : Hd} {L : Bs} {data : List Ds} (H : OpenAs e h L data) : openD e = (some ⟨e, h, L, [], data, data, []⟩, 0) := by
  obtain ⟨ops, h1, h2⟩ := H.dec
  unfold openD
  rw [if_pos H.dk, open_best H]
  simp only
  rw [H.cont, h1]
  simp only
  rw [h2]
theorem live_open {e : Dk} {h : Hd} {L : Bs} {data : List Ds} (H : OpenAs e h L data) : Live ⟨e, h, L, [], data, data, []⟩ := ⟨H, rfl, fun o ho => by cases ho⟩
/-- Another disk with the same head, and the same bytes of the log. -/
theorem OpenAs.move {d e : Dk} {h : Hd} {L : Bs} {data : List Ds} (H : OpenAs d h L data) (he : isDk e = true) (hn : e.2 = []) (hl : e.1.length = d.1.length) (hp : e.1[h.1 % 2]? = d.1[h.1 % 2]?) (ho : ∃ q, e.1[(h.1 + 1) % 2]? = some q ∧ Torn h.1 q)
    (hb : ∀ j, j < L.length → (((e.1[firstPg d.1.length h.2.1 + j / 64]?).getD [])[j % 64]?) = L[j]?) : OpenAs e h L data := by
  obtain ⟨-, -, h3, -, -, h6⟩ := hdOk_parts H.hd
  refine ⟨he, hn, by rw [hl]; exact H.hd, H.turn, by rw [hp]; exact H.pg, ho, H.loglen, ?_, H.dec⟩
  rw [← H.loglen]
  refine content_eq he h3 (by rw [hl, H.loglen]; exact h6) fun j hj => ?_
  rw [wrt_nw hn, hl]
  exact hb j hj
theorem OpenAs.byte {d : Dk} {h : Hd} {L : Bs} {data : List Ds} (H : OpenAs d h L data) {j : Nat} (hj : j < L.length) : ((d.1[firstPg d.1.length h.2.1 + j / 64]?).getD [])[j % 64]? = L[j]? := by
  obtain ⟨-, -, h3, -, -, h6⟩ := hdOk_parts H.hd
  have hj' : j < h.2.2.2 := by rw [← H.loglen]; exact hj
  have := content_get H.dk h3 h6 hj'
  rw [H.cont, wrt_nw H.nw] at this
  exact this.symm
/-! ### A commit, act by act -/
section
variable {st : St}
theorem nLog_le (h : Live st) : nLog st ≤ 1 := by
  have := hdOk_parts h.as_.hd
  unfold nLog
  split <;> omega
theorem nW_ok (h : Live st) (hr : (nBytes st).length ≤ room st) {w : Wt} (hw : w ∈ nW st) : 2 ≤ w.1 ∧ w.1 < (st.dk.1.length : Int) ∧ w.2.length = 64 := by
  obtain ⟨k, hk⟩ := List.getElem?_of_mem hw
  unfold nW at hk
  obtain ⟨h1, rfl⟩ := layW_get hk
  have hd := isDk_len h.as_.dk
  unfold room at hr
  have hp : nFrom st / 64 + k < halfN st.dk.1.length := by unfold pgs at h1; omega
  obtain ⟨f1, f2⟩ := first_lt hd.1 (nLog_le h) hp
  refine ⟨by simp only; omega, by simp only; omega, pageOf_len (by omega)⟩
theorem nPages (h : Live st) : (∀ s ∈ st.dk.1, s.length = 64) := fun s hs => by obtain ⟨i, hi⟩ := List.getElem?_of_mem hs; exact isDk_page h.as_.dk hi
theorem nDk (h : Live st) (hr : (nBytes st).length ≤ room st) (k : Nat) : isDk (st.dk.1, (nW st).take k) = true := by
  have hd := isDk_len h.as_.dk
  refine isDk_mk hd.1 hd.2 (nPages h) fun w hw => ?_
  obtain ⟨a, b, c⟩ := nW_ok h hr (List.mem_of_mem_take hw)
  exact ⟨by omega, b, c⟩
/-- Writes to a page of the log in use say what stands there. -/
theorem nW_old (h : Live st) (hr : (nBytes st).length ≤ room st) {j m : Nat} {w : Wt} (hj : j < st.log.length) (hw : (nW st)[m]? = some w) (he : w.1 = ((firstPg st.dk.1.length st.hd.2.1 + j / 64 : Nat) : Int)) : (w.2[j % 64]?).getD 0 = (st.log[j]?).getD 0 := by
  unfold nW at hw
  obtain ⟨h1, rfl⟩ := layW_get hw
  obtain ⟨-, -, g3, -, -, g6⟩ := hdOk_parts h.as_.hd
  have hll := h.as_.loglen
  simp only at he
  unfold room at hr
  cases hf : full1 st with
  | true =>
    have e1 : nLog st = 1 - st.hd.2.1 := by unfold nLog; rw [hf]; rfl
    have e2 : nFrom st = 0 := by unfold nFrom; rw [hf]; rfl
    rw [e1, e2] at he
    rw [e2] at h1
    exfalso
    have k1 : m < halfN st.dk.1.length := by unfold pgs at h1; omega
    have k2 : j / 64 < halfN st.dk.1.length := by omega
    unfold firstPg at he
    have : st.hd.2.1 = 0 ∨ st.hd.2.1 = 1 := by omega
    rcases this with c | c <;> rw [c] at he <;> simp at he <;> omega
  | false =>
    have e1 : nLog st = st.hd.2.1 := by unfold nLog; rw [hf]; rfl
    have e2 : nFrom st = st.log.length := by unfold nFrom; rw [hf]; rfl
    have e3 : nBytes st = st.log ++ encL st.ops := by unfold nBytes; rw [hf]; rfl
    rw [e1, e2] at he
    rw [e2]
    have e : st.log.length / 64 + m = j / 64 := by omega
    simp only
    rw [e, e3, pageOf_get (by omega) (by rw [List.length_append]; omega), show j / 64 * 64 + j % 64 = j by omega, List.getElem?_append_left hj]
/-- The pages of the heads are not written with the log. -/
theorem nW_heads (h : Live st) (hr : (nBytes st).length ≤ room st) (k n : Nat) (hn : n < 2) (cuts : List Int) (c : Nat) : (crashTo st.dk.1 ((nW st).take k) cuts c)[n]? = st.dk.1[n]? :=
  crashTo_other _ _ _ _ _ fun m w _ hw => by
    obtain ⟨a, b, c⟩ := nW_ok h hr (List.mem_of_mem_take (List.mem_of_getElem? hw))
    omega
/-- The power fails while the log is written. -/
theorem phase_log (h : Live st) (hr : (nBytes st).length ≤ room st) (k : Nat) (cuts : List Int) : OpenAs (crashDk (st.dk.1, (nW st).take k) cuts) st.hd st.log st.kept := by
  have hd := isDk_len h.as_.dk
  obtain ⟨g1, g2, g3, -, -, g6⟩ := hdOk_parts h.as_.hd
  refine h.as_.move (crash_isDk (nDk h hr k) cuts) rfl ?_ ?_ ?_ fun j hj => ?_
  · unfold crashDk; simp only [crashTo_len]
  · unfold crashDk; exact nW_heads h hr k _ (by omega) cuts _
  · obtain ⟨q, hq, ht⟩ := h.as_.other
    refine ⟨q, ?_, ht⟩
    unfold crashDk
    rw [nW_heads h hr k _ (by omega) cuts _]
    exact hq
  · have hll := h.as_.loglen
    have hpl := first_lt hd.1 g3 (p := j / 64) (by omega)
    have hb := h.as_.byte hj
    have hlj : st.log[j]? = some (st.log[j]) := List.getElem?_eq_getElem hj
    unfold crashDk
    rw [crashTo_byte st.dk.1 ((nW st).take k) cuts _ _ hpl.2 (by omega) (nPages h) (fun w hw => by
      obtain ⟨a, b, c⟩ := nW_ok h hr (List.mem_of_mem_take hw)
      exact ⟨by omega, c⟩), hb, hlj, Option.getD_some, byteTo_same]
    intro m w hm hw he
    have hw' : (nW st)[m]? = some w := by
      rw [List.getElem?_take] at hw
      split at hw
      · exact hw
      · cases hw
    rw [nW_old h hr hj hw' he, hlj]
    rfl
/-- The disk behind the first sync. -/
def mid (st : St) : Dk := actDk (st.dk.1, (nW st)) syncA
theorem mid_eq (st : St) : mid st = crashDk (st.dk.1, (nW st).take (nW st).length) (List.replicate (nW st).length 64) := by
  unfold mid actDk syncA
  rw [if_pos rfl, List.take_length]
theorem mid_len (st : St) : (mid st).1.length = st.dk.1.length := by rw [mid_eq]; unfold crashDk; simp only [crashTo_len]
theorem phase_mid (h : Live st) (hr : (nBytes st).length ≤ room st) : OpenAs (mid st) st.hd st.log st.kept := by
  rw [mid_eq]; exact phase_log h hr _ _
/-- The new log lies on the disk behind the first sync. -/
theorem mid_byte (h : Live st) (hr : (nBytes st).length ≤ room st) {j : Nat} (hj : j < (nBytes st).length) : (((mid st).1[firstPg st.dk.1.length (nLog st) + j / 64]?).getD [])[j % 64]? = (nBytes st)[j]? := by
  have hd := isDk_len h.as_.dk
  obtain ⟨g1, g2, g3, -, -, g6⟩ := hdOk_parts h.as_.hd
  have hll := h.as_.loglen
  have hr' := hr
  unfold room at hr'
  have hpl := first_lt hd.1 (nLog_le h) (p := j / 64) (by omega)
  have hbj : (nBytes st)[j]? = some ((nBytes st)[j]) := List.getElem?_eq_getElem hj
  rw [mid_eq]
  unfold crashDk
  rw [crashTo_byte st.dk.1 _ _ _ _ hpl.2 (by omega) (nPages h) (fun w hw => by
      obtain ⟨a, b, c⟩ := nW_ok h hr (List.mem_of_mem_take hw)
      exact ⟨by omega, c⟩), hbj]
  congr 1
  simp only [List.take_length]
  have same : ∀ (m : Nat) (w : Wt), (nW st)[m]? = some w → w.1 = ((firstPg st.dk.1.length (nLog st) + j / 64 : Nat) : Int) → (w.2[j % 64]?).getD 0 = (nBytes st)[j] := by
    intro m w hw he
    unfold nW at hw
    obtain ⟨h1, rfl⟩ := layW_get hw
    simp only at he ⊢
    have e : nFrom st / 64 + m = j / 64 := by omega
    rw [e, pageOf_get (by omega) (by omega), show j / 64 * 64 + j % 64 = j by omega, hbj]
    rfl
  by_cases hc : nFrom st / 64 ≤ j / 64
  · refine byteTo_hit (by omega) (by simp) _ (fun m w _ => same m w) ?_
    have hk : j / 64 - nFrom st / 64 < pgs (nBytes st).length - nFrom st / 64 := by unfold pgs; omega
    refine ⟨j / 64 - nFrom st / 64, _, ?_, layW_at hk, ?_⟩
    · unfold nW; rw [layW_len]; exact hk
    · simp only; omega
  · have hf : full1 st = false := by
      cases e : full1 st with
      | false => rfl
      | true => unfold nFrom at hc; rw [e] at hc; simp at hc
    have hfrom : nFrom st = st.log.length := by unfold nFrom; rw [hf]; rfl
    have hlog : nLog st = st.hd.2.1 := by unfold nLog; rw [hf]; rfl
    have hjl : j < st.log.length := by omega
    have hb := h.as_.byte hjl
    have hnb : (nBytes st)[j]? = st.log[j]? := by unfold nBytes; rw [hf]; simp only [Bool.false_eq_true, if_false]; rw [List.getElem?_append_left hjl]
    rw [hlog, hb, ← hnb, hbj, Option.getD_some]
    rw [hlog] at same
    exact byteTo_same _ fun m w _ => same m w
theorem kept_len (h : Live st) : st.kept.length = st.hd.2.2.1 := by
  obtain ⟨ops0, h1, h2⟩ := h.as_.dec
  have := runAll_len h2
  unfold empties at this
  rwa [List.length_replicate] at this
theorem now_len (h : Live st) : st.now.length = st.hd.2.2.1 := by rw [runAll_len h.run, kept_len h]
theorem kept_all (h : Live st) : AllDs st.kept := by
  obtain ⟨ops0, h1, h2⟩ := h.as_.dec
  exact runAll_all (empties_all _) h2
theorem now_all (h : Live st) : AllDs st.now := runAll_all (kept_all h) h.run
/-- The new log makes the datasets as they are. -/
theorem nBytes_dec (h : Live st) : ∃ ops0, decL (nBytes st) = some ops0 ∧ runAll (empties st.hd.2.2.1) ops0 = some st.now := by
  obtain ⟨g1, g2, g3, g4, g5, g6⟩ := hdOk_parts h.as_.hd
  have hn := now_len h
  unfold nBytes
  cases hf : full1 st with
  | true =>
    simp only [if_true]
    refine ⟨snap 0 st.now, decL_enc (snap_chg st.now 0 (now_all h) (by omega)), ?_⟩
    rw [← hn]
    exact run_snap (now_all h) (by omega)
  | false =>
    simp only [Bool.false_eq_true, if_false]
    obtain ⟨ops0, h1, h2⟩ := h.as_.dec
    obtain ⟨e1, e2⟩ := enc_decL _ _ _ (Nat.le_refl _) h1
    refine ⟨ops0 ++ st.ops, ?_, ?_⟩
    · rw [← e1, ← encL_append]
      refine decL_enc fun o ho => ?_
      rcases List.mem_append.1 ho with ho | ho
      · exact e2 o ho
      · exact h.chg o ho
    · rw [runAll_append, h2, Option.bind_some]
      exact h.run
/-- The head is written whole. -/
theorem phase_new (h : Live st) (hr : (nBytes st).length ≤ room st) (ht : st.hd.1 + 2 < 4294967296) : OpenAs ((mid st).1.set ((st.hd.1 + 1) % 2) (headPg (nHd st)), []) (nHd st) (nBytes st) st.now := by
  have hd := isDk_len h.as_.dk
  have hm := phase_mid h hr
  obtain ⟨g1, g2, g3, g4, g5, g6⟩ := hdOk_parts h.as_.hd
  have hml := mid_len st
  have hr' := hr
  unfold room at hr'
  have hdk : isDk ((mid st).1.set ((st.hd.1 + 1) % 2) (headPg (nHd st)), []) = true := by
    refine isDk_mk (by simp only [List.length_set]; omega) (by simp only [List.length_set]; omega) (fun s hs => ?_) (fun w hw => by cases hw)
    rcases List.mem_or_eq_of_mem_set hs with hs | rfl
    · obtain ⟨i, hi⟩ := List.getElem?_of_mem hs
      exact isDk_page hm.dk hi
    · exact headPg_len _
  refine ⟨hdk, rfl, ?_, by unfold nHd; simp only; omega, ?_, ?_, rfl, ?_, ?_⟩
  · refine hdOk_mk ⟨by unfold nHd; simp only; omega, rfl, nLog_le h, g4, g5, ?_⟩
    unfold nHd; simp only [List.length_set]; rw [hml]; exact hr'
  · show ((mid st).1.set ((st.hd.1 + 1) % 2) (headPg (nHd st)))[(st.hd.1 + 1) % 2]? = _
    rw [List.getElem?_set, if_pos rfl, if_pos (by omega)]
  · refine ⟨headPg st.hd, ?_, torn_head⟩
    show ((mid st).1.set ((st.hd.1 + 1) % 2) (headPg (nHd st)))[(st.hd.1 + 1 + 1) % 2]? = _
    rw [List.getElem?_set, if_neg (by omega), show (st.hd.1 + 1 + 1) % 2 = st.hd.1 % 2 by omega]
    exact hm.pg
  · show content _ (nLog st) (nBytes st).length = _
    refine content_eq hdk (nLog_le h) (by simp only [List.length_set]; rw [hml]; exact hr') fun j hj => ?_
    have hpl := first_lt hd.1 (nLog_le h) (p := j / 64) (by omega)
    rw [wrt_nw rfl]
    simp only [List.length_set]
    rw [hml, List.getElem?_set, if_neg (by omega)]
    exact mid_byte h hr hj
  · exact nBytes_dec h
end
end Go.Proofs.YtifcgimpgbeocaaGreat
