import Derived.Test.YtnmcclkpgbdenaaProg
import Derived.Test.YtnmcclkpgbdenaaSet0
import Derived.Outline
import Derived.Deep.QuietTactic
import Derived.BigQuiet
/- []byte in this translation: append, string(b), the comparison of two; what a call gives back. -/
namespace Go.Proofs.Ytnmcclkpgbdenaa.Mem
open Go.RowKit

theorem u8_info : (Try.prog.info? 5).map (fun i => (i.zero, i.size, i.bytes)) = some (some (.int .u8 0), 1, 1) := by kernel_rfl
/-- a call gives bytes of its own, and turns nothing that was there -/
def Gives (w : World) (l : List Nat) (en : Ending) (w' : World) : Prop :=
  ∃ A c, en = .returned (.slice A l.length c) ∧ Own w' w.heap.size 5 (.slice A l.length c) (BB l) ∧ l.length ≤ c ∧ Below w.heap.size w w'
theorem wpl_app {w : World} {ops : Array Oper} {rest : List Oper} {o : Oper} {a : Act} {Q : Exit → Act → World → Prop} (hgd : o.guard = none) (s x : Operand)
    (ho : o.op = .call { callee := .builtin .append, args := #[s, x], argTypes := #[165, 165] })
    (base : Nat) (v : Value) (l : List Nat) (hs : a.eval s = v) (hown : Own w base 5 v (BB l))
    (B : Nat) (A : Option Addr) (m c : Nat) (news : List Nat) (hx : a.eval x = .slice A m c) (hm : m = news.length) (hr : Rd w B A (BB news))
    (hsz : l.length + news.length ≤ 140737488355328) (hbase : base ≤ w.heap.size)
    (h : ∀ A' c' w' r, Hid (r = l ++ news) → Own w' base 5 (.slice A' r.length c') (BB r) → w.grownBy w' v.ownBlock → Below base w w' → wpList Try.prog ops Q rest (a.put o.dst (.slice A' r.length c')) w') : wpList Try.prog ops Q (o :: rest) a w := by
  obtain ⟨i0, hi0, hz0, hz1, hz2⟩ := info_parts u8_info
  refine wpl_append_rd w hgd s x 165 ho base 5 i0 _ 1 Try.underlying165 hi0 hz0 hz1 hz2 rfl v (BB l) hs hown B A m c (BB news) hx (by rw [BB_length, hm]) hr (BB_one _) (by rw [BB_length, hm]; omega) (Nat.le_refl _) hbase ?_
  intro A' c' w' h1 h2 h3
  rw [BB_length, hm, ← BB_append] at h1
  rw [BB_length, hm]
  have := h A' c' w' (l ++ news) rfl (by rw [List.length_append]; exact h1) h2 h3
  rw [List.length_append] at this
  exact this
/-- the same inside a region that draws its order -/
theorem step_app {w : World} {ops : Array Oper} {o : Oper} {a : Act} {K : Act → World → Prop} {Q : Exit → Act → World → Prop} {E : Prop} (hgd : o.guard = none) (s x : Operand)
    (ho : o.op = .call { callee := .builtin .append, args := #[s, x], argTypes := #[165, 165] })
    (base : Nat) (v : Value) (l : List Nat) (hs : a.eval s = v) (hown : Own w base 5 v (BB l))
    (B : Nat) (A : Option Addr) (m c : Nat) (news : List Nat) (hx : a.eval x = .slice A m c) (hm : m = news.length) (hr : Rd w B A (BB news))
    (hsz : l.length + news.length ≤ 140737488355328) (hbase : base ≤ w.heap.size)
    (h : ∀ A' c' w' r, Hid (r = l ++ news) → Own w' base 5 (.slice A' r.length c') (BB r) → w.grownBy w' v.ownBlock → Below base w w' → K (a.put o.dst (.slice A' r.length c')) w') :
    if Region.wanted o (yielded ops a.tmps) = true then Oper.wp Try.prog o a w K Q else E := by
  have hw : Region.wanted o (yielded ops a.tmps) = true := by simp [Region.wanted, hgd]
  rw [if_pos hw]
  obtain ⟨i0, hi0, hz0, hz1, hz2⟩ := info_parts u8_info
  refine wp_append_rd w s x 165 ho base 5 i0 _ 1 Try.underlying165 hi0 hz0 hz1 hz2 rfl v (BB l) hs hown B A m c (BB news) hx (by rw [BB_length, hm]) hr (BB_one _) (by rw [BB_length, hm]; omega) (Nat.le_refl _) hbase ?_
  intro A' c' w' h1 h2 h3
  rw [BB_length, hm, ← BB_append] at h1
  rw [BB_length, hm]
  have := h A' c' w' (l ++ news) rfl (by rw [List.length_append]; exact h1) h2 h3
  rw [List.length_append] at this
  exact this
/-- the one cell of 'append(s, x)' -/
theorem rd_one (w : World) (x : Nat) : Rd (w.alloc (.cells #[.int .u8 (x : Int)] 5)) (w.heap.size + 1) (some ⟨w.heap.size, 0, none⟩) (BB [x]) := Rd.new w [.int .u8 (x : Int)] 5
theorem run_str (w : World) (B : Nat) (A : Option Addr) (n c : Nat) (l : List Nat) (hn : n = l.length) (h : Rd w B A (BB l)) :
    (convert 165 9 (.slice A n c)).run Try.prog w = .ok (.string (strB l)) w :=
  run_string w _ _ 5 B A n c l Try.underlying165 Try.underlying5 Try.underlying9 hn h
theorem str_eq {a b : List Nat} (ha : AllB a) (hb : AllB b) : ((strB a).toList == (strB b).toList) = decide (a = b) := by
  rw [ByteArray.toList_eq, ByteArray.toList_eq]
  by_cases h : a = b
  · subst h; simp
  · have : (strB a).data.toList ≠ (strB b).data.toList := fun e => h (map_inj a b ha hb (by simpa [strB] using e))
    rw [decide_eq_false h]
    exact beq_eq_false_iff_ne.2 this
end Go.Proofs.Ytnmcclkpgbdenaa.Mem

/- Texts of fields, fields' numbers: field.Text, field.Good and the document's. -/
namespace Go.Proofs.Ytnmcclkpgbdenaa.Card
open Go.RowKit Go.Proofs.Ytnmcclkpgbdenaa.Mem

theorem fgood_any (f : Nat) (w : World) : Calls Try.prog 97 #[.int .u8 (f : Int)] w fun e w' => e = .returned (.bool (decide (1 ≤ f ∧ f ≤ 5))) ∧ ∃ q, w' = w.drewN q := by
  by_cases h1 : 1 ≤ f
  · have e1 : ((f : Int) ≥ 1) := by omega
    by_cases h2 : f ≤ 5
    · have e2 : ((f : Int) ≤ 5) := by omega
      rw [decide_eq_true (show 1 ≤ f ∧ f ≤ 5 from ⟨h1, h2⟩)]
      go_enter Try.func97, Try.ntmps97
      go_wp2
      go_ret
      exact ⟨rfl, 0, rfl⟩
    · have e2 : ¬ ((f : Int) ≤ 5) := by omega
      rw [decide_eq_false (show ¬ (1 ≤ f ∧ f ≤ 5) from fun h => h2 h.2)]
      go_enter Try.func97, Try.ntmps97
      go_wp2
      go_ret
      exact ⟨rfl, 0, rfl⟩
  · have e1 : ¬ ((f : Int) ≥ 1) := by omega
    rw [decide_eq_false (show ¬ (1 ≤ f ∧ f ≤ 5) from fun h => h1 h.1)]
    go_enter Try.func97, Try.ntmps97
    go_wp2
    go_ret
    exact ⟨rfl, 0, rfl⟩
theorem rgood_any (f : Nat) (w : World) : Calls Try.prog 70 #[.int .u8 (f : Int)] w fun e w' => e = .returned (.bool (decide (1 ≤ f ∧ f ≤ 5))) ∧ ∃ q, w' = w.drewN q := by
  by_cases h1 : 1 ≤ f
  · have e1 : ((f : Int) ≥ 1) := by omega
    by_cases h2 : f ≤ 5
    · have e2 : ((f : Int) ≤ 5) := by omega
      rw [decide_eq_true (show 1 ≤ f ∧ f ≤ 5 from ⟨h1, h2⟩)]
      go_enter Try.func70, Try.ntmps70
      go_wp2
      go_ret
      exact ⟨rfl, 0, rfl⟩
    · have e2 : ¬ ((f : Int) ≤ 5) := by omega
      rw [decide_eq_false (show ¬ (1 ≤ f ∧ f ≤ 5) from fun h => h2 h.2)]
      go_enter Try.func70, Try.ntmps70
      go_wp2
      go_ret
      exact ⟨rfl, 0, rfl⟩
  · have e1 : ¬ ((f : Int) ≥ 1) := by omega
    rw [decide_eq_false (show ¬ (1 ≤ f ∧ f ≤ 5) from fun h => h1 h.1)]
    go_enter Try.func70, Try.ntmps70
    go_wp2
    go_ret
    exact ⟨rfl, 0, rfl⟩
/-- a byte that may stand in a text -/
def okB (b : UInt8) : Bool := decide (32 ≤ b.toNat ∧ b.toNat ≤ 126)
def textOk (s : ByteArray) : Bool := decide (s.size ≤ 60) && s.data.toList.all okB
def Upto (s : ByteArray) (k : Nat) : Prop := ∀ j b, j < k → s.data[j]? = some b → okB b = true
theorem upto_zero (s : ByteArray) : Upto s 0 := fun _ _ h => absurd h (Nat.not_lt_zero _)
theorem upto_step {s : ByteArray} {k : Nat} (hk : k < s.size) (h : Upto s k) (h1 : 32 ≤ s[k].toNat) (h2 : s[k].toNat ≤ 126) : Upto s (k + 1) := by
  intro j b hj hb
  by_cases e : j = k
  · subst e
    have : s.data[j]? = some s[j] := Array.getElem?_eq_getElem hk
    rw [this] at hb
    cases hb
    exact decide_eq_true ⟨h1, h2⟩
  · exact h j b (by omega) hb
theorem upto_full {s : ByteArray} {k : Nat} (hk : ¬ k < s.size) (h : Upto s k) : s.data.toList.all okB = true := by
  rw [List.all_eq_true]
  intro b hb
  obtain ⟨j, hj⟩ := List.mem_iff_getElem?.1 hb
  rw [Array.getElem?_toList] at hj
  have hlt := (Array.getElem?_eq_some_iff.1 hj).1
  have h4 : s.size = s.data.size := rfl
  exact h j b (by omega) hj
theorem upto_bad {s : ByteArray} {k : Nat} (hk : k < s.size) (h : ¬ (32 ≤ s[k].toNat ∧ s[k].toNat ≤ 126)) : s.data.toList.all okB = false := by
  rw [List.all_eq_false]
  refine ⟨s[k], ?_, ?_⟩
  · have : s.data[k]? = some s[k] := Array.getElem?_eq_getElem hk
    rw [← Array.getElem?_toList] at this
    exact List.mem_of_getElem? this
  · unfold okB
    rw [decide_eq_false h]
    decide
set_option maxHeartbeats 1000000 in
theorem text_any (s : ByteArray) (w : World) : Calls Try.prog 96 #[.string s] w fun e w' => e = .returned (.bool (textOk s)) ∧ ∃ q, w' = w.drewN q := by
  by_cases h60 : s.size ≤ 60
  · have hn : ¬ ((s.size : Int) > 60) := by omega
    have HT : Kept (textOk s = s.data.toList.all okB) := ⟨by unfold textOk; rw [decide_eq_true h60, Bool.true_and]⟩
    go_enter Try.func96, Try.ntmps96
    go_wp2
    go_loopw [9] (fun i wr => ∃ k : Nat, k ≤ s.size ∧ i = .int .i64 (k : Int) ∧ Kept (Upto s k) ∧ ∃ q, wr = w.drewN q) (fun i _ => s.size - (intOf i).toNat)
    case atStart => exact ⟨0, Nat.zero_le _, rfl, ⟨upto_zero s⟩, 0, rfl⟩
    case round =>
      obtain ⟨k, hk, rfl, hall, q, rfl⟩ := hrel
      by_cases hlt : k < s.size
      · have hkn : (k : Int) < (s.size : Int) := by omega
        by_cases h1 : 32 ≤ s[k].toNat
        · by_cases h2 : s[k].toNat ≤ 126
          · have HU : Kept (Upto s (k + 1)) := ⟨upto_step hlt hall.out h1 h2⟩
            have e1 : ¬ ((s[k].toNat : Int) < 32) := by omega
            have e2 : ¬ ((s[k].toNat : Int) > 126) := by omega
            clear h1 h2
            go_wp2
            go_roundw
            case rel => exact ⟨k + 1, by omega, by go_num, HU, q, rfl⟩
            case measure => simp [intOf]; omega
          · have HF : Kept (s.data.toList.all okB = false) := ⟨upto_bad hlt (fun h => h2 h.2)⟩
            have e1 : ¬ ((s[k].toNat : Int) < 32) := by omega
            have e2 : ((s[k].toNat : Int) > 126) := by omega
            clear h1 h2
            go_wp2
            go_ret
            exact ⟨ret_bool (HT.out.trans HF.out).symm, q, rfl⟩
        · have HF : Kept (s.data.toList.all okB = false) := ⟨upto_bad hlt (fun h => h1 h.1)⟩
          have e1 : ((s[k].toNat : Int) < 32) := by omega
          clear h1
          go_wp2
          go_ret
          exact ⟨ret_bool (HT.out.trans HF.out).symm, q, rfl⟩
      · have hkn : ¬ ((k : Int) < (s.size : Int)) := by omega
        have HF : Kept (s.data.toList.all okB = true) := ⟨upto_full hlt hall.out⟩
        go_wp2
        go_ret
        exact ⟨ret_bool (HT.out.trans HF.out).symm, q, rfl⟩
  · have hn : ((s.size : Int) > 60) := by omega
    have HT : Kept (textOk s = false) := ⟨by unfold textOk; rw [decide_eq_false h60, Bool.false_and]⟩
    go_enter Try.func96, Try.ntmps96
    go_wp2
    go_ret
    exact ⟨ret_bool HT.out.symm, 0, rfl⟩
set_option maxHeartbeats 1000000 in
theorem rtext_any (s : ByteArray) (w : World) (hs : s.size ≤ 9223372036854775807) : Calls Try.prog 71 #[.string s] w fun e w' => e = .returned (.bool (textOk s)) ∧ ∃ q, w' = w.drewN q := by
  have HB : Kept (s.data.toList.all okB = false → textOk s = false) := ⟨fun h => by unfold textOk; rw [h, Bool.and_false]⟩
  have HG : Kept (s.data.toList.all okB = true → textOk s = decide (s.size ≤ 60)) := ⟨fun h => by unfold textOk; rw [h, Bool.and_true]⟩
  go_enter Try.func71, Try.ntmps71
  go_wp2
  go_loopw [3] (fun i wr => ∃ k : Nat, k ≤ s.size ∧ i = .int .i64 (k : Int) ∧ Kept (Upto s k) ∧ ∃ q, wr = w.drewN q) (fun i _ => s.size - (intOf i).toNat)
  case atStart => exact ⟨0, Nat.zero_le _, rfl, ⟨upto_zero s⟩, 0, rfl⟩
  case round =>
    obtain ⟨k, hk, rfl, hall, q, rfl⟩ := hrel
    by_cases hlt : k < s.size
    · have hkn : (k : Int) < (s.size : Int) := by omega
      by_cases h1 : 32 ≤ s[k].toNat
      · by_cases h2 : s[k].toNat ≤ 126
        · have HU : Kept (Upto s (k + 1)) := ⟨upto_step hlt hall.out h1 h2⟩
          have e1 : ¬ ((s[k].toNat : Int) < 32) := by omega
          have e2 : ¬ ((s[k].toNat : Int) > 126) := by omega
          clear h1 h2
          go_wp2
          go_roundw
          case rel => exact ⟨k + 1, by omega, by go_num, HU, q, rfl⟩
          case measure => simp [intOf]; omega
        · have HF : Kept (s.data.toList.all okB = false) := ⟨upto_bad hlt (fun h => h2 h.2)⟩
          have e1 : ¬ ((s[k].toNat : Int) < 32) := by omega
          have e2 : ((s[k].toNat : Int) > 126) := by omega
          clear h1 h2
          go_wp2
          go_ret
          exact ⟨ret_bool (HB.out HF.out).symm, q, rfl⟩
      · have HF : Kept (s.data.toList.all okB = false) := ⟨upto_bad hlt (fun h => h1 h.1)⟩
        have e1 : ((s[k].toNat : Int) < 32) := by omega
        clear h1
        go_wp2
        go_ret
        exact ⟨ret_bool (HB.out HF.out).symm, q, rfl⟩
    · have hkn : ¬ ((k : Int) < (s.size : Int)) := by omega
      have HF : Kept (s.data.toList.all okB = true) := ⟨upto_full hlt hall.out⟩
      by_cases h60 : s.size ≤ 60
      · have hn : ((s.size : Int) ≤ 60) := by omega
        have HT : Kept (textOk s = true) := ⟨(HG.out HF.out).trans (decide_eq_true h60)⟩
        clear h60
        go_wp2
        go_ret
        exact ⟨ret_bool HT.out.symm, q, rfl⟩
      · have hn : ¬ ((s.size : Int) ≤ 60) := by omega
        have HT : Kept (textOk s = false) := ⟨(HG.out HF.out).trans (decide_eq_false h60)⟩
        clear h60
        go_wp2
        go_ret
        exact ⟨ret_bool HT.out.symm, q, rfl⟩
end Go.Proofs.Ytnmcclkpgbdenaa.Card
