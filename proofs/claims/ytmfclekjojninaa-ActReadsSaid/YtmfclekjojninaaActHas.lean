/- Layer 37 (act): which field is named with a kind; the walks of act.has, act.machine and of the document's Has. -/
import Derived.Test.YtmfclekjojninaaPackBack
namespace Go.Proofs.Ytmfclekjojninaa.Act
open Go.RowKit Go.Proofs.Ytmfclekjojninaa.Mem

/-- the letters of a kind -/
def named (k : Nat) : List UInt8 :=
  if k = 1 then [119, 116] else if k = 2 then [119, 99, 102, 116] else if k = 3 then [119, 99] else if k = 4 ∨ k = 5 ∨ k = 7 ∨ k = 8 ∨ k = 15 ∨ k = 18 then [119]
  else if k = 6 ∨ k = 16 ∨ k = 19 then [119, 112] else if k = 9 ∨ k = 10 ∨ k = 11 ∨ k = 13 ∨ k = 14 then [112] else if k = 12 then [112, 97, 109] else if k = 17 then [119, 112, 109] else []
theorem named_big {k : Nat} (h : k = 0 ∨ 20 ≤ k) : named k = [] := by
  unfold named
  repeat (rw [if_neg (by omega)])
theorem named_short (k : Nat) : (named k).length ≤ 4 := by
  unfold named
  repeat' split
  all_goals decide
/-- is a letter among them? -/
def hasL (k c : Nat) : Bool := (named k).any fun x => x.toNat == c
theorem has_any (k c : Nat) (w : World) (hk : k < 256) :
    Calls Try.prog 42 #[.int .u8 (k : Int), .int .u8 (c : Int)] w fun e w' => e = .returned (.bool (hasL k c)) ∧ w = w' := by
  go_enter Try.func42, Try.ntmps42
  go_upto_block 0 with fail
  go_cut [5] (fun p wx => p = .string ⟨(named k).toArray⟩ ∧ wx = w)
  case first =>
    by_cases hb : k = 0 ∨ 20 ≤ k
    · have hn := named_big hb
      have HN := kept hn
      clear hn
      have b1 : ((k : Int) == 1) = false := by rw [beq_eq_false_iff_ne]; omega
      have b2 : ((k : Int) == 2) = false := by rw [beq_eq_false_iff_ne]; omega
      have b3 : ((k : Int) == 3) = false := by rw [beq_eq_false_iff_ne]; omega
      have b4 : ((k : Int) == 4) = false := by rw [beq_eq_false_iff_ne]; omega
      have b5 : ((k : Int) == 5) = false := by rw [beq_eq_false_iff_ne]; omega
      have b6 : ((k : Int) == 6) = false := by rw [beq_eq_false_iff_ne]; omega
      have b7 : ((k : Int) == 7) = false := by rw [beq_eq_false_iff_ne]; omega
      have b8 : ((k : Int) == 8) = false := by rw [beq_eq_false_iff_ne]; omega
      have b9 : ((k : Int) == 9) = false := by rw [beq_eq_false_iff_ne]; omega
      have b10 : ((k : Int) == 10) = false := by rw [beq_eq_false_iff_ne]; omega
      have b11 : ((k : Int) == 11) = false := by rw [beq_eq_false_iff_ne]; omega
      have b12 : ((k : Int) == 12) = false := by rw [beq_eq_false_iff_ne]; omega
      have b13 : ((k : Int) == 13) = false := by rw [beq_eq_false_iff_ne]; omega
      have b14 : ((k : Int) == 14) = false := by rw [beq_eq_false_iff_ne]; omega
      have b15 : ((k : Int) == 15) = false := by rw [beq_eq_false_iff_ne]; omega
      have b16 : ((k : Int) == 16) = false := by rw [beq_eq_false_iff_ne]; omega
      have b17 : ((k : Int) == 17) = false := by rw [beq_eq_false_iff_ne]; omega
      have b18 : ((k : Int) == 18) = false := by rw [beq_eq_false_iff_ne]; omega
      have b19 : ((k : Int) == 19) = false := by rw [beq_eq_false_iff_ne]; omega
      clear hb
      go_wp2
      go_meet
      rw [HN.out]
      exact ⟨rfl, rfl⟩
    · have hk2 : k = 1 ∨ k = 2 ∨ k = 3 ∨ k = 4 ∨ k = 5 ∨ k = 6 ∨ k = 7 ∨ k = 8 ∨ k = 9 ∨ k = 10 ∨ k = 11 ∨ k = 12 ∨ k = 13 ∨ k = 14 ∨ k = 15 ∨ k = 16 ∨ k = 17 ∨ k = 18 ∨ k = 19 := by omega
      clear hb
      rcases hk2 with rfl | rfl | rfl | rfl | rfl | rfl | rfl | rfl | rfl | rfl | rfl | rfl | rfl | rfl | rfl | rfl | rfl | rfl | rfl
      all_goals
        go_wp2
        go_meet
        exact ⟨rfl, rfl⟩
  case rest =>
    obtain ⟨rfl, rfl⟩ := hcut
    have hs := named_short k
    obtain ⟨l, hl⟩ : ∃ l, l = named k := ⟨_, rfl⟩
    have HL := kept (show hasL k c = l.any (fun x => x.toNat == c) from by rw [hl]; rfl)
    rw [← hl] at hs ⊢
    clear hl
    go_wp2
    go_loop [37] (fun i => ∃ j : Nat, j ≤ l.length ∧ i = .int .i64 (j : Int) ∧ Kept ((l.take j).any (fun x => x.toNat == c) = false)) (fun i => l.length - (intOf i).toNat)
    case atStart => exact ⟨0, Nat.zero_le _, rfl, ⟨rfl⟩⟩
    case round =>
      obtain ⟨j, hj, rfl, hno⟩ := hrel
      by_cases hlt : j < l.length
      · have ht : l.take (j + 1) = l.take j ++ [l[j]] := List.take_succ_eq_append_getElem hlt
        by_cases hx : l[j].toNat = c
        · have hb : (((((⟨l.toArray⟩ : ByteArray)[j]'(by show j < l.toArray.size; simpa using hlt)).toNat : Nat) : Int) == (c : Int)) = true := by show (((l[j].toNat : Nat) : Int) == (c : Int)) = true; rw [hx]; exact beq_self_eq_true _
          have HF : Kept (l.any (fun x => x.toNat == c) = true) := ⟨List.any_eq_true.2 ⟨l[j], List.getElem_mem _, by simpa using hx⟩⟩
          clear ht hx hno
          go_wp2
          go_ret
          exact ⟨ret_bool (HL.out.trans HF.out).symm, rfl⟩
        · have hb : (((((⟨l.toArray⟩ : ByteArray)[j]'(by show j < l.toArray.size; simpa using hlt)).toNat : Nat) : Int) == (c : Int)) = false := by show (((l[j].toNat : Nat) : Int) == (c : Int)) = false; rw [beq_eq_false_iff_ne]; omega
          have HF : Kept ((l.take (j + 1)).any (fun x => x.toNat == c) = false) := ⟨by rw [ht, List.any_append, hno.out]; simpa using hx⟩
          clear ht hx hno
          go_wp2
          go_round
          case rel => exact ⟨j + 1, by omega, by go_num, HF⟩
          case measure => simp [intOf]; omega
      · have HF : Kept (l.any (fun x => x.toNat == c) = false) := ⟨by have := hno.out; rwa [List.take_of_length_le (by omega)] at this⟩
        clear hno
        go_wp2
        go_ret
        exact ⟨ret_bool (HL.out.trans HF.out).symm, rfl⟩
/-- which letter is meant by a number -/
def letterN (f : Nat) : Nat := if f = 1 then 119 else if f = 2 then 99 else if f = 3 then 102 else if f = 4 then 116 else if f = 5 then 112 else if f = 6 then 97 else 109
def hasN (k f : Nat) : Bool := hasL k (letterN f)
theorem machine_any (k who : Nat) (w : World) (hk : k < 256) (hw : who < 256) :
    Calls Try.prog 43 #[.int .u8 (k : Int), .int .u8 (who : Int)] w fun e w' => e = .returned (.bool (decide (who < 16 ∨ who = 255 ∧ 15 ≤ k))) ∧ w = w' := by
  by_cases h1 : who < 16
  · rw [decide_eq_true (.inl h1)]
    go_enter Try.func43, Try.ntmps43
    go_wp2
    go_ret
    exact ⟨ret_bool (by first | rfl | (simp; omega)), rfl⟩
  · by_cases h2 : who = 255
    · subst h2
      by_cases h3 : 15 ≤ k
      · rw [decide_eq_true (.inr ⟨rfl, h3⟩)]
        go_enter Try.func43, Try.ntmps43
        go_wp2
        go_ret
        exact ⟨ret_bool (by first | rfl | (simp; omega)), rfl⟩
      · rw [decide_eq_false (by omega)]
        go_enter Try.func43, Try.ntmps43
        go_wp2
        go_ret
        exact ⟨ret_bool (by first | rfl | (simp; omega)), rfl⟩
    · have hb : ((who : Int) == 255) = false := by rw [beq_eq_false_iff_ne]; omega
      rw [decide_eq_false (by omega)]
      clear h2
      go_enter Try.func43, Try.ntmps43
      go_wp2
      go_ret
      exact ⟨ret_bool (by first | rfl | (simp; omega)), rfl⟩
end Go.Proofs.Ytmfclekjojninaa.Act
