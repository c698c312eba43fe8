/- Layer 41 (past): of nil there is nothing. -/
import Derived.Test.YtnmcclkpgbdenaaPastLive
import Derived.Test.YtnmcclkpgbdenaaPastAdd
import Derived.Test.YtnmcclkpgbdenaaMaskJoin
namespace Go.Proofs.Ytnmcclkpgbdenaa.Past
open Go.RowKit Go.Proofs.Ytnmcclkpgbdenaa.Mem Go.Proofs.Ytnmcclkpgbdenaa.Mask

set_option maxRecDepth 100000 in
theorem len64_0 (w : World) : Calls Try.prog 125 #[.int .u64 0] w fun e w' => e = .returned (.int .i64 0) ∧ w = w' := by
  go_enter Try.func125, Try.ntmps125
  go_wp2
  go_ret
  exact ⟨by kernel_rfl, rfl⟩
set_option maxRecDepth 100000 in
theorem len_0 (w : World) : Calls Try.prog 88 #[.int .u64 0] w fun e w' => e = .returned (.int .i64 0) ∧ w = w' := by
  go_enter Try.func88, Try.ntmps88
  go_wp2_with fail
  refine (len64_0 w).mono ?_
  rintro e w1 ⟨rfl, rfl⟩
  go_wp2_with fail
  go_ret
  exact ⟨rfl, rfl⟩
set_option maxRecDepth 100000 in
theorem ins_nil (w : World) : Calls Try.prog 141 #[.slice none 0 0, .int .i64 0, .int .i64 0] w fun e w' => e = .returned (.tuple #[]) ∧ w = w' := by
  go_enter Try.func141, Try.ntmps141
  go_wp2
  go_loopw [6] (fun i wr => i = .int .i64 1 ∧ wr = w) (fun _ _ => 0)
  case atStart => exact ⟨rfl, rfl⟩
  case round =>
    obtain ⟨rfl, rfl⟩ := hrel
    go_wp2
    go_end0
    exact ⟨rfl, rfl⟩
set_option maxRecDepth 100000 in
theorem pdq_nil (w : World) : Calls Try.prog 128 #[.slice none 0 0, .int .i64 0, .int .i64 0, .int .i64 0] w fun e w' => e = .returned (.tuple #[]) ∧ w = w' := by
  go_enter Try.func128, Try.ntmps128
  go_wp2
  go_loopw [1, 2] (fun a b wr => a = .int .i64 0 ∧ b = .int .i64 0 ∧ wr = w) (fun _ _ _ => 0)
  case atStart => exact ⟨rfl, rfl, rfl⟩
  case round =>
    obtain ⟨rfl, rfl, rfl⟩ := hrel
    go_wp2_with fail
    refine (ins_nil _).mono ?_
    rintro e w1 ⟨rfl, rfl⟩
    go_wp2_with fail
    exact bodyPost_ret (results_none rfl _ _ _) rfl ⟨rfl, rfl⟩
set_option maxRecDepth 100000 in
theorem sort_nil (w : World) : Calls Try.prog 93 #[.slice none 0 0] w fun e w' => e = .returned (.tuple #[]) ∧ w = w' := by
  go_enter Try.func93, Try.ntmps93
  go_wp2_with fail
  refine (len_0 _).mono ?_
  rintro e w1 ⟨rfl, rfl⟩
  go_wp2_with fail
  refine (pdq_nil _).mono ?_
  rintro e w1 ⟨rfl, rfl⟩
  go_wp2_with fail
  go_end0
  exact ⟨rfl, rfl⟩
set_option maxRecDepth 100000 in
theorem compact_nil (w : World) : Calls Try.prog 94 #[.slice none 0 0] w fun e w' => e = .returned (.slice none 0 0) ∧ w = w' := by
  go_enter Try.func94, Try.ntmps94
  go_wp2
  go_ret
  exact ⟨rfl, rfl⟩
set_option maxRecDepth 100000 in
theorem view_nil (w : World) : Calls Try.prog 66 #[.slice none 0 0] w fun e w' => e = .returned (.slice none 0 0) ∧ w = w' := by
  go_enter Try.func66, Try.ntmps66
  go_wp2
  go_loopw [3, 13] (fun s i wr => ∃ j : Nat, j = 0 ∧ i = .int .i64 (j : Int) ∧ s = .slice none 0 0 ∧ wr = w) (fun _ _ _ => 0)
  case atStart => exact ⟨0, rfl, rfl, rfl, rfl⟩
  case round =>
    obtain ⟨j, rfl, rfl, rfl, rfl⟩ := hrel
    go_wp2_with fail
    refine (sort_nil _).mono ?_
    rintro e w1 ⟨rfl, rfl⟩
    go_wp2_with fail
    refine (compact_nil _).mono ?_
    rintro e w1 ⟨rfl, rfl⟩
    go_wp2_with fail
    go_loopw [6, 31] (fun s i wr2 => ∃ j : Nat, j = 0 ∧ i = .int .i64 (j : Int) ∧ s = .slice none 0 0 ∧ wr2 = wr) (fun _ _ _ => 0)
    case atStart => exact ⟨0, rfl, rfl, rfl, rfl⟩
    case round =>
      obtain ⟨j, rfl, rfl, rfl, rfl⟩ := hrel
      go_wp2_with fail
      go_ret
      exact ⟨rfl, rfl⟩
theorem there_nil (m : List Nat) : thereM 0 m = [] := by
  have : (allI m).filter (fun n => decide (n < ((0 : Nat) : Int))) = [] := List.filter_eq_nil_iff.2 fun x hx => by
    have := (allI_range hx).1
    simp; omega
  unfold thereM
  rw [this]
  rfl
theorem all_none : allI [] = [] := rfl
set_option maxRecDepth 100000 in
theorem live_nil (A : Option Addr) (n c : Nat) (m : List Nat) (w : World) (hn : n = m.length) (hw : AllW m) (hr : Rd w w.heap.size A (WB m)) (hsz : m.length ≤ 1000000) :
    Calls Try.prog 35 #[.pointer none, .slice A n c] w fun e w' => (∃ A2 c2, e = .returned (.slice A2 0 c2)) ∧ Below w.heap.size w w' := by
  have CT := kept (there_any (.pointer none) 0 A n c m w (.inl ⟨rfl, rfl⟩) hn hw hr hsz)
  rw [there_nil] at CT
  clear hr hn hw hsz
  go_enter Try.func35, Try.ntmps35
  go_wp2_with fail
  refine CT.out.mono ?_
  rintro e w1 ⟨A1, c1, rfl, hown1, -, hb1⟩
  have CA := kept (all_any A1 0 c1 [] w1 rfl (fun x hx => by cases hx) Rd.nil (by decide))
  have HB1 := kept hb1
  clear CT hown1 hb1
  go_wp2_with fail
  refine CA.out.mono ?_
  rintro e w2 ⟨A2, c2, rfl, hown2, -, hb2⟩
  have HB2 := kept (HB1.out.trans (hb2.mono HB1.out.size))
  clear CA hown2 hb2
  rw [show (allI []).length = 0 from rfl]
  go_wp2_with fail
  go_loopw [5, 14] (fun s i wr => ∃ j : Nat, j = 0 ∧ i = .int .i64 (j : Int) ∧ s = .slice none 0 0 ∧ wr = w2) (fun _ _ _ => 0)
  case atStart => exact ⟨0, rfl, rfl, rfl, rfl⟩
  case round =>
    obtain ⟨j, rfl, rfl, rfl, rfl⟩ := hrel
    have CO := kept (of_any none 0 0 [] wr rfl (fun x hx => by cases hx) Rd.nil (by decide))
    go_wp2_with fail
    refine CO.out.mono ?_
    rintro e w3 ⟨A3, c3, rfl, hown3, -, hb3⟩
    go_wp2_with fail
    go_ret
    exact ⟨⟨A3, c3, rfl⟩, HB2.out.trans (hb3.mono HB2.out.size)⟩
set_option maxRecDepth 100000 in
theorem list_nil (A : Option Addr) (n c : Nat) (m : List Nat) (w : World) (hn : n = m.length) (hw : AllW m) (hr : Rd w w.heap.size A (WB m)) (hsz : m.length ≤ 1000000) :
    Calls Try.prog 36 #[.pointer none, .slice A n c] w fun e w' => e = .returned (.slice none 0 0) ∧ Below w.heap.size w w' := by
  have CL := kept (live_nil A n c m w hn hw hr hsz)
  clear hr hn hw hsz
  go_enter Try.func36, Try.ntmps36
  go_wp2_with fail
  refine CL.out.mono ?_
  rintro e w1 ⟨⟨A1, c1, rfl⟩, hb1⟩
  have CA := kept (all_any A1 0 c1 [] w1 rfl (fun x hx => by cases hx) Rd.nil (by decide))
  have HB1 := kept hb1
  clear CL hb1
  go_wp2_with fail
  refine CA.out.mono ?_
  rintro e w2 ⟨A2, c2, rfl, hown2, -, hb2⟩
  have HB2 := kept (HB1.out.trans (hb2.mono HB1.out.size))
  clear CA hown2 hb2
  rw [show (allI []).length = 0 from rfl]
  go_wp2_with fail
  go_loopw [5, 13] (fun s i wr => ∃ j : Nat, j = 0 ∧ i = .int .i64 (j : Int) ∧ s = .slice none 0 0 ∧ wr = w2) (fun _ _ _ => 0)
  case atStart => exact ⟨0, rfl, rfl, rfl, rfl⟩
  case round =>
    obtain ⟨j, rfl, rfl, rfl, rfl⟩ := hrel
    go_wp2_with fail
    refine (view_nil _).mono ?_
    rintro e w3 ⟨rfl, rfl⟩
    go_wp2_with fail
    go_ret
    exact ⟨rfl, HB2.out⟩
set_option maxRecDepth 100000 in
theorem saw_nil (k : Int) (w : World) : Calls Try.prog 33 #[.pointer none, .int .i64 k] w fun e w' => e = .returned (.slice none 0 0) ∧ w = w' := by
  have CI := kept (is_any (.pointer none) 0 k w (.inl ⟨rfl, rfl⟩))
  rw [decide_eq_false (by omega)] at CI
  go_enter Try.func33, Try.ntmps33
  go_wp2_with fail
  refine CI.out.mono ?_
  rintro e w1 ⟨rfl, rfl⟩
  go_wp2_with fail
  go_ret
  exact ⟨rfl, rfl⟩
set_option maxRecDepth 100000 in
theorem outs_nil (n k : Int) (w : World) : Calls Try.prog 34 #[.pointer none, .int .i64 n, .int .i64 k] w fun e w' => e = .returned (.bool false) ∧ Below w.heap.size w w' := by
  have CI := kept (is_any (.pointer none) 0 n w (.inl ⟨rfl, rfl⟩))
  rw [decide_eq_false (by omega)] at CI
  go_enter Try.func34, Try.ntmps34
  go_wp2_with fail
  refine CI.out.mono ?_
  rintro e w1 ⟨rfl, rfl⟩
  go_wp2_with fail
  go_ret
  exact ⟨rfl, Below.refl _ _⟩
set_option maxRecDepth 100000 in
theorem event_nil (k : Int) (w : World) : Calls Try.prog 31 #[.pointer none, .int .i64 k] w fun e w' => e = .returned (.tuple #[.agg #[.int .u16 0, .int .u64 0, .int .u8 0, .int .u64 0, .int .u8 0, .string ⟨#[]⟩, .slice none 0 0], .bool false]) ∧ Below w.heap.size w w' := by
  have CI := kept (fun W => is_any (.pointer none) 0 k W (.inl ⟨rfl, rfl⟩))
  rw [decide_eq_false (by omega)] at CI
  go_enter Try.func31, Try.ntmps31
  go_wp2_with fail
  refine (CI.out _).mono ?_
  rintro e w1 ⟨rfl, rfl⟩
  go_wp2_with fail
  exact bodyPost_ret (res_cell_tmp rfl _ w.heap.size _ [.int .u16 0, .int .u64 0, .int .u8 0, .int .u64 0, .int .u8 0, .string ⟨#[]⟩, .slice none 0 0] _ rfl (Blk.new w _ _) rfl rfl rfl) rfl ⟨rfl, (Below.refl _ _).alloc (Nat.le_refl _) _⟩
end Go.Proofs.Ytnmcclkpgbdenaa.Past
