import Derived.Test.YtfkfpanhbanljaaGreatSetD
import Derived.Test.YtfkfpanhbanljaaGreatPastAdd
import Derived.Test.YtfkfpanhbanljaaGreatSetC
import Derived.Test.YtfkfpanhbanljaaGreatSetE
import Derived.Deep.DeepCutAuto
/- Layer 41 (past): of nil there is nothing. -/
namespace Go.Proofs.YtfkfpanhbanljaaGreat.Past
open Go.RowKit Go.Proofs.YtfkfpanhbanljaaGreat.Mem Go.Proofs.YtfkfpanhbanljaaGreat.Mask

set_option maxRecDepth 100000 in
theorem len64_0 (w : World) : Calls Tryz.prog 70 #[.int .u64 0] w fun e w' => e = .returned (.int .i64 0) ∧ w = w' := by
  go_enter Tryz.func70, Tryz.ntmps70
  go_wp2
  go_ret
  exact ⟨by kernel_rfl, rfl⟩
set_option maxRecDepth 100000 in
theorem len_0 (w : World) : Calls Tryz.prog 54 #[.int .u64 0] w fun e w' => e = .returned (.int .i64 0) ∧ w = w' := by
  go_enter Tryz.func54, Tryz.ntmps54
  go_wp2_with fail
  refine (len64_0 w).mono ?_
  rintro e w1 ⟨rfl, rfl⟩
  go_wp2_with fail
  go_ret
  exact ⟨rfl, rfl⟩
set_option maxRecDepth 100000 in
theorem ins_nil (w : World) : Calls Tryz.prog 60 #[.slice none 0 0, .int .i64 0, .int .i64 0] w fun e w' => e = .returned (.tuple #[]) ∧ w = w' := by
  go_enter Tryz.func60, Tryz.ntmps60
  go_wp2
  go_loopw [6] (fun i wr => i = .int .i64 1 ∧ wr = w) (fun _ _ => 0)
  case atStart => exact ⟨rfl, rfl⟩
  case round =>
    obtain ⟨rfl, rfl⟩ := hrel
    go_wp2
    go_end0
    exact ⟨rfl, rfl⟩
set_option maxRecDepth 100000 in
theorem pdq_nil (w : World) : Calls Tryz.prog 53 #[.slice none 0 0, .int .i64 0, .int .i64 0, .int .i64 0] w fun e w' => e = .returned (.tuple #[]) ∧ w = w' := by
  go_enter Tryz.func53, Tryz.ntmps53
  go_wp2
  go_loopw [1, 2] (fun a b wr => a = .int .i64 0 ∧ b = .int .i64 0 ∧ wr = w) (fun _ _ _ => 0)
  case atStart => exact ⟨rfl, rfl, rfl⟩
  case round =>
    obtain ⟨rfl, rfl, rfl⟩ := hrel
    go_wp2_with fail
    refine (ins_nil _).mono ?_
    rintro e w1 ⟨rfl, rfl⟩
    go_wp2_with fail
    exact bodyPost_ret (results_none rfl _ _ _) rfl ⟨rfl, rfl⟩
set_option maxRecDepth 100000 in
theorem sort_nil (w : World) : Calls Tryz.prog 44 #[.slice none 0 0] w fun e w' => e = .returned (.tuple #[]) ∧ w = w' := by
  go_enter Tryz.func44, Tryz.ntmps44
  go_wp2_with fail
  refine (len_0 _).mono ?_
  rintro e w1 ⟨rfl, rfl⟩
  go_wp2_with fail
  refine (pdq_nil _).mono ?_
  rintro e w1 ⟨rfl, rfl⟩
  go_wp2_with fail
  go_end0
  exact ⟨rfl, rfl⟩
set_option maxRecDepth 100000 in
theorem compact_nil (w : World) : Calls Tryz.prog 45 #[.slice none 0 0] w fun e w' => e = .returned (.slice none 0 0) ∧ w = w' := by
  go_enter Tryz.func45, Tryz.ntmps45
  go_wp2
  go_ret
  exact ⟨rfl, rfl⟩
set_option maxRecDepth 100000 in
theorem view_nil (w : World) : Calls Tryz.prog 34 #[.slice none 0 0] w fun e w' => e = .returned (.slice none 0 0) ∧ w = w' := by
  go_enter Tryz.func34, Tryz.ntmps34
  go_wp2
  go_loopw [3, 13] (fun s i wr => ∃ j : Nat, j = 0 ∧ i = .int .i64 (j : Int) ∧ s = .slice none 0 0 ∧ wr = w) (fun _ _ _ => 0)
  case atStart => exact ⟨0, rfl, rfl, rfl, rfl⟩
  case round =>
    obtain ⟨j, rfl, rfl, rfl, rfl⟩ := hrel
    go_wp2_with fail
    refine (sort_nil _).mono ?_
    rintro e w1 ⟨rfl, rfl⟩
    go_wp2_with fail
    refine (compact_nil _).mono ?_
    rintro e w1 ⟨rfl, rfl⟩
    go_wp2_with fail
    go_loopw [6, 31] (fun s i wr2 => ∃ j : Nat, j = 0 ∧ i = .int .i64 (j : Int) ∧ s = .slice none 0 0 ∧ wr2 = wr) (fun _ _ _ => 0)
    case atStart => exact ⟨0, rfl, rfl, rfl, rfl⟩
    case round =>
      obtain ⟨j, rfl, rfl, rfl, rfl⟩ := hrel
      go_wp2_with fail
      go_ret
      exact ⟨rfl, rfl⟩
theorem there_nil (m : List Nat) : thereM 0 m = [] := by
  have : (allI m).filter (fun n => decide (n < ((0 : Nat) : Int))) = [] := List.filter_eq_nil_iff.2 fun x hx => by
    have := (allI_range hx).1
    simp; omega
  unfold thereM
  rw [this]
  rfl
theorem all_none : allI [] = [] := rfl
set_option maxRecDepth 100000 in
theorem live_nil (A : Option Addr) (n c : Nat) (m : List Nat) (w : World) (hn : n = m.length) (hw : AllW m) (hr : Rd w w.heap.size A (WB m)) (hsz : m.length ≤ 1000000) :
    Calls Tryz.prog 16 #[.pointer none, .slice A n c] w fun e w' => (∃ A2 c2, e = .returned (.slice A2 0 c2)) ∧ Below w.heap.size w w' := by
  have CT := kept (there_any (.pointer none) 0 A n c m w (.inl ⟨rfl, rfl⟩) hn hw hr hsz)
  rw [there_nil] at CT
  clear hr hn hw hsz
  go_enter Tryz.func16, Tryz.ntmps16
  go_wp2_with fail
  refine CT.out.mono ?_
  rintro e w1 ⟨A1, c1, rfl, hown1, -, hb1⟩
  have CA := kept (all_any A1 0 c1 [] w1 rfl (fun x hx => by cases hx) Rd.nil (by decide))
  have HB1 := kept hb1
  clear CT hown1 hb1
  go_wp2_with fail
  refine CA.out.mono ?_
  rintro e w2 ⟨A2, c2, rfl, hown2, -, hb2⟩
  have HB2 := kept (HB1.out.trans (hb2.mono HB1.out.size))
  clear CA hown2 hb2
  rw [show (allI []).length = 0 from rfl]
  go_wp2_with fail
  go_loopw [5, 14] (fun s i wr => ∃ j : Nat, j = 0 ∧ i = .int .i64 (j : Int) ∧ s = .slice none 0 0 ∧ wr = w2) (fun _ _ _ => 0)
  case atStart => exact ⟨0, rfl, rfl, rfl, rfl⟩
  case round =>
    obtain ⟨j, rfl, rfl, rfl, rfl⟩ := hrel
    have CO := kept (of_any none 0 0 [] wr rfl (fun x hx => by cases hx) Rd.nil (by decide))
    go_wp2_with fail
    refine CO.out.mono ?_
    rintro e w3 ⟨A3, c3, rfl, hown3, -, hb3⟩
    go_wp2_with fail
    go_ret
    exact ⟨⟨A3, c3, rfl⟩, HB2.out.trans (hb3.mono HB2.out.size)⟩
set_option maxRecDepth 100000 in
theorem list_nil (A : Option Addr) (n c : Nat) (m : List Nat) (w : World) (hn : n = m.length) (hw : AllW m) (hr : Rd w w.heap.size A (WB m)) (hsz : m.length ≤ 1000000) :
    Calls Tryz.prog 19 #[.pointer none, .slice A n c] w fun e w' => e = .returned (.slice none 0 0) ∧ Below w.heap.size w w' := by
  have CL := kept (live_nil A n c m w hn hw hr hsz)
  clear hr hn hw hsz
  go_enter Tryz.func19, Tryz.ntmps19
  go_wp2_with fail
  refine CL.out.mono ?_
  rintro e w1 ⟨⟨A1, c1, rfl⟩, hb1⟩
  have CA := kept (all_any A1 0 c1 [] w1 rfl (fun x hx => by cases hx) Rd.nil (by decide))
  have HB1 := kept hb1
  clear CL hb1
  go_wp2_with fail
  refine CA.out.mono ?_
  rintro e w2 ⟨A2, c2, rfl, hown2, -, hb2⟩
  have HB2 := kept (HB1.out.trans (hb2.mono HB1.out.size))
  clear CA hown2 hb2
  rw [show (allI []).length = 0 from rfl]
  go_wp2_with fail
  go_loopw [5, 13] (fun s i wr => ∃ j : Nat, j = 0 ∧ i = .int .i64 (j : Int) ∧ s = .slice none 0 0 ∧ wr = w2) (fun _ _ _ => 0)
  case atStart => exact ⟨0, rfl, rfl, rfl, rfl⟩
  case round =>
    obtain ⟨j, rfl, rfl, rfl, rfl⟩ := hrel
    go_wp2_with fail
    refine (view_nil _).mono ?_
    rintro e w3 ⟨rfl, rfl⟩
    go_wp2_with fail
    go_ret
    exact ⟨rfl, HB2.out⟩
set_option maxRecDepth 100000 in
theorem saw_nil (k : Int) (w : World) : Calls Tryz.prog 13 #[.pointer none, .int .i64 k] w fun e w' => e = .returned (.slice none 0 0) ∧ w = w' := by
  have CI := kept (is_any (.pointer none) 0 k w (.inl ⟨rfl, rfl⟩))
  rw [decide_eq_false (by omega)] at CI
  go_enter Tryz.func13, Tryz.ntmps13
  go_wp2_with fail
  refine CI.out.mono ?_
  rintro e w1 ⟨rfl, rfl⟩
  go_wp2_with fail
  go_ret
  exact ⟨rfl, rfl⟩
set_option maxRecDepth 100000 in
theorem outs_nil (n k : Int) (w : World) : Calls Tryz.prog 14 #[.pointer none, .int .i64 n, .int .i64 k] w fun e w' => e = .returned (.bool false) ∧ Below w.heap.size w w' := by
  have CI := kept (is_any (.pointer none) 0 n w (.inl ⟨rfl, rfl⟩))
  rw [decide_eq_false (by omega)] at CI
  go_enter Tryz.func14, Tryz.ntmps14
  go_wp2_with fail
  refine CI.out.mono ?_
  rintro e w1 ⟨rfl, rfl⟩
  go_wp2_with fail
  go_ret
  exact ⟨rfl, Below.refl _ _⟩
set_option maxRecDepth 100000 in
theorem event_nil (k : Int) (w : World) : Calls Tryz.prog 10 #[.pointer none, .int .i64 k] w fun e w' => e = .returned (.tuple #[.agg #[.int .u16 0, .int .u64 0, .int .u8 0, .int .u64 0, .int .u8 0, .string ⟨#[]⟩, .slice none 0 0], .bool false]) ∧ Below w.heap.size w w' := by
  have CI := kept (fun W => is_any (.pointer none) 0 k W (.inl ⟨rfl, rfl⟩))
  rw [decide_eq_false (by omega)] at CI
  go_enter Tryz.func10, Tryz.ntmps10
  go_wp2_with fail
  refine (CI.out _).mono ?_
  rintro e w1 ⟨rfl, rfl⟩
  go_wp2_with fail
  exact bodyPost_ret (res_cell_tmp rfl _ w.heap.size _ [.int .u16 0, .int .u64 0, .int .u8 0, .int .u64 0, .int .u8 0, .string ⟨#[]⟩, .slice none 0 0] _ rfl (Blk.new w _ _) rfl rfl rfl) rfl ⟨rfl, (Below.refl _ _).alloc (Nat.le_refl _) _⟩
end Go.Proofs.YtfkfpanhbanljaaGreat.Past

/- Layer 41 (past): the law PastNil. -/
namespace Go.Proofs.YtfkfpanhbanljaaGreat.Past
open Go.RowKit Go.Proofs.YtfkfpanhbanljaaGreat.Mem Go.Proofs.YtfkfpanhbanljaaGreat.Mask

theorem saw_in (S : Nat → Prop) (g : Nat) (fs : List FactM) (i : Nat) (f : FactM) (w : World) (h : Pst w S g fs) (hf : fs[i]? = some f) :
    Calls Tryz.prog 13 #[.pointer (some ⟨g, 0, none⟩), .int .i64 (i : Int)] w (GivesW w (joinN f.m [])) := by
  have hi : i < fs.length := (List.getElem?_eq_some_iff.1 hf).1
  have CN : Kept (Calls Tryz.prog 24 #[.pointer (some ⟨g, 0, none⟩), .int .i64 (i : Int)] w fun e w' => e = .returned (.bool true) ∧ w = w') := ⟨by
    have := is_any _ fs.length (i : Int) w h.len
    rwa [decide_eq_true ⟨by omega, by omega⟩] at this⟩
  obtain ⟨X, c, bl, o, rfl, hg, hbl, hgl, ⟨-, -, -, -, -, -, -, a7⟩, hak⟩ := h.spot hf
  have h1024 := h.2.2.1
  have CJ := kept (join_any f.A none f.m.length 0 f.c 0 f.m [] w rfl rfl hak.2.2.1 (fun x hx => by cases hx) hak.2.1.rd Rd.nil (by have := hak.2.2.2; omega) (by decide))
  clear h hf hak
  have hi2 : (i : Int) < (fs.length : Int) := by omega
  have hi3 : (0 : Int) ≤ (i : Int) := by omega
  go_enter Tryz.func13, Tryz.ntmps13
  go_wp2_with fail
  refine CN.out.mono ?_
  rintro e w' ⟨rfl, rfl⟩
  go_wp2_with fail
  refine CJ.out.mono ?_
  rintro e w1 ⟨A1, c1, rfl, hown, hc, hb⟩
  go_wp2_with fail
  go_ret
  exact ⟨A1, c1, rfl, hown, hc, hb⟩
def FactM.val (f : FactM) : Value := .agg #[.int .u16 (f.e.dev : Int), .int .u64 (f.e.n : Int), .int .u8 (f.e.kind : Int), .int .u64 (f.e.cid : Int), .int .u8 (f.e.field : Int), .string f.e.text, .slice f.e.kA f.e.kn f.e.kc, .slice f.A f.m.length f.c]
/-- a store that meets nothing of a past -/
theorem Pst.store {w : World} {S : Nat → Prop} {g : Nat} {fs : List FactM} (h : Pst w S g fs) {p : Addr} (hp : ¬ S p.block) (hr : ∀ f ∈ fs, ∀ x, f.A = some x → x.block ≠ p.block) (v : Value) : Pst (w.setCell p v) S g fs := by
  obtain ⟨h1, h2, h3, h4, X, c, h5, h6, h7⟩ := h
  refine ⟨h1, fun k hk => by have := h2 k hk; simpa [World.setCell] using this, h3, fun f hf => ?_, X, c, h5.other (p := p) (fun e => hp (by rw [e]; exact h1)) v, OwnK.other h6 (?_) v, h7⟩
  · obtain ⟨a, b, d⟩ := h4 f hf
    refine ⟨a, OwnK.other b ?_ v, d⟩
    cases hA : f.A with
    | none => exact .inl rfl
    | some x => exact .inr fun e => hr f hf x hA (Option.some.inj e)
  · cases hX : X with
    | none => exact .inl rfl
    | some x => exact .inr fun e => hp (by rw [← show x.block = p.block from Option.some.inj e]; exact (h7 x hX).1)
def wKill (sb : Nat) : EvM := ⟨0, 0, 2, 5, 0, ⟨#[]⟩, some ⟨sb, 0, none⟩, 1, 1⟩
theorem nil_two (A B : Option Addr) (a b sb : Nat) : (addF (addF [] wEdit [] A a) (wKill sb) [3] B b) = [⟨⟨0, 0, 1, 5, 1, ⟨#[]⟩, none, 0, 0⟩, A, [], a⟩, ⟨⟨0, 0, 2, 5, 0, ⟨#[]⟩, none, 0, 0⟩, B, [1], b⟩] := by
  have h1 : thereM 0 [] = [] := rfl
  have h2 : thereM 1 [3] = [1] := by decide +kernel
  unfold addF
  show [] ++ [_] ++ [_] = _
  rw [show (([] : List FactM) ++ [(⟨⟨wEdit.dev, wEdit.n, wEdit.kind, wEdit.cid, wEdit.field, wEdit.text, none, 0, 0⟩, A, thereM ([] : List FactM).length [], a⟩ : FactM)]).length = 1 from rfl, h2]
  rfl
theorem outs_10 (A B : Option Addr) (a b : Nat) : outsM [⟨⟨0, 0, 1, 5, 1, ⟨#[]⟩, none, 0, 0⟩, A, [], a⟩, ⟨⟨0, 0, 2, 5, 0, ⟨#[]⟩, none, 0, 0⟩, B, [1], b⟩] 1 0 = true := by kernel_rfl
theorem join_1 : joinN [1] [] = [1] := by decide +kernel
end Go.Proofs.YtfkfpanhbanljaaGreat.Past
