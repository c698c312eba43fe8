/- Layer 22 (disk): what is called on nil, and on a disk that no call made. -/
import Derived.Test.YtenkccfglmkdmaaDiskCrash
namespace Go.Proofs.Ytenkccfglmkdmaa.Disk
open Go.RowKit Go.Proofs.Ytenkccfglmkdmaa.Mem

/-- nil, or a disk that no call made -/
def NoD (p : Value) (w : World) : Prop := p = .pointer none ∨ ∃ g, p = .pointer (some ⟨g, 0, none⟩) ∧ w.cell? ⟨g, 0, none⟩ = some (.bool false)
theorem none_nod (p : Value) (w : World) (h : NoD p w) : Calls Try.prog 30 #[p] w fun e w' => e = .returned (.bool true) ∧ w = w' := by
  rcases h with rfl | ⟨g, rfl, h⟩
  · exact none_nil w
  · exact none_cell g false w h
theorem write_nod (p : Value) (ok : Bool) (w : World) (h : NoD p w) : Calls Try.prog 28 #[p, .bool ok] w fun e w' => e = .returned (.int .i64 1) ∧ w = w' := by
  rcases h with rfl | ⟨g, rfl, h⟩
  · exact write_nil ok w
  · exact write_no g false ok w h (.inl rfl)
theorem read_nod (p : Value) (f : Int) (w : World) (h : NoD p w) :
    Calls Try.prog 13 #[p, .int .i64 f] w fun e w' => e = .returned (.slice none 0 0) ∧ w = w' := by
  have C := kept (none_nod p w h)
  clear h
  go_enter Try.func13, Try.ntmps13
  go_wp2_with fail
  refine C.out.mono ?_
  rintro e w' ⟨rfl, rfl⟩
  go_wp2
  go_ret
  exact ⟨rfl, rfl⟩
theorem sure_nod (p : Value) (f : Int) (w : World) (h : NoD p w) :
    Calls Try.prog 14 #[p, .int .i64 f] w fun e w' => e = .returned (.int .i64 0) ∧ w = w' := by
  have C := kept (none_nod p w h)
  clear h
  go_enter Try.func14, Try.ntmps14
  go_wp2_with fail
  refine C.out.mono ?_
  rintro e w' ⟨rfl, rfl⟩
  go_wp2
  go_ret
  exact ⟨rfl, rfl⟩
theorem used_nod (p : Value)  (w : World) (h : NoD p w) :
    Calls Try.prog 16 #[p] w fun e w' => e = .returned (.int .i64 0) ∧ w = w' := by
  have C := kept (none_nod p w h)
  clear h
  go_enter Try.func16, Try.ntmps16
  go_wp2_with fail
  refine C.out.mono ?_
  rintro e w' ⟨rfl, rfl⟩
  go_wp2
  go_ret
  exact ⟨rfl, rfl⟩
theorem down_nod (p : Value)  (w : World) (h : NoD p w) :
    Calls Try.prog 12 #[p] w fun e w' => e = .returned (.bool false) ∧ w = w' := by
  have C := kept (none_nod p w h)
  clear h
  go_enter Try.func12, Try.ntmps12
  go_wp2_with fail
  refine C.out.mono ?_
  rintro e w' ⟨rfl, rfl⟩
  go_wp2
  go_ret
  exact ⟨rfl, rfl⟩
theorem room_nod (p : Value) (n : Int) (w : World) (h : NoD p w) :
    Calls Try.prog 22 #[p, .int .i64 n] w fun e w' => e = .returned (.tuple #[]) ∧ w = w' := by
  have C := kept (none_nod p w h)
  clear h
  go_enter Try.func22, Try.ntmps22
  go_wp2_with fail
  refine C.out.mono ?_
  rintro e w' ⟨rfl, rfl⟩
  go_wp2
  go_end0
  exact ⟨rfl, rfl⟩
theorem fuse_nod (p : Value) (n : Int) (w : World) (h : NoD p w) :
    Calls Try.prog 15 #[p, .int .i64 n] w fun e w' => e = .returned (.tuple #[]) ∧ w = w' := by
  have C := kept (none_nod p w h)
  clear h
  go_enter Try.func15, Try.ntmps15
  go_wp2_with fail
  refine C.out.mono ?_
  rintro e w' ⟨rfl, rfl⟩
  go_wp2
  go_end0
  exact ⟨rfl, rfl⟩
theorem crash_nod (p : Value) (n : Int) (t : Bool) (w : World) (h : NoD p w) :
    Calls Try.prog 11 #[p, .int .i64 n, .bool t] w fun e w' => e = .returned (.tuple #[]) ∧ w = w' := by
  have C := kept (none_nod p w h)
  clear h
  go_enter Try.func11, Try.ntmps11
  go_wp2_with fail
  refine C.out.mono ?_
  rintro e w' ⟨rfl, rfl⟩
  go_wp2
  exact bodyPost_ret (results_none rfl _ _ _) rfl ⟨rfl, rfl⟩
theorem copy_nod (p : Value)  (w : World) (h : NoD p w) :
    Calls Try.prog 26 #[p] w fun e w' => e = .returned (.pointer none) ∧ w = w' := by
  have C := kept (none_nod p w h)
  clear h
  go_enter Try.func26, Try.ntmps26
  go_wp2_with fail
  refine C.out.mono ?_
  rintro e w' ⟨rfl, rfl⟩
  go_wp2
  go_ret
  exact ⟨rfl, rfl⟩
theorem cut_nod (p : Value) (f n : Int) (w : World) (h : NoD p w) :
    Calls Try.prog 20 #[p, .int .i64 f, .int .i64 n] w fun e w' => e = .returned (.int .i64 1) ∧ w = w' := by
  have C := kept (none_nod p w h)
  have C2 := kept (write_nod p false w h)
  clear h
  go_enter Try.func20, Try.ntmps20
  go_wp2_with fail
  refine C.out.mono ?_
  rintro e w' ⟨rfl, rfl⟩
  go_wp2_with fail
  refine C2.out.mono ?_
  rintro e w' ⟨rfl, rfl⟩
  go_wp2
  go_ret
  exact ⟨rfl, rfl⟩
theorem app_nod (p : Value) (f : Int) (X : Option Addr) (m c : Nat) (w : World) (h : NoD p w) (hf : -9223372036854775808 ≤ f ∧ f ≤ 9223372036854775807) :
    Calls Try.prog 9 #[p, .int .i64 f, .slice X m c] w fun e w' => e = .returned (.int .i64 1) ∧ w = w' := by
  have C1 := kept (is_any f w hf)
  have C2 := kept (write_nod p (isF f) w h)
  clear h
  go_enter Try.func9, Try.ntmps9
  go_wp2_with fail
  refine C1.out.mono ?_
  rintro e w' ⟨rfl, rfl⟩
  go_wp2_with fail
  refine C2.out.mono ?_
  rintro e w' ⟨rfl, rfl⟩
  go_wp2
  go_ret
  exact ⟨rfl, rfl⟩
theorem sync_nod (p : Value) (f : Int) (w : World) (h : NoD p w) (hf : -9223372036854775808 ≤ f ∧ f ≤ 9223372036854775807) :
    Calls Try.prog 10 #[p, .int .i64 f] w fun e w' => e = .returned (.int .i64 1) ∧ w = w' := by
  have C1 := kept (is_any f w hf)
  have C2 := kept (write_nod p (isF f) w h)
  clear h
  go_enter Try.func10, Try.ntmps10
  go_wp2_with fail
  refine C1.out.mono ?_
  rintro e w' ⟨rfl, rfl⟩
  go_wp2_with fail
  refine C2.out.mono ?_
  rintro e w' ⟨rfl, rfl⟩
  go_wp2
  go_ret
  exact ⟨rfl, rfl⟩
end Go.Proofs.Ytenkccfglmkdmaa.Disk
