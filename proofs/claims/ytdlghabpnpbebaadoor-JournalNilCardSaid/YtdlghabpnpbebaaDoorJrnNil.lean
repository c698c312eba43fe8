/- Layer 24 (journal): the law JournalNil. -/
import Derived.Test.YtdlghabpnpbebaaDoorJrnWorks
namespace Go.Proofs.YtdlghabpnpbebaaDoor.Jrn
open Go.RowKit Go.Proofs.YtdlghabpnpbebaaDoor.Mem Go.Proofs.YtdlghabpnpbebaaDoor.Num Go.Proofs.YtdlghabpnpbebaaDoor.Wal Go.Proofs.YtdlghabpnpbebaaDoor.Disk Go.Proofs.YtdlghabpnpbebaaDoor.Crc

set_option maxHeartbeats 2000000 in
set_option maxRecDepth 100000 in
theorem nil_law (X : Option Addr) (c : Nat) (l : List Nat) (w : World) (hT : Tab w) :
    Calls Tryd.prog 4 #[.slice X l.length c] w fun e w' => e = .returned (.bool true) ∧ Below w.heap.size w w' := by
  have k0 : Blk ((w.alloc (.cells #[.pointer none, .int .i64 0, .int .u64 0] 33)).alloc (.cells #[.pointer none, .pointer (some ⟨w.heap.size, 0, none⟩)] 29)) w.heap.size [.pointer none, .int .i64 0, .int .u64 0] 33 := (Blk.new w _ _).alloc _
  have k1 : Blk ((w.alloc (.cells #[.pointer none, .int .i64 0, .int .u64 0] 33)).alloc (.cells #[.pointer none, .pointer (some ⟨w.heap.size, 0, none⟩)] 29)) (w.heap.size + 1) [.pointer none, .pointer (some ⟨w.heap.size, 0, none⟩)] 29 := Blk.newAt _ _ _ (by simp)
  have hb : Below w.heap.size w ((w.alloc (.cells #[.pointer none, .int .i64 0, .int .u64 0] 33)).alloc (.cells #[.pointer none, .pointer (some ⟨w.heap.size, 0, none⟩)] 29)) := ((Below.refl _ w).alloc (Nat.le_refl _) _).alloc (by simp) _
  obtain ⟨W2, hW2⟩ : ∃ W2, W2 = ((w.alloc (.cells #[.pointer none, .int .i64 0, .int .u64 0] 33)).alloc (.cells #[.pointer none, .pointer (some ⟨w.heap.size, 0, none⟩)] 29)) := ⟨_, rfl⟩
  rw [← hW2] at k0 k1 hb
  have HW2 := kept hW2
  clear hW2
  have q0 := k1.cell (j := 0) rfl
  have q1 := k1.cell (j := 1) rfl
  have hno : NoJ W2 w.heap.size := ⟨k0.cell (j := 0) rfl, k0.cell (j := 2) rfl⟩
  have CA0 := kept (add_nil X l.length c W2)
  have CC0 := kept (ck_nil X l.length c W2)
  have CG0 := kept (gen_nil W2)
  have CA1 := kept (add_no w.heap.size X l.length c W2 hno)
  have CC1 := kept (ck_no w.heap.size X l.length c W2 hno)
  have CG1 := kept (gen_no w.heap.size W2 hno)
  have CO := kept (open_nil W2)
  have CW := kept (works_any W2 (hT.next hb))
  have HB := kept hb
  clear hb k0 k1 hno
  go_enter Tryd.func4, Tryd.ntmps4
  go_wp2_with fail
  rw [← HW2.out]
  go_loopw [13] (fun i wr => ∃ j : Nat, j ≤ 2 ∧ i = .int .i64 (j : Int) ∧ wr = W2) (fun i _ => 2 - (intOf i).toNat)
  case atStart => exact ⟨0, by omega, rfl, rfl⟩
  case round =>
    obtain ⟨j, hj, rfl, rfl⟩ := hrel
    have hj3 : j = 0 ∨ j = 1 ∨ j = 2 := by omega
    rcases hj3 with rfl | rfl | rfl
    · go_wp2_with fail
      refine CA0.out.mono ?_
      rintro e w' ⟨rfl, rfl⟩
      go_wp2_with fail
      refine CC0.out.mono ?_
      rintro e w' ⟨rfl, rfl⟩
      go_wp2_with fail
      refine CG0.out.mono ?_
      rintro e w' ⟨rfl, rfl⟩
      go_wp2_with fail
      exact ⟨⟨1, by omega, rfl, trivial⟩, by simp [intOf]⟩
    · go_wp2_with fail
      refine CA1.out.mono ?_
      rintro e w' ⟨rfl, rfl⟩
      go_wp2_with fail
      refine CC1.out.mono ?_
      rintro e w' ⟨rfl, rfl⟩
      go_wp2_with fail
      refine CG1.out.mono ?_
      rintro e w' ⟨rfl, rfl⟩
      go_wp2_with fail
      exact ⟨⟨2, by omega, rfl, trivial⟩, by simp [intOf]⟩
    · go_wp2_with fail
      refine CO.out.mono ?_
      rintro e w' ⟨rfl, rfl⟩
      go_wp2_with fail
      refine CW.out.mono ?_
      rintro e w3 ⟨rfl, hb3⟩
      have HF := kept (HB.out.trans (hb3.mono HB.out.size))
      clear hb3
      go_wp2_with fail
      go_ret
      exact ⟨rfl, HF.out⟩
end Go.Proofs.YtdlghabpnpbebaaDoor.Jrn
