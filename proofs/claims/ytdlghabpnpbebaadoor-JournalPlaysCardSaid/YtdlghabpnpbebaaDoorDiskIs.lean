/- Layer 22 (disk): the walk of Is: a disk has what the document's has. -/
import Derived.Test.YtdlghabpnpbebaaDoorDiskRefs
namespace Go.Proofs.YtdlghabpnpbebaaDoor.Disk
open Go.RowKit Go.Proofs.YtdlghabpnpbebaaDoor.Mem

/-- the document's disk in a block of its own -/
def Bx (w wr : World) (d : DS) : Prop := Below w.heap.size w wr ∧ Blk wr w.heap.size (rL d) 55
theorem Bx.next {w wr wx : World} {d : DS} (h : Bx w wr d) (hb : Below wr.heap.size wr wx) : Bx w wx d := ⟨h.1.trans (hb.mono h.1.size), h.2.next hb⟩
set_option maxHeartbeats 4000000 in
theorem is_ref (S : Nat → Prop) (g : Nat) (d : DS) (w : World) (h : Dsk w S g d) :
    Calls Tryd.prog 30 #[.pointer (some ⟨g, 0, none⟩), rV d] w fun e w' => e = .returned (.int .i64 1) ∧ Below w.heap.size w w' := by
  have HI : Kept (Bx w (w.alloc (.cells (rL d).toArray 55)) d) := ⟨(Below.refl _ _).alloc (Nat.le_refl _) _, Blk.new w _ _⟩
  have hok := h.ok
  have hus := hok.2.2.2.2.1
  unfold DS.used at hus
  have CR0 := kept (fun (W : World) (hb : Below w.heap.size w W) => read_any S g d 0 W (h.next hb) (by decide))
  have CR1 := kept (fun (W : World) (hb : Below w.heap.size w W) => read_any S g d 1 W (h.next hb) (by decide))
  have CS0 := kept (fun (W : World) (hb : Below w.heap.size w W) => sure_any S g d 0 W (h.next hb) (by decide))
  have CS1 := kept (fun (W : World) (hb : Below w.heap.size w W) => sure_any S g d 1 W (h.next hb) (by decide))
  have CU := kept (fun (W : World) (hb : Below w.heap.size w W) => used_any S g d W (h.next hb))
  have CD := kept (fun (W : World) (hb : Below w.heap.size w W) => down_any S g d W (h.next hb))
  rw [show d.readM 0 = d.b0 from rfl] at CR0
  rw [show d.readM 1 = d.b1 from rfl] at CR1
  rw [show (if isF 0 = true then d.s 0 else 0) = d.s0 from rfl] at CS0
  rw [show (if isF 1 = true then d.s 1 else 0) = d.s1 from rfl] at CS1
  rw [show d.used = d.b0.length + d.b1.length from rfl] at CU
  show Calls Tryd.prog 30 #[.pointer (some ⟨g, 0, none⟩), .agg #[.string (strB d.b0), .string (strB d.b1), .int .i64 (d.s0 : Int), .int .i64 (d.s1 : Int), .int .i64 (d.room : Int), .int .i64 d.fuse, .bool d.down]] w _
  clear h hok
  go_enter Tryd.func30, Tryd.ntmps30
  go_wp2
  go_loopw [5] (fun i wr => ∃ j : Nat, j ≤ 2 ∧ i = .int .i64 (j : Int) ∧ Kept (Bx w wr d)) (fun i _ => 2 - (intOf i).toNat)
  case atStart => exact ⟨0, by omega, rfl, HI⟩
  case round =>
    obtain ⟨j, hj, rfl, hin⟩ := hrel
    have hj3 : j = 0 ∨ j = 1 ∨ j = 2 := by omega
    clear HI
    rcases hj3 with rfl | rfl | rfl
    · have z0 : wr.cell? ⟨w.heap.size, 0, none⟩ = some (.string (strB d.b0)) := hin.out.2.cell rfl
      have z1 : wr.cell? ⟨w.heap.size, 2, none⟩ = some (.int .i64 (d.s0 : Int)) := hin.out.2.cell rfl
      have hlt := hin.out.2.lt
      have hb0 : Below wr.heap.size wr wr.drew := (Below.refl _ _).drew
      have HC : Kept (∀ W, Below wr.heap.size wr W → W.cell? ⟨w.heap.size, 0, none⟩ = some (.string (strB d.b0)) ∧ W.cell? ⟨w.heap.size, 2, none⟩ = some (.int .i64 (d.s0 : Int))) := ⟨fun W hb => ⟨(hin.out.next hb).2.cell rfl, (hin.out.next hb).2.cell rfl⟩⟩
      have CR := kept (fun (W : World) (hb : Below wr.heap.size wr W) => CR0.out W (hin.out.next hb).1)
      have CS := kept (fun (W : World) (hb : Below wr.heap.size wr W) => CS0.out W (hin.out.next hb).1)
      have hbeq : ((strB d.b0).toList == (strB d.b0).toList) = true := by simp
      have CV := kept (fun (W : World) (B : Nat) (X : Option Addr) (cc : Nat) (h : Rd W B X (BB d.b0)) => run_str W B X _ cc d.b0 rfl h)
      go_upto_region 4 with (fail)
      go_cut [28] (fun p wx => p = .bool false ∧ Below wr.heap.size wr wx)
      case first =>
        go_region_with (first
          | (go_at_call 32; refine (CR.out _ (by assumption)).mono ?_; rintro e6 w6 ⟨A6, c6, rfl, ho6, -, hb6⟩; have hb6' : Below wr.heap.size wr w6 := bnext (by assumption) hb6; have t1 := CV.out w6 _ A6 c6 ho6.rd; obtain ⟨t2, t3⟩ := HC.out w6 hb6')
          | (go_at_call 50; refine (CS.out _ (by assumption)).mono ?_; rintro e7 w7 ⟨rfl, rfl⟩))
        all_goals (go_wp2; go_meet)
        all_goals exact ⟨rfl, by assumption⟩
      obtain ⟨rfl, hcd⟩ := hcut
      have HB := kept (hin.out.next hcd)
      clear hcd CR CS HC
      go_wp2
      go_roundw
      case rel => exact ⟨1, by omega, rfl, HB⟩
      case measure => simp [intOf]
    · have z0 : wr.cell? ⟨w.heap.size, 1, none⟩ = some (.string (strB d.b1)) := hin.out.2.cell rfl
      have z1 : wr.cell? ⟨w.heap.size, 3, none⟩ = some (.int .i64 (d.s1 : Int)) := hin.out.2.cell rfl
      have hlt := hin.out.2.lt
      have hb0 : Below wr.heap.size wr wr.drew := (Below.refl _ _).drew
      have HC : Kept (∀ W, Below wr.heap.size wr W → W.cell? ⟨w.heap.size, 1, none⟩ = some (.string (strB d.b1)) ∧ W.cell? ⟨w.heap.size, 3, none⟩ = some (.int .i64 (d.s1 : Int))) := ⟨fun W hb => ⟨(hin.out.next hb).2.cell rfl, (hin.out.next hb).2.cell rfl⟩⟩
      have CR := kept (fun (W : World) (hb : Below wr.heap.size wr W) => CR1.out W (hin.out.next hb).1)
      have CS := kept (fun (W : World) (hb : Below wr.heap.size wr W) => CS1.out W (hin.out.next hb).1)
      have hbeq : ((strB d.b1).toList == (strB d.b1).toList) = true := by simp
      have CV := kept (fun (W : World) (B : Nat) (X : Option Addr) (cc : Nat) (h : Rd W B X (BB d.b1)) => run_str W B X _ cc d.b1 rfl h)
      go_upto_region 4 with (fail)
      go_cut [28] (fun p wx => p = .bool false ∧ Below wr.heap.size wr wx)
      case first =>
        go_region_with (first
          | (go_at_call 32; refine (CR.out _ (by assumption)).mono ?_; rintro e6 w6 ⟨A6, c6, rfl, ho6, -, hb6⟩; have hb6' : Below wr.heap.size wr w6 := bnext (by assumption) hb6; have t1 := CV.out w6 _ A6 c6 ho6.rd; obtain ⟨t2, t3⟩ := HC.out w6 hb6')
          | (go_at_call 50; refine (CS.out _ (by assumption)).mono ?_; rintro e7 w7 ⟨rfl, rfl⟩))
        all_goals (go_wp2; go_meet)
        all_goals exact ⟨rfl, by assumption⟩
      obtain ⟨rfl, hcd⟩ := hcut
      have HB := kept (hin.out.next hcd)
      clear hcd CR CS HC
      go_wp2
      go_roundw
      case rel => exact ⟨2, by omega, rfl, HB⟩
      case measure => simp [intOf]
    · have z0 : wr.cell? ⟨w.heap.size, 0, none⟩ = some (.string (strB d.b0)) := hin.out.2.cell rfl
      have z1 : wr.cell? ⟨w.heap.size, 1, none⟩ = some (.string (strB d.b1)) := hin.out.2.cell rfl
      have z6 : wr.cell? ⟨w.heap.size, 6, none⟩ = some (.bool d.down) := hin.out.2.cell rfl
      have hlt := hin.out.2.lt
      have hsum : (d.b0.length : Int) + (d.b1.length : Int) = ((strB d.b0).size : Int) + ((strB d.b1).size : Int) := by rw [strB_size, strB_size]
      have hm : ((strB d.b0).size : Int) + ((strB d.b1).size : Int) ≤ 1048576 := by rw [strB_size, strB_size]; omega
      have hwr : IntKind.i64.wrap (((strB d.b0).size : Int) + ((strB d.b1).size : Int)) = ((strB d.b0).size : Int) + ((strB d.b1).size : Int) := by rw [IntKind.wrap_i64]; omega
      have CU2 := kept (fun q => CU.out (wr.drewN q) (hin.out.1.trans (below_draw _ _ q)))
      have CD2 : Kept (∀ q, Calls Tryd.prog 52 #[.pointer (some ⟨g, 0, none⟩)] (wr.drewN q) fun e w' => e = .returned (.bool d.down) ∧ w' = wr.drewN q) := ⟨fun q => (CD.out (wr.drewN q) (hin.out.1.trans (below_draw _ _ q))).mono fun _ _ h => ⟨h.1, h.2.symm⟩⟩
      go_upto_region 6 with (fail)
      go_quiet (first | (go_at_call 51; exact Calls.quiet_of (CU2.out _)) | (go_at_call 52; exact Calls.quiet_of_same (CD2.out _)))
      have hfin := hin.out.1.trans (below_draw w.heap.size wr nq)
      go_wp2
      go_ret
      exact ⟨rfl, hfin⟩
end Go.Proofs.YtdlghabpnpbebaaDoor.Disk
