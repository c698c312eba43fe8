/- Layer 22 (disk): the chapter's example. -/
import Derived.Test.YtenkccfglmkdmaaDiskNone
import Derived.Deep.DeepCutAuto
import Derived.Lib.SlBytesConst
namespace Go.Proofs.Ytenkccfglmkdmaa.Disk
open Go.RowKit Go.Proofs.Ytenkccfglmkdmaa.Mem

theorem app_lit (S : Nat → Prop) (g : Nat) (d : DS) (a b : Nat) (w : World) (h : Dsk w S g d) (ha : a < 256) (hb : b < 256) :
    Calls Try.prog 9 #[.pointer (some ⟨g, 0, none⟩), .int .i64 0, .slice (some ⟨w.heap.size, 0, none⟩) 2 2] (w.alloc (.cells #[.int .u8 (a : Int), .int .u8 (b : Int)] 5 (2, 3))) (Does S g w (d.appM 0 [a, b]).1 (.int .i64 ((d.appM 0 [a, b]).2 : Int))) := by
  have hB : Below w.heap.size w (w.alloc (.cells #[.int .u8 (a : Int), .int .u8 (b : Int)] 5 (2, 3))) := (Below.refl _ _).alloc (Nat.le_refl _) _
  have hg : g < w.heap.size := h.under g h.2.1
  refine (app_any S g d 0 _ 2 2 [a, b] _ (h.next hB) (by decide) ?_ rfl ((Rd.marked w [.int .u8 (a : Int), .int .u8 (b : Int)] 5 (2, 3)).more (by simp)) ?_ (by simp)).mono fun e w' k => k.then hB
  · intro x hx
    rcases List.mem_cons.1 hx with rfl | hx
    · exact ha
    · rcases List.mem_cons.1 hx with rfl | hx
      · exact hb
      · cases hx
  · intro x hx _
    obtain rfl := Option.some.inj hx
    show w.heap.size ≠ g
    omega
theorem works_any (w : World) : Calls Try.prog 7 #[] w fun e w' => e = .returned (.bool true) ∧ Below w.heap.size w w' := by
  have kc := fun (w : World) (C : Array Value) (n c : Nat) => Lib.run_convert_bytes_const (P := Try.prog) w 22 5 C n c Try.underlying22 Try.underlying5
  have C1 := kept (new_any 9 w)
  have m0 : newD 9 = ⟨[], 0, [], 0, 9, -1, false⟩ := rfl
  have m1 : DS.appM ⟨[], 0, [], 0, 9, -1, false⟩ 0 [97, 98] = (⟨[97, 98], 0, [], 0, 9, -1, false⟩, 0) := rfl
  have m2 : DS.syncM ⟨[97, 98], 0, [], 0, 9, -1, false⟩ 0 = (⟨[97, 98], 2, [], 0, 9, -1, false⟩, 0) := rfl
  have m3 : DS.appM ⟨[97, 98], 2, [], 0, 9, -1, false⟩ 0 [99, 100] = (⟨[97, 98, 99, 100], 2, [], 0, 9, -1, false⟩, 0) := rfl
  have m4 : DS.crashM ⟨[97, 98, 99, 100], 2, [], 0, 9, -1, false⟩ 1 true = ⟨[97, 98, 98], 3, [], 0, 9, -1, false⟩ := rfl
  have m5 : DS.readM ⟨[97, 98, 98], 3, [], 0, 9, -1, false⟩ 0 = [97, 98, 98] := rfl
  rw [m0] at C1
  have M1 := kept m1
  have M2 := kept m2
  have M3 := kept m3
  have M4 := kept m4
  have M5 := kept m5
  clear m0 m1 m2 m3 m4 m5
  go_enter Try.func7, Try.ntmps7
  go_wp2_with fail
  refine C1.out.mono ?_
  rintro e w1 ⟨rfl, hd, hb⟩
  have HB1 := kept hb
  have C2 := app_lit _ _ _ 97 98 w1 hd (by decide) (by decide)
  rw [M1.out] at C2
  have C2 := kept C2
  clear hb hd
  go_wp2_with fail
  refine C2.out.mono ?_
  rintro e w2 ⟨rfl, S2, hd, hg⟩
  have HG2 := kept hg
  have C3 := sync_any _ _ _ 0 w2 hd (by decide)
  rw [M2.out] at C3
  have C3 := kept C3
  clear hg hd
  go_wp2_with fail
  refine C3.out.mono ?_
  rintro e w3 ⟨rfl, S3, hd, hg⟩
  have HG3 := kept (HG2.out.trans hg)
  have C4 := app_lit _ _ _ 99 100 w3 hd (by decide) (by decide)
  rw [M3.out] at C4
  have C4 := kept C4
  clear hg hd
  go_wp2_with fail
  refine C4.out.mono ?_
  rintro e w4 ⟨rfl, S4, hd, hg⟩
  have HG4 := kept (HG3.out.trans hg)
  have C5 := crash_any _ _ _ 1 true w4 hd
  rw [M4.out] at C5
  have C5 := kept C5
  clear hg hd
  go_wp2_with fail
  refine C5.out.mono ?_
  rintro e w5 ⟨rfl, S5, hd, hg⟩
  have HG5 := kept (HG4.out.trans hg)
  have C6 := read_any _ _ _ 0 w5 hd (by decide)
  rw [M5.out] at C6
  have C6 := kept C6
  have HD := kept hd
  clear hg hd
  go_wp2_with fail
  refine C6.out.mono ?_
  rintro e w6 ⟨A6, c6, rfl, hown6, -, hb6⟩
  have hrs := run_str w6 _ A6 3 c6 [97, 98, 98] rfl hown6.rd
  have hst : strB [97, 98, 98] = ⟨#[97, 98, 98]⟩ := rfl
  rw [hst] at hrs
  have C7 := kept (sure_any _ _ _ 0 w6 (HD.out.next hb6) (by decide))
  have HBF := kept ((HB1.out.trans ((HG5.out.below (B := w.heap.size) HB1.out.size (fun i hi => by omega)))).trans (hb6.mono (Nat.le_trans HB1.out.size HG5.out.1.size)))
  clear hown6 hst
  go_wp2_with fail
  refine C7.out.mono ?_
  rintro e w7 ⟨rfl, rfl⟩
  go_wp2
  go_ret
  exact ⟨rfl, HBF.out⟩
end Go.Proofs.Ytenkccfglmkdmaa.Disk
