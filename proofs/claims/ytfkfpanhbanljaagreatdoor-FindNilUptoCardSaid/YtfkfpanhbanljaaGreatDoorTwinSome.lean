/- Layer 47 (twin): whether some texts fit each other. (printed by tools/gents.py) -/
import Derived.Test.YtfkfpanhbanljaaGreatDoorSet25
import Derived.Test.YtfkfpanhbanljaaGreatDoorSet33
import Derived.Test.YtfkfpanhbanljaaGreatDoorTwinTexts
namespace Go.Proofs.YtfkfpanhbanljaaGreatDoor.Twin
open Go.RowKit Go.Proofs.YtfkfpanhbanljaaGreatDoor.Mem Go.Proofs.YtfkfpanhbanljaaGreatDoor.Card

/-- does some text of one list fit one of the other? -/
def someM (p : ByteArray → ByteArray → Bool) (a b : List ByteArray) : Bool := a.any fun x => b.any fun y => p x y
theorem take_any {α : Type} (p : α → Bool) {l : List α} {k : Nat} {x : α} (hx : l[k]? = some x) : (l.take (k + 1)).any p = ((l.take k).any p || p x) := by
  obtain ⟨h1, h2⟩ := List.getElem?_eq_some_iff.1 hx
  rw [List.take_succ_eq_append_getElem h1, h2, List.any_append]
  simp
set_option maxRecDepth 100000 in
theorem some_phone (A B : Option Addr) (a b : List ByteArray) (ca cb : Nat) (w : World) (ha : strE.Rd w w.heap.size A a) (hb : strE.Rd w w.heap.size B b) (hla : a.length ≤ 100000) (hlb : b.length ≤ 100000) (sa : ∀ x ∈ a, x.size ≤ 140737488355000) (sb : ∀ x ∈ b, x.size ≤ 140737488355000) :
    Calls Tryz.prog 41 #[.slice A a.length ca, .slice B b.length cb, .func (.func 43) #[] #[]] w fun e w' => e = .returned (.bool (someM Phone.sameB a b)) ∧ Below w.heap.size w w' := by
  have HA := kept ha
  have HB := kept hb
  have SA := kept sa
  have SB := kept sb
  clear ha hb sa sb
  go_enter Tryz.func41, Tryz.ntmps41
  go_wp2_with fail
  go_loopw [13] (fun i wr => ∃ k : Nat, k ≤ a.length ∧ i = .int .i64 (k : Int) ∧ Kept ((a.take k).any (fun x => b.any fun y => Phone.sameB x y) = false) ∧ Kept (Below w.heap.size w wr)) (fun i _ => a.length - (intOf i).toNat)
  case atStart => exact ⟨0, Nat.zero_le _, rfl, ⟨rfl⟩, ⟨Below.refl _ _⟩⟩
  case round =>
    obtain ⟨k, hk, rfl, HN, HW⟩ := hrel
    by_cases hlt : k < a.length
    · obtain ⟨x, hx⟩ : ∃ x, a[k]? = some x := ⟨_, List.getElem?_eq_getElem hlt⟩
      obtain ⟨b1, o1, rfl, hb1, hc1⟩ := HA.out.at_ hx
      have x0 := (HW.out.cell (p := ⟨b1, o1 + (k * 1 + 0), none⟩) hb1).trans (hc1 0 _ rfl)
      rw [Nat.mul_one, Nat.add_zero] at x0
      have hkn : (k : Int) < (a.length : Int) := by omega
      have HTK := kept (take_any (fun x => b.any fun y => Phone.sameB x y) hx)
      have HSM : Kept (∀ y, y ∈ b → Phone.sameB x y = true → someM Phone.sameB a b = true) := ⟨fun y hy hp => List.any_eq_true.2 ⟨x, List.mem_of_getElem? hx, List.any_eq_true.2 ⟨y, hy, hp⟩⟩⟩
      have sx := SA.out x (List.mem_of_getElem? hx)
      clear hc1 hx
      go_wp2_with fail
      go_loopw [19] (fun i wr2 => ∃ j : Nat, j ≤ b.length ∧ i = .int .i64 (j : Int) ∧ Kept ((b.take j).any (fun y => Phone.sameB x y) = false) ∧ Kept (Below w.heap.size w wr2)) (fun i _ => b.length - (intOf i).toNat)
      case atStart => exact ⟨0, Nat.zero_le _, rfl, ⟨rfl⟩, HW⟩
      case round =>
        clear HW x0
        obtain ⟨j, hj, rfl, HJ, HW⟩ := hrel
        by_cases hlj : j < b.length
        · obtain ⟨y, hy⟩ : ∃ y, b[j]? = some y := ⟨_, List.getElem?_eq_getElem hlj⟩
          obtain ⟨b2, o2, rfl, hb2, hc2⟩ := HB.out.at_ hy
          have y0 := (HW.out.cell (p := ⟨b2, o2 + (j * 1 + 0), none⟩) hb2).trans (hc2 0 _ rfl)
          rw [Nat.mul_one, Nat.add_zero] at y0
          have hjn : (j : Int) < (b.length : Int) := by omega
          have HTJ := kept (take_any (fun y => Phone.sameB x y) hy)
          have HSY := kept (HSM.out y (List.mem_of_getElem? hy))
          have CP := kept (Phone.same_any x y wr sx (SB.out y (List.mem_of_getElem? hy)))
          clear hc2 hy
          generalize hp : Phone.sameB x y = p at *
          clear hp
          go_wp2_with fail
          refine CP.out.mono ?_
          rintro e w1 ⟨rfl, hbx⟩
          have HW1 := kept (HW.out.trans (hbx.mono HW.out.size))
          clear hbx CP y0 HW
          cases p with
          | true =>
            have HR := kept (HSY.out rfl)
            go_wp2_with fail
            go_ret
            rw [HR.out]
            exact ⟨rfl, HW1.out⟩
          | false =>
            have HJ2 : Kept ((b.take (j + 1)).any (fun y => Phone.sameB x y) = false) := ⟨by rw [HTJ.out, HJ.out]; rfl⟩
            clear HTJ HJ
            go_wp2_with fail
            go_roundw
            case rel => exact ⟨j + 1, by omega, by go_num, HJ2, HW1⟩
            case measure => simp [intOf]; omega
        · obtain rfl : j = b.length := by omega
          have HN2 : Kept ((a.take (k + 1)).any (fun x => b.any fun y => Phone.sameB x y) = false) := ⟨by
            have h1 := HJ.out
            rw [List.take_length] at h1
            rw [HTK.out, HN.out, h1]; rfl⟩
          clear HTK HN HJ
          go_wp2_with fail
          go_roundw
          case rel => exact ⟨k + 1, by omega, by go_num, HN2, HW⟩
          case measure => simp [intOf]; omega
    · obtain rfl : k = a.length := by omega
      have HR : Kept (someM Phone.sameB a b = false) := ⟨by
        have h1 := HN.out
        rw [List.take_length] at h1
        exact h1⟩
      go_wp2_with fail
      go_ret
      rw [HR.out]
      exact ⟨rfl, HW.out⟩
set_option maxRecDepth 100000 in
theorem some_mail (A B : Option Addr) (a b : List ByteArray) (ca cb : Nat) (w : World) (ha : strE.Rd w w.heap.size A a) (hb : strE.Rd w w.heap.size B b) (hla : a.length ≤ 100000) (hlb : b.length ≤ 100000) (sa : ∀ x ∈ a, x.size ≤ 140737488355000) (sb : ∀ x ∈ b, x.size ≤ 140737488355000) :
    Calls Tryz.prog 41 #[.slice A a.length ca, .slice B b.length cb, .func (.func 44) #[] #[]] w fun e w' => e = .returned (.bool (someM mailB a b)) ∧ Below w.heap.size w w' := by
  have HA := kept ha
  have HB := kept hb
  have SA := kept sa
  have SB := kept sb
  clear ha hb sa sb
  go_enter Tryz.func41, Tryz.ntmps41
  go_wp2_with fail
  go_loopw [13] (fun i wr => ∃ k : Nat, k ≤ a.length ∧ i = .int .i64 (k : Int) ∧ Kept ((a.take k).any (fun x => b.any fun y => mailB x y) = false) ∧ Kept (Below w.heap.size w wr)) (fun i _ => a.length - (intOf i).toNat)
  case atStart => exact ⟨0, Nat.zero_le _, rfl, ⟨rfl⟩, ⟨Below.refl _ _⟩⟩
  case round =>
    obtain ⟨k, hk, rfl, HN, HW⟩ := hrel
    by_cases hlt : k < a.length
    · obtain ⟨x, hx⟩ : ∃ x, a[k]? = some x := ⟨_, List.getElem?_eq_getElem hlt⟩
      obtain ⟨b1, o1, rfl, hb1, hc1⟩ := HA.out.at_ hx
      have x0 := (HW.out.cell (p := ⟨b1, o1 + (k * 1 + 0), none⟩) hb1).trans (hc1 0 _ rfl)
      rw [Nat.mul_one, Nat.add_zero] at x0
      have hkn : (k : Int) < (a.length : Int) := by omega
      have HTK := kept (take_any (fun x => b.any fun y => mailB x y) hx)
      have HSM : Kept (∀ y, y ∈ b → mailB x y = true → someM mailB a b = true) := ⟨fun y hy hp => List.any_eq_true.2 ⟨x, List.mem_of_getElem? hx, List.any_eq_true.2 ⟨y, hy, hp⟩⟩⟩
      have sx := SA.out x (List.mem_of_getElem? hx)
      clear hc1 hx
      go_wp2_with fail
      go_loopw [19] (fun i wr2 => ∃ j : Nat, j ≤ b.length ∧ i = .int .i64 (j : Int) ∧ Kept ((b.take j).any (fun y => mailB x y) = false) ∧ Kept (Below w.heap.size w wr2)) (fun i _ => b.length - (intOf i).toNat)
      case atStart => exact ⟨0, Nat.zero_le _, rfl, ⟨rfl⟩, HW⟩
      case round =>
        clear HW x0
        obtain ⟨j, hj, rfl, HJ, HW⟩ := hrel
        by_cases hlj : j < b.length
        · obtain ⟨y, hy⟩ : ∃ y, b[j]? = some y := ⟨_, List.getElem?_eq_getElem hlj⟩
          obtain ⟨b2, o2, rfl, hb2, hc2⟩ := HB.out.at_ hy
          have y0 := (HW.out.cell (p := ⟨b2, o2 + (j * 1 + 0), none⟩) hb2).trans (hc2 0 _ rfl)
          rw [Nat.mul_one, Nat.add_zero] at y0
          have hjn : (j : Int) < (b.length : Int) := by omega
          have HTJ := kept (take_any (fun y => mailB x y) hy)
          have HSY := kept (HSM.out y (List.mem_of_getElem? hy))
          have CP := kept (mail_any x y wr sx (SB.out y (List.mem_of_getElem? hy)))
          clear hc2 hy
          generalize hp : mailB x y = p at *
          clear hp
          go_wp2_with fail
          refine CP.out.mono ?_
          rintro e w1 ⟨rfl, hbx⟩
          have HW1 := kept (HW.out.trans (hbx.mono HW.out.size))
          clear hbx CP y0 HW
          cases p with
          | true =>
            have HR := kept (HSY.out rfl)
            go_wp2_with fail
            go_ret
            rw [HR.out]
            exact ⟨rfl, HW1.out⟩
          | false =>
            have HJ2 : Kept ((b.take (j + 1)).any (fun y => mailB x y) = false) := ⟨by rw [HTJ.out, HJ.out]; rfl⟩
            clear HTJ HJ
            go_wp2_with fail
            go_roundw
            case rel => exact ⟨j + 1, by omega, by go_num, HJ2, HW1⟩
            case measure => simp [intOf]; omega
        · obtain rfl : j = b.length := by omega
          have HN2 : Kept ((a.take (k + 1)).any (fun x => b.any fun y => mailB x y) = false) := ⟨by
            have h1 := HJ.out
            rw [List.take_length] at h1
            rw [HTK.out, HN.out, h1]; rfl⟩
          clear HTK HN HJ
          go_wp2_with fail
          go_roundw
          case rel => exact ⟨k + 1, by omega, by go_num, HN2, HW⟩
          case measure => simp [intOf]; omega
    · obtain rfl : k = a.length := by omega
      have HR : Kept (someM mailB a b = false) := ⟨by
        have h1 := HN.out
        rw [List.take_length] at h1
        exact h1⟩
      go_wp2_with fail
      go_ret
      rw [HR.out]
      exact ⟨rfl, HW.out⟩
end Go.Proofs.YtfkfpanhbanljaaGreatDoor.Twin
