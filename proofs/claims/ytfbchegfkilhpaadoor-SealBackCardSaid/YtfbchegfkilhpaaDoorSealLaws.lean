/- The laws of layer 5, as walks. -/
import Derived.Test.YtfbchegfkilhpaaDoorSealWalksB
import Derived.Test.YtfbchegfkilhpaaDoorSealWalksC
import Derived.Test.YtfbchegfkilhpaaDoorSpoil
import Derived.Deep.QuietTactic
import Derived.BigQuiet
namespace Go.Proofs.YtfbchegfkilhpaaDoor.Seal
open Go.RowKit Go.Proofs.YtfbchegfkilhpaaDoor.Mem Go.Proofs.YtfbchegfkilhpaaDoor.Crc

theorem sealed7 : sealed 7 [] = [7, 46, 122, 102, 76] := by decide +kernel
theorem spoilt7 : spoilt [7, 46, 122, 102, 76] (firstBit [7, 46, 122, 102, 76] 0) 1 = [6, 46, 122, 102, 76] := by decide +kernel
theorem works_any (w : World) (hT : Tab w) : Calls Tryd.prog 22 #[] w fun e w' => e = .returned (.bool true) ∧ Below w.heap.size w w' := by
  have k7 : AllB [7, 46, 122, 102, 76] := all_lit (by decide)
  have k6 : AllB [6, 46, 122, 102, 76] := all_lit (by decide)
  have kt : AllB [46, 122, 102, 76] := all_lit (by decide)
  have c1 := seal_any 7 none 0 0 [] w rfl hT (by decide) (fun x hx => by cases hx) Rd.nil (by simp)
  rw [sealed7] at c1
  have c2 := fun (A : Option Addr) (c : Nat) (W : World) (hr : Rd W W.heap.size A (BB [7, 46, 122, 102, 76])) => spoil_any A 5 c [7, 46, 122, 102, 76] 0 1 W rfl hr k7 (by decide) (by decide) (by decide)
  rw [spoilt7] at c2
  have C2 := Lib.hid c2
  have C1 := Lib.hid c1
  clear c1 c2
  go_enter Tryd.func22, Tryd.ntmps22
  go_wp2_with fail
  refine C1.out.mono ?_
  rintro e w1 ⟨A1, c1, rfl, hown1, hc1, hb1⟩
  have hr1 := hown1.rd
  go_wp2_with fail
  refine (C2.out _ _ _ hr1).mono ?_
  rintro e w2 ⟨A2, c2, rfl, hown2, hc2, hb2⟩
  have hb12 := below_next hb1 hb2
  have hr2 := hown2.rd
  have hr1' := (hr1.below hb2).more hb2.size
  obtain ⟨b1, o1, rfl, _, he1⟩ := hr1' (by simp [BB])
  obtain ⟨b2, o2, rfl, _, he2⟩ := hr2 (by simp [BB])
  have g1 := he1 0 (.int .u8 7) rfl
  have g2 := he2 0 (.int .u8 6) rfl
  have hd1 := hr1'.drop 1 c1 5 (by decide) hc1 rfl
  have hd2 := hr2.drop 1 c2 5 (by decide) hc2 rfl
  have n1 : ¬ c1 = 1 := by have : 5 ≤ c1 := hc1; omega
  have n2 : ¬ c2 = 1 := by have : 5 ≤ c2 := hc2; omega
  rw [if_neg n1] at hd1
  rw [if_neg n2] at hd2
  have hd1' : Rd w2 w2.heap.size (some ⟨b1, o1 + 1, none⟩) (BB [46, 122, 102, 76]) := hd1
  have hd2' : Rd w2 w2.heap.size (some ⟨b2, o2 + 1, none⟩) (BB [46, 122, 102, 76]) := hd2
  simp only [Nat.add_zero] at g1 g2
  have hc15 : 5 ≤ c1 := hc1
  have hc25 : 5 ≤ c2 := hc2
  have EQ := Lib.hid (fun n => equal_any (w2.drewN n) w2.heap.size w2.heap.size (some ⟨b1, o1 + 1, none⟩) (some ⟨b2, o2 + 1, none⟩) 4 4 (c1 - 1) (c2 - 1) [46, 122, 102, 76] [46, 122, 102, 76] rfl rfl kt kt (hd1'.drewN n) (hd2'.drewN n))
  clear hd1 hd2 hd1' hd2' he1 he2 hr1 hr1' hr2 hown1 hown2 hc1 hc2 C1 C2 hb2 hb1
  go_wp2_with fail
  go_quiet ((go_at_call 18; exact Calls.quiet_of_same ((EQ.out _).mono fun _ _ h => ⟨h.1, h.2.symm⟩)))
  go_wp2
  go_ret
  exact ⟨rfl, below_drewN hb12 _⟩
theorem says_law (A : Option Addr) (c : Nat) (l : List Nat) (at_ : Int) (m : Nat) (w : World) (hT : Tab w) (hA : Ok w A l) (hm : m < 4294967296) (hsz : l.length ≤ 140737488351232) :
    Calls Tryd.prog 7 #[.slice A l.length c, .int .i64 at_, .int .u32 (m : Int)] w fun e w' => e = .returned (.bool true) ∧ Below w.heap.size w w' := by
  have hk : (m : Int) % 256 = ((m % 256 : Nat) : Int) := by omega
  have hkl : m % 256 < 256 := by omega
  have HT := Lib.hid (fun (W : World) (h : Below w.heap.size w W) => hT.next h)
  have HA := Lib.hid (fun (W : World) (h : Below w.heap.size w W) => hA.next h)
  have hsa := sealed_all (k := m % 256) hkl hA.2.1
  have hsl := sealed_length (m % 256) l
  generalize m % 256 = k at *
  have C3 := Lib.hid (fun (W : World) (h : Below w.heap.size w W) => seal_any k A l.length c l W rfl (HT.out _ h) hkl hA.2.1 (HA.out _ h).1 (by omega))
  have C4 := Lib.hid (fun (W : World) (h : Below w.heap.size w W) => rseal_any k A l.length c l W rfl hkl hA.2.1 (HA.out _ h).1 (by omega))
  have W6 := Lib.hid (fun (W : World) (h : Below w.heap.size w W) => works_any W (HT.out _ h))
  generalize sealed k l = sl at *
  have HSL := Lib.hid hsl
  clear hsl
  by_cases h0 : 0 < l.length
  · have hspa : AllB (spoilt l (firstBit l at_) m) := spoilt_all _ _ _
    have hspl := spoilt_length l (firstBit l at_) m
    have c1 := rspoil_any A l.length c l at_ m w rfl hA.1 hA.2.1 hm h0 (by omega)
    have c2 := fun (W : World) (h : Below w.heap.size w W) => spoil_any A l.length c l at_ m W rfl (HA.out _ h).1 hA.2.1 hm h0 (by omega)
    unfold Turns at c1
    generalize spoilt l (firstBit l at_) m = sp at *
    have C1 := Lib.hid c1
    have C2 := Lib.hid c2
    have HSP := Lib.hid hspl
    clear c1 c2 hspl
    go_enter Tryd.func7, Tryd.ntmps7
    go_wp2_with fail
    refine C1.out.mono ?_
    rintro e w1 ⟨A1, c1, cnt, rfl, _, hown1, hc1, hb1⟩
    rw [hk]
    go_wp2_with fail
    refine (C3.out _ hb1).mono ?_
    rintro e w2 ⟨A2, c2, rfl, hown2, _, hb2⟩
    have hb12 := below_next hb1 hb2
    go_wp2_with fail
    refine (C4.out _ hb12).mono ?_
    rintro e w3 ⟨A3, c3, rfl, hown3, _, hb3⟩
    have hb13 := below_next hb12 hb3
    go_wp2_with fail
    refine (equal_any _ _ _ _ _ _ _ _ _ sl sl rfl rfl hsa hsa (hown2.rd.below hb3) hown3.rd).mono ?_
    rintro e w' ⟨rfl, rfl⟩
    go_wp2_with fail
    refine (C2.out _ hb13).mono ?_
    rintro e w4 ⟨A4, c4, rfl, hown4, _, hb4⟩
    have hb14 := below_next hb13 hb4
    go_wp2_with fail
    refine (equal_any _ _ _ _ _ _ _ _ _ sp sp rfl HSP.out.symm hspa hspa hown4.rd (hown1.rd.below ((hb2.trans (hb3.mono hb2.size)).trans (hb4.mono (Nat.le_trans hb2.size hb3.size))))).mono ?_
    rintro e w' ⟨rfl, rfl⟩
    go_wp2_with fail
    refine (W6.out _ hb14).mono ?_
    rintro e w6 ⟨rfl, hb6⟩
    go_wp2_with fail
    go_ret
    exact ⟨rfl, below_next hb14 hb6⟩
  · obtain rfl : l = [] := List.eq_nil_of_length_eq_zero (by omega)
    go_enter Tryd.func7, Tryd.ntmps7
    go_wp2_with fail
    refine (rspoil_nil A c at_ m _).mono ?_
    rintro e w' ⟨rfl, rfl⟩
    rw [hk]
    go_wp2_with fail
    refine (C3.out _ (Below.refl _ _)).mono ?_
    rintro e w2 ⟨A2, c2, rfl, hown2, _, hb12⟩
    go_wp2_with fail
    refine (C4.out _ hb12).mono ?_
    rintro e w3 ⟨A3, c3, rfl, hown3, _, hb3⟩
    have hb13 := below_next hb12 hb3
    go_wp2_with fail
    refine (equal_any _ _ _ _ _ _ _ _ _ sl sl rfl rfl hsa hsa (hown2.rd.below hb3) hown3.rd).mono ?_
    rintro e w' ⟨rfl, rfl⟩
    go_wp2_with fail
    refine (spoil_nil A c at_ m _).mono ?_
    rintro e w4 ⟨rfl, hb4⟩
    have hb14 := below_next hb13 hb4
    go_wp2_with fail
    refine (equal_any _ 0 0 none none _ _ _ _ [] [] rfl rfl (fun x hx => by cases hx) (fun x hx => by cases hx) Rd.nil Rd.nil).mono ?_
    rintro e w' ⟨rfl, rfl⟩
    go_wp2_with fail
    refine (W6.out _ hb14).mono ?_
    rintro e w6 ⟨rfl, hb6⟩
    go_wp2_with fail
    go_ret
    exact ⟨rfl, below_next hb14 hb6⟩
end Go.Proofs.YtfbchegfkilhpaaDoor.Seal
