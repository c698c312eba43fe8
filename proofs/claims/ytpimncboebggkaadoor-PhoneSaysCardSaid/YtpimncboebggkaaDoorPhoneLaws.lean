/- The laws of layer 46. -/
import Derived.Test.YtpimncboebggkaaDoorPhoneBoth
import Derived.Deep.RegionWith
namespace Go.Proofs.YtpimncboebggkaaDoor.Phone
open Go.RowKit Go.Proofs.YtpimncboebggkaaDoor.Mem Go.Proofs.YtpimncboebggkaaDoor.Card Go.Proofs.YtpimncboebggkaaDoor.Laid Go.Proofs.YtpimncboebggkaaDoor.Fold

def exS : ByteArray := ⟨#[48, 48, 52, 57, 32, 40, 51, 48, 41, 32, 49, 50, 51, 45, 52, 53, 32, 54, 55]⟩
def exN : ByteArray := ⟨#[43, 52, 57, 51, 48, 49, 50, 51, 52, 53, 54, 55]⟩
def exO : ByteArray := ⟨#[48, 51, 48, 32, 49, 50, 51, 52, 53, 54, 55]⟩
theorem exs_norm : norm exS.data.toList = some exN.data.toList := by decide +kernel
theorem exs_same : sameB exN exO = true := by decide +kernel
theorem works_any (w : World) : Calls Tryd.prog 12 #[] w fun e w' => e = .returned (.bool true) ∧ Below w.heap.size w w' := by
  have C1 := norm_any exS w (by decide)
  obtain ⟨e1, e2⟩ := normB_some exs_norm
  rw [e1, e2, bOf_data] at C1
  have C2 := fun (W : World) => same_any exN exO W (by decide) (by decide)
  rw [exs_same] at C2
  unfold exS exN at C1
  unfold exN exO at C2
  have C1 := kept C1
  have C2 := kept C2
  clear e1 e2
  go_enter Tryd.func12, Tryd.ntmps12
  go_wp2_with fail
  refine C1.out.mono ?_
  rintro e w1 ⟨rfl, hb1⟩
  go_wp2_with fail
  refine (C2.out _).mono ?_
  rintro e w2 ⟨rfl, hb2⟩
  have hb2 := below_ch hb1 hb2
  go_wp2_with fail
  go_ret
  exact ⟨rfl, hb2⟩
theorem says_law (a b : ByteArray) (w : World) (hsa : a.size ≤ 9223372036854775807) (hsb : b.size ≤ 9223372036854775807) : Calls Tryd.prog 4 #[.string a, .string b] w fun e w' => e = .returned (.bool true) ∧ Below w.heap.size w w' := by
  have W0 := kept (fun (W : World) => works_any W)
  by_cases h1 : a.size ≤ 300
  · by_cases h2 : b.size ≤ 300
    · have K1 := kept (fun (W : World) => norm_any a W (by omega))
      have K2 := kept (fun (W : World) => rnorm_any a W (by omega))
      have K3 := kept (fun (W : World) => same_any a b W (by omega) (by omega))
      have K4 := kept (fun (W : World) => rsame_any a b W (by omega) (by omega))
      have h1' : ¬ 300 < a.size := by omega
      have h2' : ¬ 300 < b.size := by omega
      generalize normB a = x at *
      generalize normOk a = xo at *
      generalize sameB a b = r at *
      go_enter Tryd.func4, Tryd.ntmps4
      go_wp2_with fail
      refine (K1.out _).mono ?_
      rintro e w1 ⟨rfl, hb1⟩
      go_wp2_with fail
      refine (K2.out _).mono ?_
      rintro e w2 ⟨rfl, hw2⟩
      subst hw2
      go_wp2_with fail
      refine (K3.out _).mono ?_
      rintro e w3 ⟨rfl, hb3⟩
      have hb3 := below_ch hb1 hb3
      go_wp2_with fail
      refine (K4.out _).mono ?_
      rintro e w4 ⟨rfl, hb4⟩
      have hb4 := below_ch hb3 hb4
      go_wp2_with fail
      refine (W0.out _).mono ?_
      rintro e w5 ⟨rfl, hb5⟩
      have hb5 := below_ch hb4 hb5
      go_wp2_with fail
      go_ret
      exact ⟨rfl, hb5⟩
    · have h1' : ¬ 300 < a.size := by omega
      have h2' : 300 < b.size := by omega
      go_enter Tryd.func4, Tryd.ntmps4
      go_wp2_with fail
      refine (W0.out _).mono ?_
      rintro e w10 ⟨rfl, hb10⟩
      go_wp2_with fail
      go_ret
      exact ⟨rfl, hb10⟩
  · have h1' : 300 < a.size := by omega
    go_enter Tryd.func4, Tryd.ntmps4
    go_wp2_with fail
    refine (W0.out _).mono ?_
    rintro e w10 ⟨rfl, hb10⟩
    go_wp2_with fail
    go_ret
    exact ⟨rfl, hb10⟩
theorem forms_law (a b : ByteArray) (n : Nat) (w : World) (hn : n < 256) (hsa : a.size ≤ 9223372036854775807) (hsb : b.size ≤ 9223372036854775807) : Calls Tryd.prog 5 #[.string a, .string b, .int .u8 (n : Int)] w fun e w' => e = .returned (.bool true) ∧ Below w.heap.size w w' := by
  have W0 := kept (fun (W : World) => works_any W)
  by_cases h1 : a.size ≤ 300
  · by_cases h2 : b.size ≤ 300
    · have h1' : ¬ 300 < a.size := by omega
      have h2' : ¬ 300 < b.size := by omega
      have K1 := kept (fun (W : World) => norm_any a W (by omega))
      have Kab := kept (fun (W : World) => same_any a b W (by omega) (by omega))
      have Kba := fun (W : World) => same_any b a W (by omega) (by omega)
      have hcomm : sameB b a = sameB a b := same_comm _ _
      rw [hcomm] at Kba
      have Kba := kept Kba
      clear hcomm
      cases hN : norm a.data.toList with
      | none =>
        obtain ⟨e1, e2⟩ := normB_none hN
        rw [e1, e2] at K1
        have Kaa := fun (W : World) => same_any a a W (by omega) (by omega)
        have hs : sameB a a = false := same_none hN
        rw [hs] at Kaa
        have Kaa := kept Kaa
        generalize sameB a b = r at *
        clear hN hs e1 e2
        go_enter Tryd.func5, Tryd.ntmps5
        go_wp2_with fail
        refine (Kab.out _).mono ?_
        rintro e w1 ⟨rfl, hb1⟩
        go_wp2_with fail
        refine (Kba.out _).mono ?_
        rintro e w2 ⟨rfl, hb2⟩
        have hb2 := below_ch hb1 hb2
        go_wp2_with fail
        refine (K1.out _).mono ?_
        rintro e w3 ⟨rfl, hb3⟩
        have hb3 := below_ch hb2 hb3
        go_wp2_with fail
        refine (Kaa.out _).mono ?_
        rintro e w4 ⟨rfl, hb4⟩
        have hb4 := below_ch hb3 hb4
        go_wp2_with fail
        refine (W0.out _).mono ?_
        rintro e w5 ⟨rfl, hb5⟩
        have hb5 := below_ch hb4 hb5
        go_wp2_with fail
        go_ret
        exact ⟨rfl, hb5⟩
      | some x =>
        obtain ⟨e1, e2⟩ := normB_some hN
        rw [e1, e2] at K1
        have hnf := norm_nf hN
        obtain ⟨hl3, hl16⟩ := nf_length hnf
        have hxs := bOf_size x
        have K2 := fun (W : World) => norm_any (bOf x) W (by rw [bOf_size]; omega)
        obtain ⟨e3, e4⟩ := normB_some (s := bOf x) (x := x) (by rw [data_bOf]; exact nf_norm hnf)
        rw [e3, e4] at K2
        have K2 := kept K2
        have hkl : n % (x.length - 1) < x.length - 1 := Nat.mod_lt _ (by omega)
        have hki : (n : Int) % ((x.length : Int) - 1) = ((n % (x.length - 1) : Nat) : Int) := by
          rw [Int.natCast_emod]
          congr 1
          omega
        generalize n % (x.length - 1) = j at hkl hki
        have hex1 : (bOf x).extract 0 (j + 1) = bOf (x.take (j + 1)) := bOf_extract x (j + 1)
        have hex2 : (bOf x).extract (j + 1) x.length = bOf (x.drop (j + 1)) := by
          apply ByteArray.ext
          simp [bOf]
          exact List.take_of_length_le (by simp)
        have hz : norm (32 :: (x.take (j + 1) ++ sep ++ x.drop (j + 1))) = some x := nf_between hnf (by omega) (by omega)
        have hzb : (⟨#[32]⟩ : ByteArray) ++ bOf (x.take (j + 1)) ++ (⟨#[32, 45, 46, 47, 40, 41]⟩ : ByteArray) ++ bOf (x.drop (j + 1)) = bOf (32 :: (x.take (j + 1) ++ sep ++ x.drop (j + 1))) := by
          have e5 : (⟨#[32]⟩ : ByteArray) = bOf [32] := rfl
          have e6 : (⟨#[32, 45, 46, 47, 40, 41]⟩ : ByteArray) = bOf sep := rfl
          rw [e5, e6, bOf_app, bOf_app, bOf_app]
          simp
        have K3 := fun (W : World) => norm_any (bOf (32 :: (x.take (j + 1) ++ sep ++ x.drop (j + 1)))) W (by rw [bOf_size]; simp [sep]; omega)
        obtain ⟨e7, e8⟩ := normB_some (s := bOf (32 :: (x.take (j + 1) ++ sep ++ x.drop (j + 1)))) (x := x) (by rw [data_bOf]; exact hz)
        rw [e7, e8, ← hzb] at K3
        have K3 := kept K3
        have Kax := fun (W : World) => same_any a (bOf x) W (by omega) (by rw [bOf_size]; omega)
        have hs1 : sameB a (bOf x) = true := by unfold sameB; rw [data_bOf]; exact same_self hN
        rw [hs1] at Kax
        have Kax := kept Kax
        have Kxb := fun (W : World) => same_any (bOf x) b W (by rw [bOf_size]; omega) (by omega)
        have hs2 : sameB (bOf x) b = sameB a b := by unfold sameB; rw [data_bOf]; exact (same_norm hN _).symm
        rw [hs2] at Kxb
        have Kxb := kept Kxb
        have hz1 : (⟨#[32]⟩ : ByteArray).size = 1 := rfl
        have hz6 : (⟨#[32, 45, 46, 47, 40, 41]⟩ : ByteArray).size = 6 := rfl
        have ht1 : (bOf (x.take (j + 1))).size ≤ 16 := by rw [bOf_size]; simp; omega
        have ht2 : (bOf (x.drop (j + 1))).size ≤ 16 := by rw [bOf_size]; simp; omega
        have hc1 : ¬ 9223372036854775807 < (⟨#[32]⟩ : ByteArray).size + (bOf (x.take (j + 1))).size := by omega
        have hc2 : ¬ 9223372036854775807 < ((⟨#[32]⟩ : ByteArray) ++ bOf (x.take (j + 1))).size + (⟨#[32, 45, 46, 47, 40, 41]⟩ : ByteArray).size := by rw [ByteArray.size_append]; omega
        have hc3 : ¬ 9223372036854775807 < ((⟨#[32]⟩ : ByteArray) ++ bOf (x.take (j + 1)) ++ (⟨#[32, 45, 46, 47, 40, 41]⟩ : ByteArray)).size + (bOf (x.drop (j + 1))).size := by rw [ByteArray.size_append, ByteArray.size_append]; omega
        have hd1 : ¬ 9223372036854775807 < 1 + (bOf (x.take (j + 1))).size := by omega
        have hd2 : ¬ 9223372036854775807 < 1 + (bOf (x.take (j + 1))).size + 6 := by omega
        have hd3 : ¬ 9223372036854775807 < 1 + (bOf (x.take (j + 1))).size + 6 + (bOf (x.drop (j + 1))).size := by omega
        have hi1 : (0 : Int) ≤ 1 + (j : Int) := by omega
        have hi2 : 1 + (j : Int) ≤ (x.length : Int) := by omega
        have hi3 : (1 + (j : Int)).toNat = j + 1 := by omega
        have hi4 : (2 : Int) ≤ (x.length : Int) - 1 := by omega
        generalize sameB a b = r at *
        clear hN hs1 hs2 e1 e2 e3 e4 e7 e8 hz hzb hnf hz1 hz6 ht1 ht2
        go_enter Tryd.func5, Tryd.ntmps5
        go_wp2_with fail
        refine (Kab.out _).mono ?_
        rintro e w1 ⟨rfl, hb1⟩
        go_wp2_with fail
        refine (Kba.out _).mono ?_
        rintro e w2 ⟨rfl, hb2⟩
        have hb2 := below_ch hb1 hb2
        go_wp2_with fail
        refine (K1.out _).mono ?_
        rintro e w3 ⟨rfl, hb3⟩
        have hb3 := below_ch hb2 hb3
        go_wp2_with fail
        refine (K2.out _).mono ?_
        rintro e w4 ⟨rfl, hb4⟩
        have hb4 := below_ch hb3 hb4
        go_wp2_with fail
        have hbd : Below w.heap.size w w4.drew := hb4.drew
        go_region_with (go_at_call 13; refine (K3.out _).mono ?_; rintro e w5 ⟨rfl, hb5⟩; have hb5 := below_ch hbd hb5)
        go_wp2_with fail
        refine (Kax.out _).mono ?_
        rintro e w6 ⟨rfl, hb6⟩
        have hb6 := below_ch hb5 hb6
        go_wp2_with fail
        refine (Kab.out _).mono ?_
        rintro e w7 ⟨rfl, hb7⟩
        have hb7 := below_ch hb6 hb7
        go_wp2_with fail
        refine (Kxb.out _).mono ?_
        rintro e w8 ⟨rfl, hb8⟩
        have hb8 := below_ch hb7 hb8
        go_wp2_with fail
        refine (W0.out _).mono ?_
        rintro e w9 ⟨rfl, hb9⟩
        have hb9 := below_ch hb8 hb9
        go_wp2_with fail
        go_ret
        exact ⟨rfl, hb9⟩
    · have h1' : ¬ 300 < a.size := by omega
      have h2' : 300 < b.size := by omega
      go_enter Tryd.func5, Tryd.ntmps5
      go_wp2_with fail
      refine (W0.out _).mono ?_
      rintro e w10 ⟨rfl, hb10⟩
      go_wp2_with fail
      go_ret
      exact ⟨rfl, hb10⟩
  · have h1' : 300 < a.size := by omega
    go_enter Tryd.func5, Tryd.ntmps5
    go_wp2_with fail
    refine (W0.out _).mono ?_
    rintro e w10 ⟨rfl, hb10⟩
    go_wp2_with fail
    go_ret
    exact ⟨rfl, hb10⟩
end Go.Proofs.YtpimncboebggkaaDoor.Phone
