import Derived.Test.YtfkfpanhbanljaaGreatDoorTwinIn
import Derived.Test.YtfkfpanhbanljaaGreatDoorSet40
import Derived.BigQuiet
import Derived.Deep.DeepCutAuto
import Derived.Test.YtfkfpanhbanljaaGreatDoorTwinWorks
import Derived.Test.YtfkfpanhbanljaaGreatDoorHeldCall
import Derived.Test.YtfkfpanhbanljaaGreatDoorSet13
/- Layer 47 (twin): in which group a contact is: the law's place. -/
namespace Go.Proofs.YtfkfpanhbanljaaGreatDoor.Twin
open Go.RowKit Go.Proofs.YtfkfpanhbanljaaGreatDoor.Mem Go.Proofs.YtfkfpanhbanljaaGreatDoor.Card

theorem getD_none {l : List Nat} {c : Nat} (h : ∀ j, j < l.length → l.getD j 0 ≠ c) : c ∉ l := fun hc => by
  obtain ⟨i, hi, rfl⟩ := List.mem_iff_getElem.1 hc
  exact h i hi (by simp [List.getD, hi])
theorem map_at {gs : List GrpM} {i : Nat} {h : List Nat} (hh : (gs.map GrpM.l)[i]? = some h) : ∃ g, gs[i]? = some g ∧ g.l = h := by
  rw [List.getElem?_map] at hh
  cases hg : gs[i]? with
  | none => rw [hg] at hh; cases hh
  | some g => rw [hg] at hh; exact ⟨g, rfl, Option.some.inj hh⟩
set_option maxRecDepth 100000 in
set_option maxHeartbeats 4000000 in
theorem place_any (A : Option Addr) (c : Nat) (gs : List GrpM) (cid : Nat) (w : World) (hg : RdG w A gs) (hl : gs.length ≤ 1000000) (hll : ∀ g ∈ gs, g.l.length ≤ 1000000) :
    Calls Tryz.prog 25 #[.slice A gs.length c, .int .u64 (cid : Int)] w fun e w' => e = .returned (.int .i64 (placeI (gs.map GrpM.l) cid)) ∧ w = w' := by
  have HG := kept hg
  have HLL := kept hll
  clear hg hll
  go_enter Tryz.func25, Tryz.ntmps25
  go_wp2_with fail
  go_loop [5] (fun a => ∃ i : Nat, i ≤ gs.length ∧ a = .int .i64 (i : Int) ∧ Kept (∀ j g, j < i → gs[j]? = some g → cid ∉ g.l)) (fun a => gs.length - (intOf a).toNat)
  case atStart => exact ⟨0, Nat.zero_le _, rfl, ⟨fun j g h => absurd h (Nat.not_lt_zero _)⟩⟩
  case round =>
    obtain ⟨i, hi, rfl, HB⟩ := hrel
    by_cases hlt : i < gs.length
    · have hin : (i : Int) < (gs.length : Int) := by omega
      obtain ⟨g, hg⟩ : ∃ g, gs[i]? = some g := ⟨_, List.getElem?_eq_getElem hlt⟩
      obtain ⟨b1, o1, rfl, hb1, x0⟩ := grpE_get HG.out.1 hg
      have HRG := kept (HG.out.2 g (List.mem_of_getElem? hg))
      have hgl := HLL.out g (List.mem_of_getElem? hg)
      have HF : Kept (cid ∈ g.l → placeI (gs.map GrpM.l) cid = (i : Int)) := ⟨fun hc => place_found _ cid i g.l (fun j h hj hh => by
        obtain ⟨q, hq, rfl⟩ := map_at hh
        exact HB.out j q hj hq) (by rw [List.getElem?_map, hg]; rfl) hc⟩
      have HNX : Kept (cid ∉ g.l → ∀ j q, j < i + 1 → gs[j]? = some q → cid ∉ q.l) := ⟨fun hc j q hj hq => by
        rcases Nat.lt_succ_iff_lt_or_eq.1 hj with h | rfl
        · exact HB.out j q h hq
        · rw [hg] at hq
          obtain rfl := Option.some.inj hq
          exact hc⟩
      obtain ⟨gA, gl, gc⟩ := g
      unfold GrpM.val at x0
      dsimp only at x0 HRG hgl HF HNX
      clear hg HB
      go_wp2_with fail
      go_loop [6] (fun a => ∃ k : Nat, k ≤ gl.length ∧ a = .int .i64 (k : Int) ∧ Kept (∀ j, j < k → gl.getD j 0 ≠ cid)) (fun a => gl.length - (intOf a).toNat)
      case atStart => exact ⟨0, Nat.zero_le _, rfl, ⟨fun j h => absurd h (Nat.not_lt_zero _)⟩⟩
      case round =>
        obtain ⟨k, hk, rfl, HK⟩ := hrel
        by_cases hkl : k < gl.length
        · have hkn : (k : Int) < (gl.length : Int) := by omega
          obtain ⟨b3, o3, rfl, -, x2⟩ := HRG.out.at_ (WB_get gl k hkl)
          have HM : Kept (gl.getD k 0 ∈ gl) := ⟨by simp [List.getD, hkl]⟩
          have HKN : Kept (gl.getD k 0 ≠ cid → ∀ j, j < k + 1 → gl.getD j 0 ≠ cid) := ⟨fun hne j hj => by
            rcases Nat.lt_succ_iff_lt_or_eq.1 hj with h | rfl
            · exact HK.out j h
            · exact hne⟩
          generalize gl.getD k 0 = v at *
          by_cases hv : v = cid
          · subst hv
            have e2 : ((v : Int) == (v : Int)) = true := by simp
            go_wp2_with fail
            go_ret
            exact ⟨by rw [HF.out HM.out]; rfl, rfl⟩
          · have e2 : ((v : Int) == (cid : Int)) = false := by simp; omega
            have HK2 := kept (HKN.out hv)
            have hvi : ¬ (v : Int) = (cid : Int) := by omega
            clear HKN
            go_wp2_with fail
            go_round
            case rel => exact ⟨k + 1, by omega, by go_num, HK2⟩
            case measure => simp [intOf]; omega
        · obtain rfl : k = gl.length := by omega
          have hge : ¬ (gl.length : Int) < (gl.length : Int) := by omega
          have HX := kept (HNX.out (getD_none HK.out))
          go_wp2_with fail
          go_round
          case rel => exact ⟨i + 1, by omega, by go_num, HX⟩
          case measure => simp [intOf]; omega
    · obtain rfl : i = gs.length := by omega
      have hge : ¬ (gs.length : Int) < (gs.length : Int) := by omega
      have HN : Kept (placeI (gs.map GrpM.l) cid = -1) := ⟨place_none _ _ fun h hh => by
        obtain ⟨q, hq, rfl⟩ := List.mem_map.1 hh
        obtain ⟨j, hj, e⟩ := List.mem_iff_getElem.1 hq
        exact HB.out j q hj (by rw [List.getElem?_eq_getElem hj, e])⟩
      go_wp2_with fail
      go_ret
      exact ⟨by rw [HN.out]; rfl, rfl⟩
end Go.Proofs.YtfkfpanhbanljaaGreatDoor.Twin

/- Layer 47 (twin): the law TwinOrder. (printed by tools/gento.py) -/
namespace Go.Proofs.YtfkfpanhbanljaaGreatDoor.Twin
open Go.RowKit Go.Proofs.YtfkfpanhbanljaaGreatDoor.Mem Go.Proofs.YtfkfpanhbanljaaGreatDoor.Card Go.Proofs.YtfkfpanhbanljaaGreatDoor.Fold Go.Proofs.YtfkfpanhbanljaaGreatDoor.Laid

theorem groups_bound {n : Nat} {cid R : Nat → Nat} {gs : List GrpM} (h : gs.map GrpM.l = sortG (groupsL n cid R)) : gs.length ≤ n ∧ ∀ g ∈ gs, g.l.length ≤ n := by
  have hp := sortG_perm (groupsL n cid R)
  constructor
  · have h1 := congrArg List.length h
    rw [List.length_map, hp.length_eq] at h1
    rw [h1]
    unfold groupsL
    exact Nat.le_trans (List.length_filter_le _ _) (by simp)
  · intro g hg
    have h1 : g.l ∈ sortG (groupsL n cid R) := by rw [← h]; exact List.mem_map_of_mem hg
    have h2 := hp.mem_iff.1 h1
    unfold groupsL at h2
    obtain ⟨m, -, h3⟩ := List.mem_map.1 (List.mem_filter.1 h2).1
    rw [← h3, class_inG]
    exact Nat.le_trans (norm_len _) (inG_len _ _ _ _)
theorem same_symm (x y : ByteArray) : Phone.sameB x y = Phone.sameB y x := Phone.same_comm _ _
theorem small_of {l : List CardM} (hf : fewT l) (ht : ∀ y ∈ l, ∀ u ∈ y.ls, ∀ q ∈ u.m, q.size ≤ 140737488355000) : ∀ x ∈ l, SmallK x := fun x hx => by
  have h := hf.2.2 x hx
  exact ⟨h.1, fun z hz => ⟨by have := (h.2 z hz).1; omega, (h.2 z hz).2, ht x hx z hz⟩⟩
theorem turn_tmod {n i f : Nat} (hi : i < n) : Int.tmod ((n : Int) - 1 - (i : Int) + (f : Int)) (n : Int) = ((turnP n f i : Nat) : Int) := by
  rw [show (n : Int) - 1 - (i : Int) + (f : Int) = ((n - 1 - i + f : Nat) : Int) by omega]
  unfold turnP
  exact (Int.ofNat_tmod _ _).symm
end Go.Proofs.YtfkfpanhbanljaaGreatDoor.Twin
