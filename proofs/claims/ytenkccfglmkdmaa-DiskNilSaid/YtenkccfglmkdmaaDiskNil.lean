/- Layer 22 (disk): the law DiskNil. -/
import Derived.Test.YtenkccfglmkdmaaDiskWorks
import Derived.Deep.RegionWith
namespace Go.Proofs.Ytenkccfglmkdmaa.Disk
open Go.RowKit Go.Proofs.Ytenkccfglmkdmaa.Mem

theorem app_max (l : List Nat) (h : l.length ≤ 1000) : (newD 1048576).appM 0 l = (⟨l, 0, [], 0, 1048576, -1, false⟩, 0) := by
  have e : newD 1048576 = ⟨[], 0, [], 0, 1048576, -1, false⟩ := rfl
  rw [e]
  unfold DS.appM
  rw [if_pos (show isF 0 = true from rfl)]
  have hb : DS.burn ⟨[], 0, [], 0, 1048576, -1, false⟩ = ⟨[], 0, [], 0, 1048576, -1, false⟩ := rfl
  rw [hb, if_neg (by simp), if_neg (by simp [DS.used]; omega)]
  rfl
set_option maxHeartbeats 4000000 in
theorem nil_law (n : Int) (A : Option Addr) (c : Nat) (l : List Nat) (w : World) (hl : AllB l) (hr : Rd w w.heap.size A (BB l)) (hle : l.length ≤ 9223372036854775807) :
    Calls Try.prog 6 #[.int .i64 n, .slice A l.length c] w fun e w' => e = .returned (.bool true) ∧ Below w.heap.size w w' := by
  have CW := kept (fun W => works_any W)
  have HR := kept (fun W (h : Below w.heap.size w W) => hr.next h)
  have HL := kept hl
  clear hr hl
  go_enter Try.func6, Try.ntmps6
  go_wp2
  have hb1 : Below w.heap.size w ((w.alloc (.cells #[.bool false, .bool false, .slice none 0 0, .int .i64 0, .slice none 0 0, .int .i64 0, .int .i64 0, .int .i64 0] 60)).alloc (.cells #[.pointer none, .pointer (some ⟨w.heap.size, 0, none⟩)] 24)) := ((Below.refl _ _).alloc (Nat.le_refl _) _).alloc (by simp) _
  have c0 : ((w.alloc (.cells #[.bool false, .bool false, .slice none 0 0, .int .i64 0, .slice none 0 0, .int .i64 0, .int .i64 0, .int .i64 0] 60)).alloc (.cells #[.pointer none, .pointer (some ⟨w.heap.size, 0, none⟩)] 24)).cell? ⟨w.heap.size + 1, 0, none⟩ = some (.pointer none) := (Blk.newAt (w.alloc (.cells #[.bool false, .bool false, .slice none 0 0, .int .i64 0, .slice none 0 0, .int .i64 0, .int .i64 0, .int .i64 0] 60)) [.pointer none, .pointer (some ⟨w.heap.size, 0, none⟩)] 24 (g := w.heap.size + 1) (by simp)).cell (j := 0) rfl
  have c1 : ((w.alloc (.cells #[.bool false, .bool false, .slice none 0 0, .int .i64 0, .slice none 0 0, .int .i64 0, .int .i64 0, .int .i64 0] 60)).alloc (.cells #[.pointer none, .pointer (some ⟨w.heap.size, 0, none⟩)] 24)).cell? ⟨w.heap.size + 1, 1, none⟩ = some (.pointer (some ⟨w.heap.size, 0, none⟩)) := (Blk.newAt (w.alloc (.cells #[.bool false, .bool false, .slice none 0 0, .int .i64 0, .slice none 0 0, .int .i64 0, .int .i64 0, .int .i64 0] 60)) [.pointer none, .pointer (some ⟨w.heap.size, 0, none⟩)] 24 (g := w.heap.size + 1) (by simp)).cell (j := 1) rfl
  have cz : ((w.alloc (.cells #[.bool false, .bool false, .slice none 0 0, .int .i64 0, .slice none 0 0, .int .i64 0, .int .i64 0, .int .i64 0] 60)).alloc (.cells #[.pointer none, .pointer (some ⟨w.heap.size, 0, none⟩)] 24)).cell? ⟨w.heap.size, 0, none⟩ = some (.bool false) := ((Blk.new w [.bool false, .bool false, .slice none 0 0, .int .i64 0, .slice none 0 0, .int .i64 0, .int .i64 0, .int .i64 0] 60).alloc _).cell (j := 0) rfl
  generalize ((w.alloc (.cells #[.bool false, .bool false, .slice none 0 0, .int .i64 0, .slice none 0 0, .int .i64 0, .int .i64 0, .int .i64 0] 60)).alloc (.cells #[.pointer none, .pointer (some ⟨w.heap.size, 0, none⟩)] 24)) = w1 at *
  have HB1 := kept hb1
  have N0 := kept (show NoD (.pointer none) w1 from .inl rfl)
  have N1 := kept (show NoD (.pointer (some ⟨w.heap.size, 0, none⟩)) w1 from .inr ⟨_, rfl, cz⟩)
  clear hb1 cz
  go_loop [17] (fun i => ∃ j : Nat, j ≤ 2 ∧ i = .int .i64 (j : Int)) (fun i => 2 - (intOf i).toNat)
  case atStart => exact ⟨0, by omega, rfl⟩
  case round =>
    obtain ⟨j, hj, rfl⟩ := hrel
    have hj3 : j = 0 ∨ j = 1 ∨ j = 2 := by omega
    rcases hj3 with rfl | rfl | rfl
    · go_wp2_with (first | (refine (room_nod (.pointer none) n _ N0.out).mono ?_; rintro e w' ⟨rfl, rfl⟩) | (refine (fuse_nod (.pointer none) n _ N0.out).mono ?_; rintro e w' ⟨rfl, rfl⟩) | (refine (crash_nod (.pointer none) n true _ N0.out).mono ?_; rintro e w' ⟨rfl, rfl⟩) | (refine (app_nod (.pointer none) 0 _ _ _ _ N0.out (by decide)).mono ?_; rintro e w' ⟨rfl, rfl⟩) | (refine (sync_nod (.pointer none) 0 _ N0.out (by decide)).mono ?_; rintro e w' ⟨rfl, rfl⟩) | (refine (cut_nod (.pointer none) 0 0 _ N0.out).mono ?_; rintro e w' ⟨rfl, rfl⟩) | (refine (read_nod (.pointer none) 0 _ N0.out).mono ?_; rintro e w' ⟨rfl, rfl⟩) | (refine (sure_nod (.pointer none) 0 _ N0.out).mono ?_; rintro e w' ⟨rfl, rfl⟩) | (refine (used_nod (.pointer none) _ N0.out).mono ?_; rintro e w' ⟨rfl, rfl⟩) | (refine (down_nod (.pointer none) _ N0.out).mono ?_; rintro e w' ⟨rfl, rfl⟩) | (refine (copy_nod (.pointer none) _ N0.out).mono ?_; rintro e w' ⟨rfl, rfl⟩))
      go_round
      case rel => exact ⟨1, by omega, rfl⟩
      case measure => simp [intOf]
    · go_wp2_with (first | (refine (room_nod _ n _ N1.out).mono ?_; rintro e w' ⟨rfl, rfl⟩) | (refine (fuse_nod _ n _ N1.out).mono ?_; rintro e w' ⟨rfl, rfl⟩) | (refine (crash_nod _ n true _ N1.out).mono ?_; rintro e w' ⟨rfl, rfl⟩) | (refine (app_nod _ 0 _ _ _ _ N1.out (by decide)).mono ?_; rintro e w' ⟨rfl, rfl⟩) | (refine (sync_nod _ 0 _ N1.out (by decide)).mono ?_; rintro e w' ⟨rfl, rfl⟩) | (refine (cut_nod _ 0 0 _ N1.out).mono ?_; rintro e w' ⟨rfl, rfl⟩) | (refine (read_nod _ 0 _ N1.out).mono ?_; rintro e w' ⟨rfl, rfl⟩) | (refine (sure_nod _ 0 _ N1.out).mono ?_; rintro e w' ⟨rfl, rfl⟩) | (refine (used_nod _ _ N1.out).mono ?_; rintro e w' ⟨rfl, rfl⟩) | (refine (down_nod _ _ N1.out).mono ?_; rintro e w' ⟨rfl, rfl⟩) | (refine (copy_nod _ _ N1.out).mono ?_; rintro e w' ⟨rfl, rfl⟩))
      go_round
      case rel => exact ⟨2, by omega, rfl⟩
      case measure => simp [intOf]
    · clear c0 c1 N0 N1
      by_cases hbig : 1000 < l.length
      · go_wp2_with fail
        refine (CW.out _).mono ?_
        rintro e w2 ⟨rfl, hb2⟩
        have HB2 := kept (HB1.out.trans (hb2.mono HB1.out.size))
        go_wp2
        go_ret
        exact ⟨rfl, HB2.out⟩
      have C1 := kept (new_any 1048576 w1)
      go_wp2_with fail
      refine C1.out.mono ?_
      rintro e w2 ⟨rfl, hd, hb⟩
      have HB2 := kept (HB1.out.trans (hb.mono HB1.out.size))
      have HD2 := kept hd
      have hgw : w1.heap.size < w2.heap.size := hd.under _ rfl
      have O1 := kept (show Own (w2.alloc (.cells #[] 5)) w2.heap.size 5 (.slice (some ⟨w2.heap.size, 0, none⟩) 0 0) (BB []) from Own.new w2 w2.heap.size 5 [] (Nat.le_refl _) (by decide))
      have ba := kept ((Below.refl w2.heap.size w2).alloc (Nat.le_refl _) (.cells #[] 5))
      have hr2 := HR.out _ (HB2.out.trans (ba.out.mono HB2.out.size))
      have hz : ([] : List Nat).length + l.length ≤ 140737488355328 := by simp; omega
      clear hd hb
      go_wp2_with (at_builtin; refine wpl_app rfl (.tmp 73) (.tmp 74) rfl w2.heap.size _ [] rfl O1.out _ A _ c l rfl rfl hr2 hz (by simp) ?_; intro A3 c3 w3 r3 hr3 hown3 hg3 hb3)
      obtain rfl : r3 = l := hr3.out
      have hb23 : Below w2.heap.size w2 w3 := ba.out.trans hb3
      have hs23 := hb23.size
      have hd3 := HD2.out.next hb23
      have CA := app_any _ _ _ 0 A3 _ c3 r3 w3 hd3 (by decide) HL.out rfl hown3.rd (fun x hx _ => by have := (hown3.lt x.block (by subst hx; rfl)).1; omega) (by omega)
      rw [app_max r3 (by omega)] at CA
      have CA := kept CA
      have HB3 := kept (HB2.out.trans (hb23.mono HB2.out.size))
      have HO3 := kept hown3
      clear hr3 hg3 hb3 hr2 hz hb23 hd3 hown3
      go_wp2_with fail
      refine CA.out.mono ?_
      rintro e w4 ⟨rfl, S4, hd4, hg4⟩
      have hlo : ∀ k, (Value.slice A3 r3.length c3).ownBlock = some k → w2.heap.size ≤ k ∧ k < w3.heap.size := fun k hk => HO3.out.lt k hk
      have HS4 : Kept (∀ k, S4 k → ¬ (Value.slice A3 r3.length c3).ownBlock = some k) := ⟨fun k hk e => by
        have h1 := hlo k e
        rcases hg4.2 k hk with h2 | h2
        · omega
        · omega⟩
      have HSw : Kept (∀ k, S4 k → w.heap.size ≤ k) := ⟨fun k hk => by
        have h1 := HB1.out.size
        rcases hg4.2 k hk with h2 | h2
        · omega
        · have := HB3.out.size; omega⟩
      have HO4 := kept (HO3.out.upd hg4.1 fun k hk e => by have := hlo k hk; omega)
      have HB4 := kept (HB3.out.trans (hg4.1.below HB3.out.size (fun i _ h => by have := HB1.out.size; omega)))
      have HD4 := kept hd4
      have hb2w := HB2.out.size
      have hLo := kept hlo
      clear hd4 hg4 hlo CA
      go_wp2
      go_loopw [81] (fun i wr => ∃ (j : Nat) (r : List Nat), j ≤ r3.length ∧ i = .int .i64 (j : Int) ∧ Kept (r.length = r3.length) ∧ Kept (AllB r) ∧ Kept (Own wr w2.heap.size 5 (.slice A3 r3.length c3) (BB r)) ∧ Kept (Upd (fun k => (Value.slice A3 r3.length c3).ownBlock = some k) w4 wr)) (fun i _ => r3.length - (intOf i).toNat)
      case atStart => exact ⟨0, r3, Nat.zero_le _, rfl, ⟨rfl⟩, HL, HO4, ⟨Upd.refl _ _⟩⟩
      case round =>
        obtain ⟨j, r, hj, rfl, hrl, hra, ho, hu⟩ := hrel
        by_cases hlt : j < r3.length
        · obtain ⟨g', rfl, hg1, hg2, hc5, hf5, hs5⟩ := ho.out.spot (BB_get r j (by rw [hrl.out]; exact hlt))
          have hxb : r.getD j 0 < 256 := getD_lt8 hra.out (by rw [hrl.out]; exact hlt)
          obtain ⟨s1, s2⟩ := hs5 (.int .u8 (((r.getD j 0 + 1) % 256 : Nat) : Int))
          have HRL2 : Kept ((r.set j ((r.getD j 0 + 1) % 256)).length = r3.length) := ⟨by rw [List.length_set]; exact hrl.out⟩
          have HRA2 : Kept (AllB (r.set j ((r.getD j 0 + 1) % 256))) := ⟨fun x hx => by
            rcases List.mem_or_eq_of_mem_set hx with h1 | h1
            · exact hra.out x h1
            · rw [h1]; omega⟩
          have HO2 := kept (show Own (wr.setCell ⟨g', j, none⟩ (.int .u8 (((r.getD j 0 + 1) % 256 : Nat) : Int))) w2.heap.size 5 (.slice (some ⟨g', 0, none⟩) r3.length c3) (BB (r.set j ((r.getD j 0 + 1) % 256))) from by
            have : (BB r).set j (.int .u8 (((r.getD j 0 + 1) % 256 : Nat) : Int)) = BB (r.set j ((r.getD j 0 + 1) % 256)) := by unfold BB; rw [List.map_set]
            rw [← this]; exact s1)
          have HU2 := kept (hu.out.setCell (p := ⟨g', j, none⟩) (.inl rfl) (.int .u8 (((r.getD j 0 + 1) % 256 : Nat) : Int)))
          have hv : ((r.getD j 0 : Nat) : Int) + 1 = ((r.getD j 0 + 1 : Nat) : Int) := by omega
          clear s1 s2 hs5 hv
          generalize r.set j ((r.getD j 0 + 1) % 256) = rr at *
          generalize r.getD j 0 = x at *
          have hxm : (((x + 1) % 256 : Nat) : Int) = ((x : Int) + 1) % 256 := by omega
          rw [hxm] at HO2 HU2
          clear hxm
          go_wp2
          go_roundw
          case rel => exact ⟨j + 1, rr, by omega, by go_num, HRL2, HRA2, HO2, HU2⟩
          case measure => simp [intOf]; omega
        · have HDr := kept (HD4.out.upd hu.out HS4.out)
          have HSy := kept (fun k hk => Nat.lt_of_lt_of_le (HD4.out.under k hk) hu.out.size)
          have CR := read_any S4 _ _ 0 wr HDr.out (by decide)
          rw [show DS.readM ⟨r3, 0, [], 0, 1048576, -1, false⟩ 0 = r3 from rfl] at CR
          have CR := kept CR
          have HBy := kept (HB4.out.trans (hu.out.below (B := w.heap.size) HB4.out.size (fun i _ hi => by have := (hLo.out i hi).1; omega)))
          clear hu ho hra hrl
          obtain ⟨wy, rfl⟩ : ∃ x, x = wr := ⟨_, rfl⟩
          go_wp2_with fail
          refine CR.out.mono ?_
          rintro e w5 ⟨A5, c5', rfl, hown5, -, hb5⟩
          have HO5 := kept hown5
          have HB5 := kept hb5
          have hlo5 : ∀ k, (Value.slice A5 r3.length c5').ownBlock = some k → wy.heap.size ≤ k := fun k hk => (HO5.out.lt k hk).1
          have HLo5 := kept hlo5
          clear hown5 hb5 hlo5 CR
          go_wp2
          go_loopw [95] (fun i wr => ∃ (j : Nat) (r : List Nat), j ≤ r3.length ∧ i = .int .i64 (j : Int) ∧ Kept (r.length = r3.length) ∧ Kept (AllB r) ∧ Kept (Own wr wy.heap.size 5 (.slice A5 r3.length c5') (BB r)) ∧ Kept (Upd (fun k => (Value.slice A5 r3.length c5').ownBlock = some k) w5 wr)) (fun i _ => r3.length - (intOf i).toNat)
          case atStart => exact ⟨0, r3, Nat.zero_le _, rfl, ⟨rfl⟩, HL, HO5, ⟨Upd.refl _ _⟩⟩
          case round =>
            obtain ⟨j, r, hj, rfl, hrl, hra, ho, hu⟩ := hrel
            by_cases hlt : j < r3.length
            · obtain ⟨g', rfl, hg1, hg2, hc6, hf6, hs6⟩ := ho.out.spot (BB_get r j (by rw [hrl.out]; exact hlt))
              have hxb : r.getD j 0 < 256 := getD_lt8 hra.out (by rw [hrl.out]; exact hlt)
              obtain ⟨s1, s2⟩ := hs6 (.int .u8 (((r.getD j 0 + 1) % 256 : Nat) : Int))
              have HRL2 : Kept ((r.set j ((r.getD j 0 + 1) % 256)).length = r3.length) := ⟨by rw [List.length_set]; exact hrl.out⟩
              have HRA2 : Kept (AllB (r.set j ((r.getD j 0 + 1) % 256))) := ⟨fun x hx => by
                rcases List.mem_or_eq_of_mem_set hx with h1 | h1
                · exact hra.out x h1
                · rw [h1]; omega⟩
              have HO2 := kept (show Own (wr.setCell ⟨g', j, none⟩ (.int .u8 (((r.getD j 0 + 1) % 256 : Nat) : Int))) wy.heap.size 5 (.slice (some ⟨g', 0, none⟩) r3.length c5') (BB (r.set j ((r.getD j 0 + 1) % 256))) from by
                have : (BB r).set j (.int .u8 (((r.getD j 0 + 1) % 256 : Nat) : Int)) = BB (r.set j ((r.getD j 0 + 1) % 256)) := by unfold BB; rw [List.map_set]
                rw [← this]; exact s1)
              have HU2 := kept (hu.out.setCell (p := ⟨g', j, none⟩) (.inl rfl) (.int .u8 (((r.getD j 0 + 1) % 256 : Nat) : Int)))
              have hv : ((r.getD j 0 : Nat) : Int) + 1 = ((r.getD j 0 + 1 : Nat) : Int) := by omega
              clear s1 s2 hs6 hv
              generalize r.set j ((r.getD j 0 + 1) % 256) = rr at *
              generalize r.getD j 0 = x at *
              have hxm : (((x + 1) % 256 : Nat) : Int) = ((x : Int) + 1) % 256 := by omega
              rw [hxm] at HO2 HU2
              clear hxm
              go_wp2
              go_roundw
              case rel => exact ⟨j + 1, rr, by omega, by go_num, HRL2, HRA2, HO2, HU2⟩
              case measure => simp [intOf]; omega
            · have HBz : Kept (Below wy.heap.size wy wr) := ⟨HB5.out.trans (hu.out.below (B := wy.heap.size) HB5.out.size (fun i _ hi => HLo5.out i hi))⟩
              have HBw := kept (HBy.out.trans (HBz.out.mono HBy.out.size))
              have HDz := kept (HDr.out.next HBz.out)
              have CR2 := fun W (h : Below wr.heap.size wr W) => read_any S4 _ _ 0 W (HDz.out.next h) (by decide)
              rw [show DS.readM ⟨r3, 0, [], 0, 1048576, -1, false⟩ 0 = r3 from rfl] at CR2
              have CR2 := kept CR2
              have RA : ∀ W, Below wr.heap.size wr W → (convert 22 9 (.slice A r3.length c)).run Try.prog W = .ok (.string (strB r3)) W := fun W h => run_str W _ A r3.length c r3 rfl (HR.out W (HBw.out.trans (h.mono HBw.out.size)))
              have RA := kept RA
              have t0 := RA.out wr.drew (Below.refl _ _).drew
              have hse : ((strB r3).toList == (strB r3).toList) = true := by simp
              have HSE := kept hse
              have CV := kept (fun (W : World) (B : Nat) (X : Option Addr) (cc : Nat) (h : Rd W B X (BB r3)) => run_str W B X _ cc r3 rfl h)
              generalize strB r3 = sr at *
              clear hu ho hra hrl
              go_upto_region 26 with (fail)
              go_region_with (first
                | (go_at_call 13; refine (CR2.out _ ?_).mono ?_; (first | exact Below.refl _ _ | exact (Below.refl _ _).drew); rintro e6 w6 ⟨A6, c6, rfl, ho6, -, hb6⟩; have hb6' : Below wr.heap.size wr w6 := (by first | exact hb6 | exact ((Below.refl _ _).drew).trans hb6); have t1 := CV.out w6 _ A6 c6 ho6.rd; have t2 := RA.out w6 hb6')
                | (go_at_call 7; refine (CW.out _).mono ?_; rintro e7 w7 ⟨rfl, hb7⟩))
              all_goals
                go_wp2
                go_ret
                exact ⟨rfl, HBw.out.trans ((hb6'.mono HBw.out.size).trans (hb7.mono (Nat.le_trans HBw.out.size hb6'.size)))⟩
end Go.Proofs.Ytenkccfglmkdmaa.Disk
