/- Layer 22 (disk): the walk of the document's Crash. Printed by gendrf.py. -/
import Derived.Test.YtenkccfglmkdmaaDiskRefE
import Derived.Deep.DeepCutAuto
import Derived.BigQuiet
namespace Go.Proofs.Ytenkccfglmkdmaa.Mem
open Go.RowKit
/-- one cell stored in what is read -/
theorem Rd.put {w : World} {B b o j : Nat} {xs : List Value} {v : Value} (h : Rd w B (some ⟨b, o, none⟩) xs) (hj : j < xs.length) : Rd (w.setCell ⟨b, o + j, none⟩ v) B (some ⟨b, o, none⟩) (xs.set j v) := fun _ => by
  obtain ⟨b', o', he, hb, hc⟩ := h (by intro e; subst e; simp at hj)
  injection he with he
  injection he with h1 h2 h3
  subst h1 h2
  refine ⟨b, o, rfl, hb, fun i u hu => ?_⟩
  by_cases hij : j = i
  · subst hij
    rw [List.getElem?_set_self hj] at hu
    obtain rfl := Option.some.inj hu
    exact World.cell?_setCell_same _ _ _ (hc j xs[j] (List.getElem?_eq_getElem hj))
  · rw [List.getElem?_set_ne hij] at hu
    rw [World.cell?_setCell_other _ _ _ _ (by intro e; injection e with _ e2; omega)]
    exact hc i u hu
/-- []byte(s) of known bytes: a block of its own that may be written -/
theorem str_cells (w : World) (L : List Nat) (hL : AllB L) : ∃ c w', (convert 9 22 (.string (strB L))).run Try.prog w = .ok (.slice (some ⟨w.heap.size, 0, none⟩) L.length c) w' ∧
    Rd w' w'.heap.size (some ⟨w.heap.size, 0, none⟩) (BB L) ∧ Below w.heap.size w w' ∧ w.heap.size < w'.heap.size ∧ ∀ j, j < L.length → w'.frozen? ⟨w.heap.size, j, none⟩ = false := by
  have hz : (strB L).size = L.length := by simp [strB, ByteArray.size]
  have hs := Lib.bytesWorld_size w 5 (strB L)
  have hr := Lib.run_convert_string_bytes (P := Try.prog) w 9 22 5 (strB L) Try.underlying9 Try.underlying22 Try.underlying5
  rw [hz] at hr
  obtain ⟨c2, w2, h1, h2, h3, h4⟩ := str_bytes w (strB L)
  rw [hz, hr] at h1
  injection h1 with h5 h6
  rw [sB_strB hL] at h2
  subst h6
  refine ⟨_, _, hr, h2, h3, h4, fun j hj => ?_⟩
  unfold World.frozen?
  rw [Lib.bytesWorld_at_new]
  have : (Lib.bytesCells w 5 (strB L)).size = L.length + (grownCap w (strB L).size 0 5 - L.length) := by
    unfold Lib.bytesCells
    rw [Array.size_append, Array.size_map, Array.size_replicate, hz]
    rw [show (strB L).data.size = L.length from hz]
  simp only [this]
  simp
  omega
end Go.Proofs.Ytenkccfglmkdmaa.Mem
namespace Go.Proofs.Ytenkccfglmkdmaa.Disk
open Go.RowKit Go.Proofs.Ytenkccfglmkdmaa.Mem

theorem Rn.drewN {w W : World} {L Z : List Value} (h : Rn w W L Z) (q : Nat) : Rn w (W.drewN q) L Z := ⟨⟨h.1.os, h.1.tape, h.1.output, h.1.size, h.1.block⟩, h.2.1, h.2.2⟩
theorem Rn.off {w W : World} {L Z : List Value} (h : Rn w W L Z) {p : Addr} (hp : w.heap.size + 1 < p.block) (v : Value) : Rn w (W.setCell p v) L Z :=
  ⟨h.1.setCell (p := p) (by omega) v, h.2.1.other (p := p) (by omega) v, h.2.2.other (p := p) (by omega) v⟩
theorem rcr_0 {w W : World} {d : DS} {keep : Int} {turn : Bool} {R : List Nat} (h : Rn w W (rL (d.cr keep turn 0)) rZ) (he : R = crashB d.b0 d.s0 keep turn) :
    Rn w ((W.setCell ⟨w.heap.size, 0, none⟩ (.string (strB R))).setCell ⟨w.heap.size, 2, none⟩ (.int .i64 (R.length : Int))) (rL (d.cr keep turn 1)) rZ := by
  subst he
  exact (h.set 0 _).set 2 _
theorem rcr_1 {w W : World} {d : DS} {keep : Int} {turn : Bool} {R : List Nat} (h : Rn w W (rL (d.cr keep turn 1)) rZ) (he : R = crashB d.b1 d.s1 keep turn) :
    Rn w ((W.setCell ⟨w.heap.size, 1, none⟩ (.string (strB R))).setCell ⟨w.heap.size, 3, none⟩ (.int .i64 (R.length : Int))) (rL (d.cr keep turn 2)) rZ := by
  subst he
  exact (h.set 1 _).set 3 _
set_option maxHeartbeats 4000000 in
theorem rcrash_any (d : DS) (keep : Int) (turn : Bool) (w : World) (h : d.Ok) (hkp : -9223372036854775808 ≤ keep ∧ keep ≤ 9223372036854775807) :
    Calls Try.prog 25 #[rV d, .int .i64 keep, .bool turn] w (RGives w (rV (d.crashM keep turn))) := by
  have HI : Kept (Rn w ((w.alloc (.cells (rL (d.cr keep turn 0)).toArray 42)).alloc (.cells rZ.toArray 42)) (rL (d.cr keep turn 0)) rZ) := ⟨Rn.start w _ _⟩
  obtain ⟨ha0, ha1, hs0, hs1, hus, -, -, -⟩ := h
  unfold DS.used at hus
  show Calls Try.prog 25 #[.agg #[.string (strB d.b0), .string (strB d.b1), .int .i64 (d.s0 : Int), .int .i64 (d.s1 : Int), .int .i64 (d.room : Int), .int .i64 d.fuse, .bool d.down], .int .i64 keep, .bool turn] w _
  have HA0 := kept ha0
  have HA1 := kept ha1
  clear ha0 ha1
  go_enter Try.func25, Try.ntmps25
  go_wp2
  go_loopw [7] (fun i wr => ∃ j : Nat, j ≤ 2 ∧ i = .int .i64 (j : Int) ∧ Kept (Rn w wr (rL (d.cr keep turn j)) rZ)) (fun i _ => 2 - (intOf i).toNat)
  case atStart => exact ⟨0, by omega, rfl, HI⟩
  case round =>
    obtain ⟨j, hj, rfl, hin⟩ := hrel
    have hj3 : j = 0 ∨ j = 1 ∨ j = 2 := by omega
    clear HI
    rcases hj3 with rfl | rfl | rfl
    · have hkl := keepN_le d.b0 hs0 keep
      have z0 : wr.cell? ⟨w.heap.size, 0, none⟩ = some (.string (strB d.b0)) := hin.out.cell rfl
      have z1 : wr.cell? ⟨w.heap.size, 2, none⟩ = some (.int .i64 (d.s0 : Int)) := hin.out.cell rfl
      have y0 : wr.frozen? ⟨w.heap.size, 0, none⟩ = false := hin.out.2.1.frozen 0
      have y1 : wr.frozen? ⟨w.heap.size, 2, none⟩ = false := hin.out.2.1.frozen 2
      have hlt : w.heap.size < wr.heap.size := hin.out.2.1.lt
      have hsz : (d.s0 : Int) ≤ ((strB d.b0).size : Int) := by rw [strB_size]; omega
      have hsm : ((strB d.b0).size : Int) ≤ 1048576 := by rw [strB_size]; omega
      have hK : Kept (((keepN d.b0 d.s0 keep : Nat) : Int) = if keep < ((strB d.b0).size : Int) - (d.s0 : Int) then (if keep < 0 then 0 else keep) else ((strB d.b0).size : Int) - (d.s0 : Int)) := ⟨by rw [strB_size]; unfold keepN; split <;> (try split) <;> omega⟩
      have HCR : Kept (turnL (turn && decide (0 < keepN d.b0 d.s0 keep)) (d.b0.take (d.s0 + keepN d.b0 d.s0 keep)) = crashB d.b0 d.s0 keep turn) := ⟨rfl⟩
      generalize keepN d.b0 d.s0 keep = k at *
      have hL : (d.b0.take (d.s0 + k)).length = d.s0 + k := by rw [List.length_take]; omega
      have hsk : d.s0 + k ≤ (strB d.b0).size := by rw [strB_size]; omega
      have HCT := kept (strB_cut d.b0 (d.s0 + k))
      have HAL := kept (take_all HA0.out (d.s0 + k))
      generalize d.b0.take (d.s0 + k) = L at *
      go_upto_region 4 with (fail)
      go_quiet (fail)
      go_upto_if 26 with (fail)
      go_cut [8] (fun p wx => ∃ x : Int, p = .int .i64 x ∧ Kept ((k : Int) = if x < 0 then 0 else x) ∧ -9223372036854775808 ≤ x ∧ x ≤ 9223372036854775807 ∧ ∃ q, wx = wr.drewN q)
      case first =>
        by_cases hc : keep < ((strB d.b0).size : Int) - (d.s0 : Int)
        · have hk2 : Kept ((k : Int) = if keep < 0 then 0 else keep) := ⟨by have := hK.out; rw [if_pos hc] at this; exact this⟩
          go_wp2
          go_meet
          exact ⟨_, rfl, hk2, by omega, by omega, _, rfl⟩
        · have hk2 : Kept ((k : Int) = if ((strB d.b0).size : Int) - (d.s0 : Int) < 0 then 0 else ((strB d.b0).size : Int) - (d.s0 : Int)) := ⟨by have := hK.out; rw [if_neg hc] at this; rw [if_neg (by omega)]; exact this⟩
          go_wp2
          go_meet
          exact ⟨_, rfl, hk2, by omega, by omega, _, rfl⟩
      clear hK
      obtain ⟨x, rfl, hK, hx1, hx2, q, rfl⟩ := hcut
      go_upto_if 29 with (fail)
      go_cut [8] (fun p wx => p = .int .i64 (k : Int) ∧ wx = wr.drewN q)
      case first =>
        by_cases hc : x < 0
        · have hk2 : Kept ((k : Int) = 0) := ⟨by have := hK.out; rw [if_pos hc] at this; exact this⟩
          go_wp2
          go_meet
          exact ⟨by rw [hk2.out], rfl⟩
        · have hk2 : Kept ((k : Int) = x) := ⟨by have := hK.out; rw [if_neg hc] at this; exact this⟩
          go_wp2
          go_meet
          exact ⟨by rw [hk2.out], rfl⟩
      obtain ⟨rfl, rfl⟩ := hcut
      replace hin : Kept (Rn w (wr.drewN q) (rL (d.cr keep turn 0)) rZ) := ⟨hin.out.drewN q⟩
      clear hK hx1 hx2 x z0 z1 y0 y1 hlt
      generalize wr.drewN q = wq at *
      have z0 : wq.cell? ⟨w.heap.size, 0, none⟩ = some (.string (strB d.b0)) := hin.out.cell rfl
      have z1 : wq.cell? ⟨w.heap.size, 2, none⟩ = some (.int .i64 (d.s0 : Int)) := hin.out.cell rfl
      have hlt : w.heap.size < wq.heap.size := hin.out.2.1.lt
      have hct := HCT.out
      have hnn : ((d.s0 : Int) + (k : Int)).toNat = d.s0 + k := by omega
      obtain ⟨c2, w2, hrun, hr2, hb2, hl2, hf2⟩ := str_cells wq.drew L HAL.out
      replace hrun : (convert 9 22 (.string (strB L))).run Try.prog wq.drew = .ok (.slice (some ⟨wq.heap.size, 0, none⟩) L.length c2) w2 := hrun
      have HB2 := kept hb2
      have HR2 : Kept (Rd w2 w2.heap.size (some ⟨wq.heap.size, 0, none⟩) (BB L)) := ⟨hr2⟩
      have HF2 : Kept (∀ j, j < L.length → w2.frozen? ⟨wq.heap.size, j, none⟩ = false) := ⟨hf2⟩
      have hin2 := kept (hin.out.drew.next hb2)
      clear hb2 hr2 hf2
      have hw0 : (0 : Int) ≤ (d.s0 : Int) + (k : Int) := by omega
      have hw1 : (d.s0 : Int) + (k : Int) ≤ ((strB d.b0).size : Int) := by omega
      have hw2 : IntKind.i64.wrap ((d.s0 : Int) + (k : Int)) = (d.s0 : Int) + (k : Int) := IntWalk.i64_in _ (by omega)
      have hLm : L.length ≤ 1048576 := by rw [strB_size] at hsm; omega
      have HL := kept hL
      clear hL
      go_upto_region 9 with (fail)
      go_region_law (fail)
      all_goals
        have g0 : w2.cell? ⟨w.heap.size, 0, none⟩ = some (.string (strB d.b0)) := hin2.out.cell rfl
        have g1 : w2.cell? ⟨w.heap.size, 2, none⟩ = some (.int .i64 (d.s0 : Int)) := hin2.out.cell rfl
        have e0 := hin2.out.2.1.frozen 0
        have e1 := hin2.out.2.1.frozen 2
        have hl3 : w.heap.size < w2.heap.size := hin2.out.2.1.lt
        clear hct hw0 hw1 hw2 hnn hrun z0 z1
        cases hcb : (turn && decide (0 < k)) with
        | false =>
          rw [hcb] at HCR
          have HF := kept (rcr_0 hin2.out (R := L) HCR.out)
          have rs := run_str w2 _ _ L.length c2 L rfl HR2.out
          have hk0 : turn = true → k = 0 := fun h => by rw [h] at hcb; simpa using hcb
          cases turn with
          | false =>
            clear hcb hk0
            go_wp2
            all_goals
              go_roundw
              case rel => exact ⟨1, by omega, rfl, HF⟩
              case measure => simp [intOf]
          | true =>
            obtain rfl := hk0 rfl
            clear hcb hk0
            go_wp2
            all_goals
              go_roundw
              case rel => exact ⟨1, by omega, rfl, HF⟩
              case measure => simp [intOf]
        | true =>
          rw [hcb] at HCR
          have ht : turn = true := by cases turn <;> simp_all
          subst ht
          have hk0 : 0 < k := by simpa using hcb
          have hpos : 1 ≤ L.length := by have := HL.out; omega
          have hix : ((L.length : Int) - 1).toNat = L.length - 1 := by omega
          have hcell : w2.cell? ⟨wq.heap.size, L.length - 1, none⟩ = some (.int .u8 (L.getD (L.length - 1) 0 : Int)) := by
            obtain ⟨b', o', he, _, hc⟩ := HR2.out.at_ (BB_get L (L.length - 1) (by omega))
            injection he with he
            injection he with h1 h2 h3
            subst h1 h2
            rw [Nat.zero_add] at hc
            exact hc
          have hfz := HF2.out (L.length - 1) (by omega)
          have hxb : L.getD (L.length - 1) 0 < 256 := getD_lt8 HAL.out (by omega)
          have hxr : bits .xor .u8 ((L.getD (L.length - 1) 0 : Nat) : Int) 1 = ((L.getD (L.length - 1) 0 ^^^ 1 : Nat) : Int) := u8_xor_nat _ 1 hxb (by decide)
          have s1 := HR2.out.put (v := .int .u8 ((L.getD (L.length - 1) 0 ^^^ 1 : Nat) : Int)) (j := L.length - 1) (by rw [BB_length]; omega)
          have hbs : (BB L).set (L.length - 1) (.int .u8 ((L.getD (L.length - 1) 0 ^^^ 1 : Nat) : Int)) = BB (L.set (L.length - 1) (L.getD (L.length - 1) 0 ^^^ 1)) := by unfold BB; rw [List.map_set]
          rw [hbs, Nat.zero_add] at s1
          have rs := run_str _ _ _ L.length c2 _ (by rw [List.length_set]) s1
          have hin3 := hin2.out.off (p := ⟨wq.heap.size, L.length - 1, none⟩) hin.out.2.2.lt (.int .u8 ((L.getD (L.length - 1) 0 ^^^ 1 : Nat) : Int))
          have hF := rcr_0 hin3 (R := L.set (L.length - 1) (L.getD (L.length - 1) 0 ^^^ 1)) HCR.out
          rw [List.length_set] at hF
          have HF := kept hF
          have hgg : w.heap.size ≠ wq.heap.size := by omega
          have hwl : wq.heap.size < w2.heap.size := hl2
          clear hcb s1 hbs hF hin3 hin2 HCR HR2 HF2 HAL HL hin
          generalize L.set (L.length - 1) (L.getD (L.length - 1) 0 ^^^ 1) = R at *
          generalize L.getD (L.length - 1) 0 ^^^ 1 = y at *
          generalize L.getD (L.length - 1) 0 = x at *
          go_wp2
          go_roundw
          case rel => exact ⟨1, by omega, rfl, HF⟩
          case measure => simp [intOf]
    · have hkl := keepN_le d.b1 hs1 keep
      have z0 : wr.cell? ⟨w.heap.size, 1, none⟩ = some (.string (strB d.b1)) := hin.out.cell rfl
      have z1 : wr.cell? ⟨w.heap.size, 3, none⟩ = some (.int .i64 (d.s1 : Int)) := hin.out.cell rfl
      have y0 : wr.frozen? ⟨w.heap.size, 1, none⟩ = false := hin.out.2.1.frozen 1
      have y1 : wr.frozen? ⟨w.heap.size, 3, none⟩ = false := hin.out.2.1.frozen 3
      have hlt : w.heap.size < wr.heap.size := hin.out.2.1.lt
      have hsz : (d.s1 : Int) ≤ ((strB d.b1).size : Int) := by rw [strB_size]; omega
      have hsm : ((strB d.b1).size : Int) ≤ 1048576 := by rw [strB_size]; omega
      have hK : Kept (((keepN d.b1 d.s1 keep : Nat) : Int) = if keep < ((strB d.b1).size : Int) - (d.s1 : Int) then (if keep < 0 then 0 else keep) else ((strB d.b1).size : Int) - (d.s1 : Int)) := ⟨by rw [strB_size]; unfold keepN; split <;> (try split) <;> omega⟩
      have HCR : Kept (turnL (turn && decide (0 < keepN d.b1 d.s1 keep)) (d.b1.take (d.s1 + keepN d.b1 d.s1 keep)) = crashB d.b1 d.s1 keep turn) := ⟨rfl⟩
      generalize keepN d.b1 d.s1 keep = k at *
      have hL : (d.b1.take (d.s1 + k)).length = d.s1 + k := by rw [List.length_take]; omega
      have hsk : d.s1 + k ≤ (strB d.b1).size := by rw [strB_size]; omega
      have HCT := kept (strB_cut d.b1 (d.s1 + k))
      have HAL := kept (take_all HA1.out (d.s1 + k))
      generalize d.b1.take (d.s1 + k) = L at *
      go_upto_region 4 with (fail)
      go_quiet (fail)
      go_upto_if 26 with (fail)
      go_cut [8] (fun p wx => ∃ x : Int, p = .int .i64 x ∧ Kept ((k : Int) = if x < 0 then 0 else x) ∧ -9223372036854775808 ≤ x ∧ x ≤ 9223372036854775807 ∧ ∃ q, wx = wr.drewN q)
      case first =>
        by_cases hc : keep < ((strB d.b1).size : Int) - (d.s1 : Int)
        · have hk2 : Kept ((k : Int) = if keep < 0 then 0 else keep) := ⟨by have := hK.out; rw [if_pos hc] at this; exact this⟩
          go_wp2
          go_meet
          exact ⟨_, rfl, hk2, by omega, by omega, _, rfl⟩
        · have hk2 : Kept ((k : Int) = if ((strB d.b1).size : Int) - (d.s1 : Int) < 0 then 0 else ((strB d.b1).size : Int) - (d.s1 : Int)) := ⟨by have := hK.out; rw [if_neg hc] at this; rw [if_neg (by omega)]; exact this⟩
          go_wp2
          go_meet
          exact ⟨_, rfl, hk2, by omega, by omega, _, rfl⟩
      clear hK
      obtain ⟨x, rfl, hK, hx1, hx2, q, rfl⟩ := hcut
      go_upto_if 29 with (fail)
      go_cut [8] (fun p wx => p = .int .i64 (k : Int) ∧ wx = wr.drewN q)
      case first =>
        by_cases hc : x < 0
        · have hk2 : Kept ((k : Int) = 0) := ⟨by have := hK.out; rw [if_pos hc] at this; exact this⟩
          go_wp2
          go_meet
          exact ⟨by rw [hk2.out], rfl⟩
        · have hk2 : Kept ((k : Int) = x) := ⟨by have := hK.out; rw [if_neg hc] at this; exact this⟩
          go_wp2
          go_meet
          exact ⟨by rw [hk2.out], rfl⟩
      obtain ⟨rfl, rfl⟩ := hcut
      replace hin : Kept (Rn w (wr.drewN q) (rL (d.cr keep turn 1)) rZ) := ⟨hin.out.drewN q⟩
      clear hK hx1 hx2 x z0 z1 y0 y1 hlt
      generalize wr.drewN q = wq at *
      have z0 : wq.cell? ⟨w.heap.size, 1, none⟩ = some (.string (strB d.b1)) := hin.out.cell rfl
      have z1 : wq.cell? ⟨w.heap.size, 3, none⟩ = some (.int .i64 (d.s1 : Int)) := hin.out.cell rfl
      have hlt : w.heap.size < wq.heap.size := hin.out.2.1.lt
      have hct := HCT.out
      have hnn : ((d.s1 : Int) + (k : Int)).toNat = d.s1 + k := by omega
      obtain ⟨c2, w2, hrun, hr2, hb2, hl2, hf2⟩ := str_cells wq.drew L HAL.out
      replace hrun : (convert 9 22 (.string (strB L))).run Try.prog wq.drew = .ok (.slice (some ⟨wq.heap.size, 0, none⟩) L.length c2) w2 := hrun
      have HB2 := kept hb2
      have HR2 : Kept (Rd w2 w2.heap.size (some ⟨wq.heap.size, 0, none⟩) (BB L)) := ⟨hr2⟩
      have HF2 : Kept (∀ j, j < L.length → w2.frozen? ⟨wq.heap.size, j, none⟩ = false) := ⟨hf2⟩
      have hin2 := kept (hin.out.drew.next hb2)
      clear hb2 hr2 hf2
      have hw0 : (0 : Int) ≤ (d.s1 : Int) + (k : Int) := by omega
      have hw1 : (d.s1 : Int) + (k : Int) ≤ ((strB d.b1).size : Int) := by omega
      have hw2 : IntKind.i64.wrap ((d.s1 : Int) + (k : Int)) = (d.s1 : Int) + (k : Int) := IntWalk.i64_in _ (by omega)
      have hLm : L.length ≤ 1048576 := by rw [strB_size] at hsm; omega
      have HL := kept hL
      clear hL
      go_upto_region 9 with (fail)
      go_region_law (fail)
      all_goals
        have g0 : w2.cell? ⟨w.heap.size, 1, none⟩ = some (.string (strB d.b1)) := hin2.out.cell rfl
        have g1 : w2.cell? ⟨w.heap.size, 3, none⟩ = some (.int .i64 (d.s1 : Int)) := hin2.out.cell rfl
        have e0 := hin2.out.2.1.frozen 1
        have e1 := hin2.out.2.1.frozen 3
        have hl3 : w.heap.size < w2.heap.size := hin2.out.2.1.lt
        clear hct hw0 hw1 hw2 hnn hrun z0 z1
        cases hcb : (turn && decide (0 < k)) with
        | false =>
          rw [hcb] at HCR
          have HF := kept (rcr_1 hin2.out (R := L) HCR.out)
          have rs := run_str w2 _ _ L.length c2 L rfl HR2.out
          have hk0 : turn = true → k = 0 := fun h => by rw [h] at hcb; simpa using hcb
          cases turn with
          | false =>
            clear hcb hk0
            go_wp2
            all_goals
              go_roundw
              case rel => exact ⟨2, by omega, rfl, HF⟩
              case measure => simp [intOf]
          | true =>
            obtain rfl := hk0 rfl
            clear hcb hk0
            go_wp2
            all_goals
              go_roundw
              case rel => exact ⟨2, by omega, rfl, HF⟩
              case measure => simp [intOf]
        | true =>
          rw [hcb] at HCR
          have ht : turn = true := by cases turn <;> simp_all
          subst ht
          have hk0 : 0 < k := by simpa using hcb
          have hpos : 1 ≤ L.length := by have := HL.out; omega
          have hix : ((L.length : Int) - 1).toNat = L.length - 1 := by omega
          have hcell : w2.cell? ⟨wq.heap.size, L.length - 1, none⟩ = some (.int .u8 (L.getD (L.length - 1) 0 : Int)) := by
            obtain ⟨b', o', he, _, hc⟩ := HR2.out.at_ (BB_get L (L.length - 1) (by omega))
            injection he with he
            injection he with h1 h2 h3
            subst h1 h2
            rw [Nat.zero_add] at hc
            exact hc
          have hfz := HF2.out (L.length - 1) (by omega)
          have hxb : L.getD (L.length - 1) 0 < 256 := getD_lt8 HAL.out (by omega)
          have hxr : bits .xor .u8 ((L.getD (L.length - 1) 0 : Nat) : Int) 1 = ((L.getD (L.length - 1) 0 ^^^ 1 : Nat) : Int) := u8_xor_nat _ 1 hxb (by decide)
          have s1 := HR2.out.put (v := .int .u8 ((L.getD (L.length - 1) 0 ^^^ 1 : Nat) : Int)) (j := L.length - 1) (by rw [BB_length]; omega)
          have hbs : (BB L).set (L.length - 1) (.int .u8 ((L.getD (L.length - 1) 0 ^^^ 1 : Nat) : Int)) = BB (L.set (L.length - 1) (L.getD (L.length - 1) 0 ^^^ 1)) := by unfold BB; rw [List.map_set]
          rw [hbs, Nat.zero_add] at s1
          have rs := run_str _ _ _ L.length c2 _ (by rw [List.length_set]) s1
          have hin3 := hin2.out.off (p := ⟨wq.heap.size, L.length - 1, none⟩) hin.out.2.2.lt (.int .u8 ((L.getD (L.length - 1) 0 ^^^ 1 : Nat) : Int))
          have hF := rcr_1 hin3 (R := L.set (L.length - 1) (L.getD (L.length - 1) 0 ^^^ 1)) HCR.out
          rw [List.length_set] at hF
          have HF := kept hF
          have hgg : w.heap.size ≠ wq.heap.size := by omega
          have hwl : wq.heap.size < w2.heap.size := hl2
          clear hcb s1 hbs hF hin3 hin2 HCR HR2 HF2 HAL HL hin
          generalize L.set (L.length - 1) (L.getD (L.length - 1) 0 ^^^ 1) = R at *
          generalize L.getD (L.length - 1) 0 ^^^ 1 = y at *
          generalize L.getD (L.length - 1) 0 = x at *
          go_wp2
          go_roundw
          case rel => exact ⟨2, by omega, rfl, HF⟩
          case measure => simp [intOf]
    · have z5 : wr.cell? ⟨w.heap.size, 5, none⟩ = some (.int .i64 d.fuse) := hin.out.cell rfl
      have z6 : wr.cell? ⟨w.heap.size, 6, none⟩ = some (.bool d.down) := hin.out.cell rfl
      have y5 := hin.out.2.1.frozen 5
      have y6 := hin.out.2.1.frozen 6
      have hlt : w.heap.size < wr.heap.size := hin.out.2.1.lt
      have H3 := kept ((hin.out.set 5 (.int .i64 (-1))).set 6 (.bool false))
      have hk6 := H3.out.2.1
      have hk4 := H3.out.2.2
      go_wp2_with (first | (refine wpl_loadB rfl _ _ rfl w.heap.size rfl _ _ hk6 _ rfl rfl rfl ?_) | (refine wpl_storeB rfl _ _ _ rfl (w.heap.size + 1) _ rfl rfl _ _ hk4 rfl rfl rfl ?_; intro w5 hk5 hu5; have H5 := kept (H3.out.res hk5 hu5)))
      exact bodyPost_ret (res_cell_one rfl _ (w.heap.size + 1) _ _ _ rfl H5.out.2.2 rfl rfl rfl) rfl ⟨rfl, H5.out.1⟩
end Go.Proofs.Ytenkccfglmkdmaa.Disk
