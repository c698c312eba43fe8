/- Layer 41 (past): the document's Add. Its drawn region is printed by tools/genra.py. -/
import Derived.Test.YtfkfpanhbanljaaGreatSetY
import Derived.Test.YtfkfpanhbanljaaGreatAppTwo
import Derived.Test.YtfkfpanhbanljaaGreatPastAdd
import Derived.Test.YtfkfpanhbanljaaGreatHeldCall
import Derived.Deep.RegionLaw
namespace Go.Proofs.YtfkfpanhbanljaaGreat.Past
open Go.RowKit Go.Proofs.YtfkfpanhbanljaaGreat.Mem Go.Proofs.YtfkfpanhbanljaaGreat.Mask

theorem rfact_info : (Tryz.prog.info? 47).map (fun i => (i.zero, i.size, i.bytes)) = some (some (.agg #[.int .u16 0, .int .u64 0, .int .u8 0, .int .u64 0, .int .u8 0, .string ByteArray.empty, .slice none 0 0, .slice none 0 0]), 8, 104) := by kernel_rfl
/-- a fact more, in a row of the call's own -/
def RAddG (w : World) (rs : List FactM) (e : EvM) (m : List Nat) (en : Ending) (w' : World) : Prop :=
  ∃ (X' : Option Addr) (c' : Nat) (A' : Option Addr) (cA : Nat), en = .returned (.tuple #[.slice X' (rs.length + 1) c', .int .i64 (rs.length : Int), .int .i64 0]) ∧ RdF w' X' (rs ++ [⟨⟨e.dev, e.n, e.kind, e.cid, e.field, e.text, none, 0, 0⟩, A', belowM m rs.length, cA⟩]) ∧ (∀ x, X' = some x → w.heap.size ≤ x.block ∧ x.block < w'.heap.size) ∧ (∀ x, A' = some x → w.heap.size ≤ x.block ∧ x.block < w'.heap.size) ∧ Below w.heap.size w w'
set_option maxRecDepth 100000 in
set_option maxHeartbeats 8000000 in
theorem radd_yes (X : Option Addr) (rs : List FactM) (c : Nat) (e : EvM) (A : Option Addr) (m : List Nat) (cm : Nat) (w : World) (h : RdF w X rs) (hkd : e.kind = 1 ∨ e.kind = 2) (hw : AllW m) (hr : Rd w w.heap.size A (WB m)) (hl : rs.length ≤ 25) :
    Calls Tryz.prog 8 #[.slice X rs.length c, e.val, .slice A m.length cm] w (RAddG w rs e m) := by
  obtain ⟨dev, ne, kind, cid, field, text, kA, kn, kc⟩ := e
  dsimp only at hkd
  have HCB := kept (fun (W : World) (hb : Below w.heap.size w W) => rbelow_any A m cm rs.length W hw (hr.next hb) (by omega))
  have HBL : Kept (AllW (belowM m rs.length) ∧ (belowM m rs.length).length ≤ 16) := ⟨of_all _, of_length _⟩
  have H := kept h
  have hl2 : ¬ (1024 : Int) ≤ (rs.length : Int) := by omega
  have hz1 : Kept ((([] : List FactM).length + rs.length) * 104 ≤ 140737488355328) := ⟨by simp only [List.length_nil]; omega⟩
  have hz2 : Kept (∀ r2 : List FactM, Kept (r2 = [] ++ rs) → ∀ f : FactM, (r2.length + [f].length) * 104 ≤ 140737488355328) := ⟨fun r2 h f => by rw [h.out, List.nil_append, List.length_singleton]; omega⟩
  have HQ : Kept (∀ (w' : World) (X' : Option Addr) (c' : Nat) (A' : Option Addr) (cA : Nat), RdF w' X' (rs ++ [⟨⟨dev, ne, kind, cid, field, text, none, 0, 0⟩, A', belowM m rs.length, cA⟩]) ∧ (∀ x, X' = some x → w.heap.size ≤ x.block ∧ x.block < w'.heap.size) ∧ (∀ x, A' = some x → w.heap.size ≤ x.block ∧ x.block < w'.heap.size) ∧ Below w.heap.size w w' →
      RAddG w rs ⟨dev, ne, kind, cid, field, text, kA, kn, kc⟩ m (.returned (.tuple #[.slice X' (rs.length + 1) c', .int .i64 (rs.length : Int), .int .i64 0])) w') := ⟨fun w' X' c' A' cA h => ⟨X', c', A', cA, rfl, h⟩⟩
  generalize RAddG w rs ⟨dev, ne, kind, cid, field, text, kA, kn, kc⟩ m = Q at *
  generalize belowM m rs.length = bl at *
  show Calls Tryz.prog 8 #[.slice X rs.length c, .agg #[.int .u16 (dev : Int), .int .u64 (ne : Int), .int .u8 (kind : Int), .int .u64 (cid : Int), .int .u8 (field : Int), .string text, .slice kA kn kc], .slice A m.length cm] w Q
  clear h hr hw hl
  rcases hkd with rfl | rfl
  · have hb0 : Below w.heap.size w (w.alloc (.cells #[.int .u16 (dev : Int), .int .u64 (ne : Int), .int .u8 1, .int .u64 (cid : Int), .int .u8 (field : Int), .string text, .slice none 0 0] 38)) := (Below.refl _ _).alloc (Nat.le_refl _) _
    have HK := kept (Blk.new w [.int .u16 (dev : Int), .int .u64 (ne : Int), .int .u8 1, .int .u64 (cid : Int), .int .u8 (field : Int), .string text, .slice none 0 0] 38)
    have HB0 := kept hb0
    have HGL : Kept (w.heap.size < (w.alloc (.cells #[.int .u16 (dev : Int), .int .u64 (ne : Int), .int .u8 1, .int .u64 (cid : Int), .int .u8 (field : Int), .string text, .slice none 0 0] 38)).heap.size) := ⟨by simp⟩
    clear hb0
    go_enter Tryz.func8, Tryz.ntmps8
    go_upto_region 6 with fail
    generalize w.alloc (.cells #[.int .u16 (dev : Int), .int .u64 (ne : Int), .int .u8 1, .int .u64 (cid : Int), .int .u8 (field : Int), .string text, .slice none 0 0] 38) = w1 at *
    have HS : Kept (∀ W, Below w1.heap.size w1 W → W.cell? ⟨w.heap.size, 0, none⟩ = some (.int .u16 (dev : Int)) ∧ W.cell? ⟨w.heap.size, 1, none⟩ = some (.int .u64 (ne : Int)) ∧ W.cell? ⟨w.heap.size, 2, none⟩ = some (.int .u8 1) ∧ W.cell? ⟨w.heap.size, 3, none⟩ = some (.int .u64 (cid : Int)) ∧ W.cell? ⟨w.heap.size, 4, none⟩ = some (.int .u8 (field : Int)) ∧ W.cell? ⟨w.heap.size, 5, none⟩ = some (.string text) ∧ W.cell? ⟨w.heap.size, 6, none⟩ = some (.slice none 0 0)) := ⟨fun W hb => by
      have h := HK.out.next hb
      exact ⟨h.cell (j := 0) rfl, h.cell (j := 1) rfl, h.cell (j := 2) rfl, h.cell (j := 3) rfl, h.cell (j := 4) rfl, h.cell (j := 5) rfl, h.cell (j := 6) rfl⟩⟩
    have HR : Kept (∀ W, Below w1.heap.size w1 W → factE.Rd W W.heap.size X rs) := ⟨fun W hb => (H.out.1.next HB0.out).next hb⟩
    have CB : Kept (∀ W, Below w1.heap.size w1 W → Calls Tryz.prog 23 #[.slice A m.length cm, .int .i64 (rs.length : Int)] W (GivesW W bl)) := ⟨fun W hb => HCB.out W (bnx HB0.out hb)⟩
    have HFIN : Kept (∀ (w9 : World) (A9 : Option Addr) (c9 : Nat) (A3 : Option Addr) (c3 : Nat) (r9 : List FactM), Below w1.heap.size w1 w9 → r9 = rs ++ [⟨⟨dev, ne, 1, cid, field, text, none, 0, 0⟩, A3, bl, c3⟩] → factE.Own w9 w1.heap.size 47 (.slice A9 r9.length c9) r9 → Own w9 w1.heap.size 33 (.slice A3 bl.length c3) (WB bl) →
        RdF w9 A9 (rs ++ [⟨⟨dev, ne, 1, cid, field, text, none, 0, 0⟩, A3, bl, c3⟩]) ∧ (∀ x, A9 = some x → w.heap.size ≤ x.block ∧ x.block < w9.heap.size) ∧ (∀ x, A3 = some x → w.heap.size ≤ x.block ∧ x.block < w9.heap.size) ∧ Below w.heap.size w w9) := ⟨fun w9 A9 c9 A3 c3 r9 hb he ho ha => by
      have hbw := bnx HB0.out hb
      refine ⟨⟨by rw [← he]; exact ho.rd, fun f hf => ?_⟩, fun x hx => ?_, fun x hx => ?_, hbw⟩
      · rcases List.mem_append.1 hf with h1 | h1
        · exact (H.out.2 f h1).next hbw
        · rw [List.mem_singleton.1 h1]
          exact ⟨⟨rfl, rfl, rfl⟩, ha.rd, HBL.out⟩
      · have h3 := OwnK.under ho x.block (by rw [hx]; rfl)
        have h2 := HB0.out.size
        exact ⟨by omega, h3.2⟩
      · have h3 := ha.lt x.block (by rw [hx]; rfl)
        have h2 := HB0.out.size
        exact ⟨by omega, h3.2⟩⟩
    have HB : Kept (Below w1.heap.size w1 w1.drew) := ⟨(Below.refl _ _).drew⟩
    clear HK HB0 HGL HCB H HBL
    refine wp_region_noPanic ?_
    refine wp_region_held_drew (S := fun W => W.cell? ⟨w.heap.size, 0, none⟩ = some (.int .u16 (dev : Int)) ∧ W.cell? ⟨w.heap.size, 1, none⟩ = some (.int .u64 (ne : Int)) ∧ W.cell? ⟨w.heap.size, 2, none⟩ = some (.int .u8 1) ∧ W.cell? ⟨w.heap.size, 3, none⟩ = some (.int .u64 (cid : Int)) ∧ W.cell? ⟨w.heap.size, 4, none⟩ = some (.int .u8 (field : Int)) ∧ W.cell? ⟨w.heap.size, 5, none⟩ = some (.string text) ∧ W.cell? ⟨w.heap.size, 6, none⟩ = some (.slice none 0 0)) (by kernel_rfl) (HS.out _ HB.out) (fun hS0 => ?_)
    refine wpAnyH_take (i := 1) (v := ?_) rfl (by kernel_rfl) (by kernel_rfl) (by kernel_rfl) (fun _ _ _ h => h) (Or.inl ⟨by rfl, ?_⟩) hS0 ?_
    case refine_2 => (intro W hSW; go_simp; try with_reducible rfl)
    try simp only [Act.put, List.setIfInBounds_toArray, List.set_cons_zero, List.set_cons_succ, List.getElem_toArray, List.getElem_cons_zero, List.getElem_cons_succ]
    refine wpAnyH_take (i := 3) (v := ?_) rfl (by kernel_rfl) (by kernel_rfl) (by kernel_rfl) (fun _ _ _ h => h) (Or.inl ⟨by rfl, ?_⟩) hS0 ?_
    case refine_2 => (intro W hSW; obtain ⟨z0, z1, z2, z3, z4, z5, z6⟩ := hSW; go_simp; try with_reducible rfl)
    try simp only [Act.put, List.setIfInBounds_toArray, List.set_cons_zero, List.set_cons_succ, List.getElem_toArray, List.getElem_cons_zero, List.getElem_cons_succ]
    refine wpAnyH_take (i := 4) (v := ?_) rfl (by kernel_rfl) (by kernel_rfl) (by kernel_rfl) (fun _ _ _ h => h) (Or.inl ⟨by rfl, ?_⟩) hS0 ?_
    case refine_2 => (intro W hSW; go_simp; try with_reducible rfl)
    try simp only [Act.put, List.setIfInBounds_toArray, List.set_cons_zero, List.set_cons_succ, List.getElem_toArray, List.getElem_cons_zero, List.getElem_cons_succ]
    refine wpAnyH_take (i := 5) (v := ?_) rfl (by kernel_rfl) (by kernel_rfl) (by kernel_rfl) (fun _ _ _ h => h) (Or.inl ⟨by rfl, ?_⟩) hS0 ?_
    case refine_2 => (intro W hSW; go_simp; try with_reducible rfl)
    try simp only [Act.put, List.setIfInBounds_toArray, List.set_cons_zero, List.set_cons_succ, List.getElem_toArray, List.getElem_cons_zero, List.getElem_cons_succ]
    refine wpAnyH_take (i := 6) (v := ?_) rfl (by kernel_rfl) (by kernel_rfl) (by kernel_rfl) (fun _ _ _ h => h) (Or.inl ⟨by rfl, ?_⟩) hS0 ?_
    case refine_2 => (intro W hSW; go_simp; try with_reducible rfl)
    try simp only [Act.put, List.setIfInBounds_toArray, List.set_cons_zero, List.set_cons_succ, List.getElem_toArray, List.getElem_cons_zero, List.getElem_cons_succ]
    refine wpAnyH_take (i := 11) (v := ?_) rfl (by kernel_rfl) (by kernel_rfl) (by kernel_rfl) (fun _ _ _ h => h) (Or.inl ⟨by rfl, ?_⟩) hS0 ?_
    case refine_2 => (intro W hSW; go_simp; try with_reducible rfl)
    try simp only [Act.put, List.setIfInBounds_toArray, List.set_cons_zero, List.set_cons_succ, List.getElem_toArray, List.getElem_cons_zero, List.getElem_cons_succ]
    refine wpAnyH_take (i := 12) (v := ?_) rfl (by kernel_rfl) (by kernel_rfl) (by kernel_rfl) (fun _ _ _ h => h) (Or.inl ⟨by rfl, ?_⟩) hS0 ?_
    case refine_2 => (intro W hSW; go_simp; try with_reducible rfl)
    try simp only [Act.put, List.setIfInBounds_toArray, List.set_cons_zero, List.set_cons_succ, List.getElem_toArray, List.getElem_cons_zero, List.getElem_cons_succ]
    refine wpAnyH_ready (rs := [0]) (by kernel_rfl) (by simp) ?_
    refine AllReadyH.cons rfl (fun K' hK => ?_) AllReadyH.nil
    go_simp
    have hbx : Below w1.drew.heap.size w1.drew (w1.drew.alloc (.cells #[] 47)) := (Below.refl _ _).alloc (Nat.le_refl _) _
    have HO : Kept (factE.Own (w1.drew.alloc (.cells #[] 47)) w1.heap.size 47 (.slice (some ⟨w1.drew.heap.size, 0, none⟩) 0 0) []) := ⟨by exact Elem.Own.mono (show factE.Own (w1.drew.alloc (.cells #[] 47)) w1.drew.heap.size 47 (.slice (some ⟨w1.drew.heap.size, 0, none⟩) 0 0) [] from two_o1 factE 47 w1.drew) HB.out.size⟩
    have HBx := kept (HB.out.trans (hbx.mono HB.out.size))
    clear HB
    have HB := HBx
    clear HBx
    clear hbx
    try simp only [Act.put, List.setIfInBounds_toArray, List.set_cons_zero, List.set_cons_succ, List.getElem_toArray, List.getElem_cons_zero, List.getElem_cons_succ]
    refine hK.out _ _ (HS.out _ HB.out) (fun hS0 => ?_)
    refine wpAnyH_ready (rs := [2]) (by kernel_rfl) (by simp) ?_
    refine AllReadyH.cons rfl (fun K' hK => ?_) AllReadyH.nil
    refine step_appEU _ factE (by rfl) (.tmp 23) (.tmp 24) 28 (by rfl) w1.heap.size 47 Tryz.underlying28 rfact_info (by rfl) _ [] (by rfl) HO.out _ X _ c rs (by rfl) rfl (HR.out _ HB.out) hz1.out (by decide) HB.out.size ?_
    intro A2 c2 wv2 r2 hr2 hown2 hu2 hx2
    have HU2 := kept (hu2 _ fun _ e => e)
    have HBx := kept (HB.out.trans (HU2.out.below HB.out.size fun k _ e => (OwnK.under HO.out k e).1))
    clear HB
    have HB := HBx
    clear HBx
    have HO2 := kept hown2
    clear hown2 hu2 hx2 HU2 HO
    try simp only [Act.put, List.setIfInBounds_toArray, List.set_cons_zero, List.set_cons_succ, List.getElem_toArray, List.getElem_cons_zero, List.getElem_cons_succ]
    refine hK.out _ _ (HS.out _ HB.out) (fun hS0 => ?_)
    refine wpAnyH_ready (rs := [7]) (by kernel_rfl) (by simp) ?_
    refine AllReadyH.cons rfl (fun K' hK => ?_) AllReadyH.nil
    go_simp
    go_at_call 23
    refine (CB.out _ HB.out).mono ?_
    rintro e wv3c ⟨A3, c3, rfl, ho3, hc3, hbx⟩
    have HA := kept (ho3.mono HB.out.size)
    have HO2x := kept (HO2.out.next hbx)
    clear HO2
    have HO2 := HO2x
    clear HO2x
    have HBx := kept (HB.out.trans (hbx.mono HB.out.size))
    clear HB
    have HB := HBx
    clear HBx
    clear ho3 hc3 hbx
    try simp only [Act.put, List.setIfInBounds_toArray, List.set_cons_zero, List.set_cons_succ, List.getElem_toArray, List.getElem_cons_zero, List.getElem_cons_succ]
    refine hK.out _ _ (HS.out _ HB.out) (fun hS0 => ?_)
    refine wpAnyH_take (i := 8) (v := ?_) rfl (by kernel_rfl) (by kernel_rfl) (by kernel_rfl) (fun _ _ _ h => h) (Or.inl ⟨by rfl, ?_⟩) hS0 ?_
    case refine_2 => (intro W hSW; go_simp; try with_reducible rfl)
    try simp only [Act.put, List.setIfInBounds_toArray, List.set_cons_zero, List.set_cons_succ, List.getElem_toArray, List.getElem_cons_zero, List.getElem_cons_succ]
    refine wpAnyH_ready (rs := [9]) (by kernel_rfl) (by simp) ?_
    refine AllReadyH.cons rfl (fun K' hK => ?_) AllReadyH.nil
    go_simp
    have hbx : Below wv3c.heap.size wv3c (wv3c.alloc (.cells #[.int .u16 (dev : Int), .int .u64 (ne : Int), .int .u8 1, .int .u64 (cid : Int), .int .u8 (field : Int), .string text, .slice none 0 0, .slice A3 bl.length c3] 47)) := (Below.refl _ _).alloc (Nat.le_refl _) _
    have HN : Kept (factE.Rd (wv3c.alloc (.cells #[.int .u16 (dev : Int), .int .u64 (ne : Int), .int .u8 1, .int .u64 (cid : Int), .int .u8 (field : Int), .string text, .slice none 0 0, .slice A3 bl.length c3] 47)) (wv3c.alloc (.cells #[.int .u16 (dev : Int), .int .u64 (ne : Int), .int .u8 1, .int .u64 (cid : Int), .int .u8 (field : Int), .string text, .slice none 0 0, .slice A3 bl.length c3] 47)).heap.size (some ⟨wv3c.heap.size, 0, none⟩) [⟨⟨dev, ne, 1, cid, field, text, none, 0, 0⟩, A3, bl, c3⟩]) := ⟨by exact Elem.Rd.more (Mem.Rd.new wv3c [.int .u16 (dev : Int), .int .u64 (ne : Int), .int .u8 1, .int .u64 (cid : Int), .int .u8 (field : Int), .string text, .slice none 0 0, .slice A3 bl.length c3] 47) (by simp)⟩
    have HAx := kept (HA.out.next hbx)
    clear HA
    have HA := HAx
    clear HAx
    have HO2x := kept (HO2.out.next hbx)
    clear HO2
    have HO2 := HO2x
    clear HO2x
    have HBx := kept (HB.out.trans (hbx.mono HB.out.size))
    clear HB
    have HB := HBx
    clear HBx
    clear hbx
    try simp only [Act.put, List.setIfInBounds_toArray, List.set_cons_zero, List.set_cons_succ, List.getElem_toArray, List.getElem_cons_zero, List.getElem_cons_succ]
    refine hK.out _ _ (HS.out _ HB.out) (fun hS0 => ?_)
    refine wpAnyH_ready (rs := [10]) (by kernel_rfl) (by simp) ?_
    refine AllReadyH.cons rfl (fun K' hK => ?_) AllReadyH.nil
    refine step_appEU _ factE (by rfl) (.tmp 25) (.tmp 32) 28 (by rfl) w1.heap.size 47 Tryz.underlying28 rfact_info (by rfl) _ r2 (by rfl) HO2.out _ _ _ _ [⟨⟨dev, ne, 1, cid, field, text, none, 0, 0⟩, A3, bl, c3⟩] (by rfl) rfl HN.out (hz2.out r2 hr2 _) (by decide) HB.out.size ?_
    intro A9 c9 w9 r9 hr9 hown9 hu9 hx9
    have HU9 := kept (hu9 _ fun _ e => e)
    have HAx := kept (HA.out.upd HU9.out fun k hk e => own_apart HA.out HO2.out (by decide) k hk e)
    clear HA
    have HA := HAx
    clear HAx
    have HBx := kept (HB.out.trans (HU9.out.below HB.out.size fun k _ e => (OwnK.under HO2.out k e).1))
    clear HB
    have HB := HBx
    clear HBx
    have HO9 := kept hown9
    clear hown9 hu9 hx9 HU9
    try simp only [Act.put, List.setIfInBounds_toArray, List.set_cons_zero, List.set_cons_succ, List.getElem_toArray, List.getElem_cons_zero, List.getElem_cons_succ]
    refine hK.out _ _ (HS.out _ HB.out) (fun hS0 => ?_)
    refine wpAnyH_take (i := 13) (v := ?_) rfl (by kernel_rfl) (by kernel_rfl) (by kernel_rfl) (fun _ _ _ h => h) (Or.inl ⟨by rfl, ?_⟩) hS0 ?_
    case refine_2 => (intro W hSW; go_simp; try with_reducible rfl)
    try simp only [Act.put, List.setIfInBounds_toArray, List.set_cons_zero, List.set_cons_succ, List.getElem_toArray, List.getElem_cons_zero, List.getElem_cons_succ]
    refine wpAnyH_take (i := 14) (v := ?_) rfl (by kernel_rfl) (by kernel_rfl) (by kernel_rfl) (fun _ _ _ h => h) (Or.inl ⟨by rfl, ?_⟩) hS0 ?_
    case refine_2 => (intro W hSW; go_simp; try with_reducible rfl)
    try simp only [Act.put, List.setIfInBounds_toArray, List.set_cons_zero, List.set_cons_succ, List.getElem_toArray, List.getElem_cons_zero, List.getElem_cons_succ]
    refine wpAnyH_take (i := 15) (v := ?_) rfl (by kernel_rfl) (by kernel_rfl) (by kernel_rfl) (fun _ _ _ h => h) (Or.inl ⟨by rfl, ?_⟩) hS0 ?_
    case refine_2 => (intro W hSW; go_simp; try with_reducible rfl)
    try simp only [Act.put, List.setIfInBounds_toArray, List.set_cons_zero, List.set_cons_succ, List.getElem_toArray, List.getElem_cons_zero, List.getElem_cons_succ]
    refine wpAnyH_done (by kernel_rfl) (NoPanic.normal ?_) _
    have HR9 : Kept (r9 = rs ++ [⟨⟨dev, ne, 1, cid, field, text, none, 0, 0⟩, A3, bl, c3⟩]) := ⟨by rw [hr9.out, hr2.out]; simp⟩
    have HF := kept (HFIN.out w9 A9 c9 A3 c3 r9 HB.out HR9.out HO9.out HA.out)
    have hrl : r9.length = rs.length + 1 := by rw [HR9.out, List.length_append]; rfl
    clear hr2 hr9 HO2 HN HO9 HA HB HR9
    go_wp2_with fail
    go_ret3
    exact HQ.out w9 A9 c9 A3 c3 HF.out
  · have hb0 : Below w.heap.size w (w.alloc (.cells #[.int .u16 (dev : Int), .int .u64 (ne : Int), .int .u8 2, .int .u64 (cid : Int), .int .u8 (field : Int), .string text, .slice none 0 0] 38)) := (Below.refl _ _).alloc (Nat.le_refl _) _
    have HK := kept (Blk.new w [.int .u16 (dev : Int), .int .u64 (ne : Int), .int .u8 2, .int .u64 (cid : Int), .int .u8 (field : Int), .string text, .slice none 0 0] 38)
    have HB0 := kept hb0
    have HGL : Kept (w.heap.size < (w.alloc (.cells #[.int .u16 (dev : Int), .int .u64 (ne : Int), .int .u8 2, .int .u64 (cid : Int), .int .u8 (field : Int), .string text, .slice none 0 0] 38)).heap.size) := ⟨by simp⟩
    clear hb0
    go_enter Tryz.func8, Tryz.ntmps8
    go_upto_region 6 with fail
    generalize w.alloc (.cells #[.int .u16 (dev : Int), .int .u64 (ne : Int), .int .u8 2, .int .u64 (cid : Int), .int .u8 (field : Int), .string text, .slice none 0 0] 38) = w1 at *
    have HS : Kept (∀ W, Below w1.heap.size w1 W → W.cell? ⟨w.heap.size, 0, none⟩ = some (.int .u16 (dev : Int)) ∧ W.cell? ⟨w.heap.size, 1, none⟩ = some (.int .u64 (ne : Int)) ∧ W.cell? ⟨w.heap.size, 2, none⟩ = some (.int .u8 2) ∧ W.cell? ⟨w.heap.size, 3, none⟩ = some (.int .u64 (cid : Int)) ∧ W.cell? ⟨w.heap.size, 4, none⟩ = some (.int .u8 (field : Int)) ∧ W.cell? ⟨w.heap.size, 5, none⟩ = some (.string text) ∧ W.cell? ⟨w.heap.size, 6, none⟩ = some (.slice none 0 0)) := ⟨fun W hb => by
      have h := HK.out.next hb
      exact ⟨h.cell (j := 0) rfl, h.cell (j := 1) rfl, h.cell (j := 2) rfl, h.cell (j := 3) rfl, h.cell (j := 4) rfl, h.cell (j := 5) rfl, h.cell (j := 6) rfl⟩⟩
    have HR : Kept (∀ W, Below w1.heap.size w1 W → factE.Rd W W.heap.size X rs) := ⟨fun W hb => (H.out.1.next HB0.out).next hb⟩
    have CB : Kept (∀ W, Below w1.heap.size w1 W → Calls Tryz.prog 23 #[.slice A m.length cm, .int .i64 (rs.length : Int)] W (GivesW W bl)) := ⟨fun W hb => HCB.out W (bnx HB0.out hb)⟩
    have HFIN : Kept (∀ (w9 : World) (A9 : Option Addr) (c9 : Nat) (A3 : Option Addr) (c3 : Nat) (r9 : List FactM), Below w1.heap.size w1 w9 → r9 = rs ++ [⟨⟨dev, ne, 2, cid, field, text, none, 0, 0⟩, A3, bl, c3⟩] → factE.Own w9 w1.heap.size 47 (.slice A9 r9.length c9) r9 → Own w9 w1.heap.size 33 (.slice A3 bl.length c3) (WB bl) →
        RdF w9 A9 (rs ++ [⟨⟨dev, ne, 2, cid, field, text, none, 0, 0⟩, A3, bl, c3⟩]) ∧ (∀ x, A9 = some x → w.heap.size ≤ x.block ∧ x.block < w9.heap.size) ∧ (∀ x, A3 = some x → w.heap.size ≤ x.block ∧ x.block < w9.heap.size) ∧ Below w.heap.size w w9) := ⟨fun w9 A9 c9 A3 c3 r9 hb he ho ha => by
      have hbw := bnx HB0.out hb
      refine ⟨⟨by rw [← he]; exact ho.rd, fun f hf => ?_⟩, fun x hx => ?_, fun x hx => ?_, hbw⟩
      · rcases List.mem_append.1 hf with h1 | h1
        · exact (H.out.2 f h1).next hbw
        · rw [List.mem_singleton.1 h1]
          exact ⟨⟨rfl, rfl, rfl⟩, ha.rd, HBL.out⟩
      · have h3 := OwnK.under ho x.block (by rw [hx]; rfl)
        have h2 := HB0.out.size
        exact ⟨by omega, h3.2⟩
      · have h3 := ha.lt x.block (by rw [hx]; rfl)
        have h2 := HB0.out.size
        exact ⟨by omega, h3.2⟩⟩
    have HB : Kept (Below w1.heap.size w1 w1.drew) := ⟨(Below.refl _ _).drew⟩
    clear HK HB0 HGL HCB H HBL
    refine wp_region_noPanic ?_
    refine wp_region_held_drew (S := fun W => W.cell? ⟨w.heap.size, 0, none⟩ = some (.int .u16 (dev : Int)) ∧ W.cell? ⟨w.heap.size, 1, none⟩ = some (.int .u64 (ne : Int)) ∧ W.cell? ⟨w.heap.size, 2, none⟩ = some (.int .u8 2) ∧ W.cell? ⟨w.heap.size, 3, none⟩ = some (.int .u64 (cid : Int)) ∧ W.cell? ⟨w.heap.size, 4, none⟩ = some (.int .u8 (field : Int)) ∧ W.cell? ⟨w.heap.size, 5, none⟩ = some (.string text) ∧ W.cell? ⟨w.heap.size, 6, none⟩ = some (.slice none 0 0)) (by kernel_rfl) (HS.out _ HB.out) (fun hS0 => ?_)
    refine wpAnyH_take (i := 1) (v := ?_) rfl (by kernel_rfl) (by kernel_rfl) (by kernel_rfl) (fun _ _ _ h => h) (Or.inl ⟨by rfl, ?_⟩) hS0 ?_
    case refine_2 => (intro W hSW; go_simp; try with_reducible rfl)
    try simp only [Act.put, List.setIfInBounds_toArray, List.set_cons_zero, List.set_cons_succ, List.getElem_toArray, List.getElem_cons_zero, List.getElem_cons_succ]
    refine wpAnyH_take (i := 3) (v := ?_) rfl (by kernel_rfl) (by kernel_rfl) (by kernel_rfl) (fun _ _ _ h => h) (Or.inl ⟨by rfl, ?_⟩) hS0 ?_
    case refine_2 => (intro W hSW; obtain ⟨z0, z1, z2, z3, z4, z5, z6⟩ := hSW; go_simp; try with_reducible rfl)
    try simp only [Act.put, List.setIfInBounds_toArray, List.set_cons_zero, List.set_cons_succ, List.getElem_toArray, List.getElem_cons_zero, List.getElem_cons_succ]
    refine wpAnyH_take (i := 4) (v := ?_) rfl (by kernel_rfl) (by kernel_rfl) (by kernel_rfl) (fun _ _ _ h => h) (Or.inl ⟨by rfl, ?_⟩) hS0 ?_
    case refine_2 => (intro W hSW; go_simp; try with_reducible rfl)
    try simp only [Act.put, List.setIfInBounds_toArray, List.set_cons_zero, List.set_cons_succ, List.getElem_toArray, List.getElem_cons_zero, List.getElem_cons_succ]
    refine wpAnyH_take (i := 5) (v := ?_) rfl (by kernel_rfl) (by kernel_rfl) (by kernel_rfl) (fun _ _ _ h => h) (Or.inl ⟨by rfl, ?_⟩) hS0 ?_
    case refine_2 => (intro W hSW; go_simp; try with_reducible rfl)
    try simp only [Act.put, List.setIfInBounds_toArray, List.set_cons_zero, List.set_cons_succ, List.getElem_toArray, List.getElem_cons_zero, List.getElem_cons_succ]
    refine wpAnyH_take (i := 6) (v := ?_) rfl (by kernel_rfl) (by kernel_rfl) (by kernel_rfl) (fun _ _ _ h => h) (Or.inl ⟨by rfl, ?_⟩) hS0 ?_
    case refine_2 => (intro W hSW; go_simp; try with_reducible rfl)
    try simp only [Act.put, List.setIfInBounds_toArray, List.set_cons_zero, List.set_cons_succ, List.getElem_toArray, List.getElem_cons_zero, List.getElem_cons_succ]
    refine wpAnyH_take (i := 11) (v := ?_) rfl (by kernel_rfl) (by kernel_rfl) (by kernel_rfl) (fun _ _ _ h => h) (Or.inl ⟨by rfl, ?_⟩) hS0 ?_
    case refine_2 => (intro W hSW; go_simp; try with_reducible rfl)
    try simp only [Act.put, List.setIfInBounds_toArray, List.set_cons_zero, List.set_cons_succ, List.getElem_toArray, List.getElem_cons_zero, List.getElem_cons_succ]
    refine wpAnyH_take (i := 12) (v := ?_) rfl (by kernel_rfl) (by kernel_rfl) (by kernel_rfl) (fun _ _ _ h => h) (Or.inl ⟨by rfl, ?_⟩) hS0 ?_
    case refine_2 => (intro W hSW; go_simp; try with_reducible rfl)
    try simp only [Act.put, List.setIfInBounds_toArray, List.set_cons_zero, List.set_cons_succ, List.getElem_toArray, List.getElem_cons_zero, List.getElem_cons_succ]
    refine wpAnyH_ready (rs := [0]) (by kernel_rfl) (by simp) ?_
    refine AllReadyH.cons rfl (fun K' hK => ?_) AllReadyH.nil
    go_simp
    have hbx : Below w1.drew.heap.size w1.drew (w1.drew.alloc (.cells #[] 47)) := (Below.refl _ _).alloc (Nat.le_refl _) _
    have HO : Kept (factE.Own (w1.drew.alloc (.cells #[] 47)) w1.heap.size 47 (.slice (some ⟨w1.drew.heap.size, 0, none⟩) 0 0) []) := ⟨by exact Elem.Own.mono (show factE.Own (w1.drew.alloc (.cells #[] 47)) w1.drew.heap.size 47 (.slice (some ⟨w1.drew.heap.size, 0, none⟩) 0 0) [] from two_o1 factE 47 w1.drew) HB.out.size⟩
    have HBx := kept (HB.out.trans (hbx.mono HB.out.size))
    clear HB
    have HB := HBx
    clear HBx
    clear hbx
    try simp only [Act.put, List.setIfInBounds_toArray, List.set_cons_zero, List.set_cons_succ, List.getElem_toArray, List.getElem_cons_zero, List.getElem_cons_succ]
    refine hK.out _ _ (HS.out _ HB.out) (fun hS0 => ?_)
    refine wpAnyH_ready (rs := [2]) (by kernel_rfl) (by simp) ?_
    refine AllReadyH.cons rfl (fun K' hK => ?_) AllReadyH.nil
    refine step_appEU _ factE (by rfl) (.tmp 23) (.tmp 24) 28 (by rfl) w1.heap.size 47 Tryz.underlying28 rfact_info (by rfl) _ [] (by rfl) HO.out _ X _ c rs (by rfl) rfl (HR.out _ HB.out) hz1.out (by decide) HB.out.size ?_
    intro A2 c2 wv2 r2 hr2 hown2 hu2 hx2
    have HU2 := kept (hu2 _ fun _ e => e)
    have HBx := kept (HB.out.trans (HU2.out.below HB.out.size fun k _ e => (OwnK.under HO.out k e).1))
    clear HB
    have HB := HBx
    clear HBx
    have HO2 := kept hown2
    clear hown2 hu2 hx2 HU2 HO
    try simp only [Act.put, List.setIfInBounds_toArray, List.set_cons_zero, List.set_cons_succ, List.getElem_toArray, List.getElem_cons_zero, List.getElem_cons_succ]
    refine hK.out _ _ (HS.out _ HB.out) (fun hS0 => ?_)
    refine wpAnyH_ready (rs := [7]) (by kernel_rfl) (by simp) ?_
    refine AllReadyH.cons rfl (fun K' hK => ?_) AllReadyH.nil
    go_simp
    go_at_call 23
    refine (CB.out _ HB.out).mono ?_
    rintro e wv3c ⟨A3, c3, rfl, ho3, hc3, hbx⟩
    have HA := kept (ho3.mono HB.out.size)
    have HO2x := kept (HO2.out.next hbx)
    clear HO2
    have HO2 := HO2x
    clear HO2x
    have HBx := kept (HB.out.trans (hbx.mono HB.out.size))
    clear HB
    have HB := HBx
    clear HBx
    clear ho3 hc3 hbx
    try simp only [Act.put, List.setIfInBounds_toArray, List.set_cons_zero, List.set_cons_succ, List.getElem_toArray, List.getElem_cons_zero, List.getElem_cons_succ]
    refine hK.out _ _ (HS.out _ HB.out) (fun hS0 => ?_)
    refine wpAnyH_take (i := 8) (v := ?_) rfl (by kernel_rfl) (by kernel_rfl) (by kernel_rfl) (fun _ _ _ h => h) (Or.inl ⟨by rfl, ?_⟩) hS0 ?_
    case refine_2 => (intro W hSW; go_simp; try with_reducible rfl)
    try simp only [Act.put, List.setIfInBounds_toArray, List.set_cons_zero, List.set_cons_succ, List.getElem_toArray, List.getElem_cons_zero, List.getElem_cons_succ]
    refine wpAnyH_ready (rs := [9]) (by kernel_rfl) (by simp) ?_
    refine AllReadyH.cons rfl (fun K' hK => ?_) AllReadyH.nil
    go_simp
    have hbx : Below wv3c.heap.size wv3c (wv3c.alloc (.cells #[.int .u16 (dev : Int), .int .u64 (ne : Int), .int .u8 2, .int .u64 (cid : Int), .int .u8 (field : Int), .string text, .slice none 0 0, .slice A3 bl.length c3] 47)) := (Below.refl _ _).alloc (Nat.le_refl _) _
    have HN : Kept (factE.Rd (wv3c.alloc (.cells #[.int .u16 (dev : Int), .int .u64 (ne : Int), .int .u8 2, .int .u64 (cid : Int), .int .u8 (field : Int), .string text, .slice none 0 0, .slice A3 bl.length c3] 47)) (wv3c.alloc (.cells #[.int .u16 (dev : Int), .int .u64 (ne : Int), .int .u8 2, .int .u64 (cid : Int), .int .u8 (field : Int), .string text, .slice none 0 0, .slice A3 bl.length c3] 47)).heap.size (some ⟨wv3c.heap.size, 0, none⟩) [⟨⟨dev, ne, 2, cid, field, text, none, 0, 0⟩, A3, bl, c3⟩]) := ⟨by exact Elem.Rd.more (Mem.Rd.new wv3c [.int .u16 (dev : Int), .int .u64 (ne : Int), .int .u8 2, .int .u64 (cid : Int), .int .u8 (field : Int), .string text, .slice none 0 0, .slice A3 bl.length c3] 47) (by simp)⟩
    have HAx := kept (HA.out.next hbx)
    clear HA
    have HA := HAx
    clear HAx
    have HO2x := kept (HO2.out.next hbx)
    clear HO2
    have HO2 := HO2x
    clear HO2x
    have HBx := kept (HB.out.trans (hbx.mono HB.out.size))
    clear HB
    have HB := HBx
    clear HBx
    clear hbx
    try simp only [Act.put, List.setIfInBounds_toArray, List.set_cons_zero, List.set_cons_succ, List.getElem_toArray, List.getElem_cons_zero, List.getElem_cons_succ]
    refine hK.out _ _ (HS.out _ HB.out) (fun hS0 => ?_)
    refine wpAnyH_ready (rs := [10]) (by kernel_rfl) (by simp) ?_
    refine AllReadyH.cons rfl (fun K' hK => ?_) AllReadyH.nil
    refine step_appEU _ factE (by rfl) (.tmp 25) (.tmp 32) 28 (by rfl) w1.heap.size 47 Tryz.underlying28 rfact_info (by rfl) _ r2 (by rfl) HO2.out _ _ _ _ [⟨⟨dev, ne, 2, cid, field, text, none, 0, 0⟩, A3, bl, c3⟩] (by rfl) rfl HN.out (hz2.out r2 hr2 _) (by decide) HB.out.size ?_
    intro A9 c9 w9 r9 hr9 hown9 hu9 hx9
    have HU9 := kept (hu9 _ fun _ e => e)
    have HAx := kept (HA.out.upd HU9.out fun k hk e => own_apart HA.out HO2.out (by decide) k hk e)
    clear HA
    have HA := HAx
    clear HAx
    have HBx := kept (HB.out.trans (HU9.out.below HB.out.size fun k _ e => (OwnK.under HO2.out k e).1))
    clear HB
    have HB := HBx
    clear HBx
    have HO9 := kept hown9
    clear hown9 hu9 hx9 HU9
    try simp only [Act.put, List.setIfInBounds_toArray, List.set_cons_zero, List.set_cons_succ, List.getElem_toArray, List.getElem_cons_zero, List.getElem_cons_succ]
    refine hK.out _ _ (HS.out _ HB.out) (fun hS0 => ?_)
    refine wpAnyH_take (i := 13) (v := ?_) rfl (by kernel_rfl) (by kernel_rfl) (by kernel_rfl) (fun _ _ _ h => h) (Or.inl ⟨by rfl, ?_⟩) hS0 ?_
    case refine_2 => (intro W hSW; go_simp; try with_reducible rfl)
    try simp only [Act.put, List.setIfInBounds_toArray, List.set_cons_zero, List.set_cons_succ, List.getElem_toArray, List.getElem_cons_zero, List.getElem_cons_succ]
    refine wpAnyH_take (i := 14) (v := ?_) rfl (by kernel_rfl) (by kernel_rfl) (by kernel_rfl) (fun _ _ _ h => h) (Or.inl ⟨by rfl, ?_⟩) hS0 ?_
    case refine_2 => (intro W hSW; go_simp; try with_reducible rfl)
    try simp only [Act.put, List.setIfInBounds_toArray, List.set_cons_zero, List.set_cons_succ, List.getElem_toArray, List.getElem_cons_zero, List.getElem_cons_succ]
    refine wpAnyH_take (i := 15) (v := ?_) rfl (by kernel_rfl) (by kernel_rfl) (by kernel_rfl) (fun _ _ _ h => h) (Or.inl ⟨by rfl, ?_⟩) hS0 ?_
    case refine_2 => (intro W hSW; go_simp; try with_reducible rfl)
    try simp only [Act.put, List.setIfInBounds_toArray, List.set_cons_zero, List.set_cons_succ, List.getElem_toArray, List.getElem_cons_zero, List.getElem_cons_succ]
    refine wpAnyH_done (by kernel_rfl) (NoPanic.normal ?_) _
    have HR9 : Kept (r9 = rs ++ [⟨⟨dev, ne, 2, cid, field, text, none, 0, 0⟩, A3, bl, c3⟩]) := ⟨by rw [hr9.out, hr2.out]; simp⟩
    have HF := kept (HFIN.out w9 A9 c9 A3 c3 r9 HB.out HR9.out HO9.out HA.out)
    have hrl : r9.length = rs.length + 1 := by rw [HR9.out, List.length_append]; rfl
    clear hr2 hr9 HO2 HN HO9 HA HB HR9
    go_wp2_with fail
    go_ret3
    exact HQ.out w9 A9 c9 A3 c3 HF.out
set_option maxRecDepth 100000 in
theorem radd_bad (X : Option Addr) (n c : Nat) (e : EvM) (A : Option Addr) (m cm : Nat) (w : World) (hk : ¬ (e.kind = 1 ∨ e.kind = 2)) :
    Calls Tryz.prog 8 #[.slice X n c, e.val, .slice A m cm] w fun en w' => en = .returned (.tuple #[.slice X n c, .int .i64 0, .int .i64 1]) ∧ Below w.heap.size w w' := by
  obtain ⟨dev, ne, kind, cid, field, text, kA, kn, kc⟩ := e
  dsimp only at hk
  show Calls Tryz.prog 8 #[.slice X n c, .agg #[.int .u16 (dev : Int), .int .u64 (ne : Int), .int .u8 (kind : Int), .int .u64 (cid : Int), .int .u8 (field : Int), .string text, .slice kA kn kc], .slice A m cm] w _
  have hk1 : ((kind : Int) != 1) = true := by simp; omega
  have hk2 : ((kind : Int) != 2) = true := by simp; omega
  clear hk
  go_enter Tryz.func8, Tryz.ntmps8
  go_wp2
  go_ret3
  exact ⟨rfl, (Below.refl _ _).alloc (Nat.le_refl _) _⟩
end Go.Proofs.YtfkfpanhbanljaaGreat.Past
