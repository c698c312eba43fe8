/- The laws of layer 4: works, and PackReads. -/
import Derived.Test.YtijdkbejlaebhaaPackWrite
import Derived.Test.YtijdkbejlaebhaaPackRefB
import Derived.Deep.RegionWith
import Derived.Deep.RegionHeld3
import Derived.Deep.DeepCutAuto
import Derived.Deep.LoopGhost
import Derived.Deep.CutBlock
namespace Go.Proofs.Ytijdkbejlaebhaa.Pack
open Go.RowKit Go.Proofs.Ytijdkbejlaebhaa.Mem Go.Proofs.Ytijdkbejlaebhaa.Num Go.Proofs.Ytijdkbejlaebhaa.Shift

theorem below_next {w w1 w2 : World} (h : Below w.heap.size w w1) (h2 : Below w1.heap.size w1 w2) : Below w.heap.size w w2 := h.trans (h2.mono h.size)
theorem below_new {w w1 : World} (h : Below w.heap.size w w1) (o : Obj) : Below w.heap.size w (w1.alloc o) := h.alloc h.size o
theorem equal_any (w : World) (B B' : Nat) (A A' : Option Addr) (n m c c' : Nat) (a b : List Nat) (hn : n = a.length) (hm : m = b.length) (ha : AllB a) (hb : AllB b) (h1 : Rd w B A (BB a)) (h2 : Rd w B' A' (BB b)) :
    Calls Try.prog 95 #[.slice A n c, .slice A' m c'] w fun e w' => e = .returned (.bool (decide (a = b))) ∧ w = w' := by
  subst hn hm
  have s1 := run_str w B A _ c a rfl h1
  have s2 := run_str w B' A' _ c' b rfl h2
  have s3 := str_eq ha hb
  go_enter Try.func95, Try.ntmps95
  go_wp2
  go_ret
  exact ⟨rfl, rfl⟩
theorem num258 : numB 258 = [2, 1, 2] := by decide
theorem num2 : numB 2 = [1, 2] := by decide
theorem text_ab : textB ⟨#[97, 98]⟩ = [1, 2, 97, 98] := by
  unfold textB
  rw [show (⟨#[97, 98]⟩ : ByteArray).size = 2 from rfl, num2]; rfl
theorem works_any (w : World) : Calls Try.prog 87 #[] w fun e w' => e = .returned (.bool true) ∧ Below w.heap.size w w' := by
  have h0 := Wtr.new w
  have C1 := kept (wnum_any _ _ [] 258 _ h0 (by decide) (by simp))
  rw [List.nil_append, num258] at C1
  have hb0 := kept ((Below.refl w.heap.size w).alloc (Nat.le_refl _) (.cells #[.slice none 0 0] 106))
  clear h0
  go_enter Try.func87, Try.ntmps87
  go_wp2_with fail
  refine C1.out.mono ?_
  rintro e w1 ⟨rfl, S1, h1, hg1⟩
  have hb1 : Below w.heap.size w w1 := hb0.out.trans (hg1.below (by simp) (fun i hi => by omega))
  have hB1 : ∀ i, S1 i → w.heap.size ≤ i := hg1.base (by simp) (fun i hi => by omega)
  have C2 := kept (wtext_any S1 _ _ ⟨#[97, 98]⟩ w1 h1 (by show 3 + 2 ≤ _; omega))
  rw [text_ab] at C2
  have HB1 := kept hB1
  clear h1 hg1 hB1
  go_wp2_with fail
  refine C2.out.mono ?_
  rintro e w2 ⟨rfl, S2, h2, hg2⟩
  have hb2 : Below w.heap.size w w2 := hb1.trans (hg2.below hb1.size HB1.out)
  have C3 := kept (wbytes_any S2 _ _ w2 h2 (by simp))
  clear h2 hg2
  go_wp2_with fail
  refine C3.out.mono ?_
  rintro e w3 ⟨A3, c3, rfl, o3, hc3, hb3⟩
  have hb3' := below_next hb2 hb3
  have r3 := (o3.rd.alloc (Nat.le_refl _) (.cells #[.int .u8 2, .int .u8 1, .int .u8 2, .int .u8 1, .int .u8 2, .int .u8 97, .int .u8 98] 5))
  have r4 : Rd (w3.alloc (.cells #[.int .u8 2, .int .u8 1, .int .u8 2, .int .u8 1, .int .u8 2, .int .u8 97, .int .u8 98] 5)) (w3.heap.size + 1) (some ⟨w3.heap.size, 0, none⟩) (BB [2, 1, 2, 1, 2, 97, 98]) := Rd.new w3 [.int .u8 2, .int .u8 1, .int .u8 2, .int .u8 1, .int .u8 2, .int .u8 97, .int .u8 98] 5
  have hall : AllB ([2, 1, 2] ++ [1, 2, 97, 98]) := fun x hx => by simp at hx; omega
  have C4 := kept (equal_any _ _ _ A3 _ _ 7 c3 7 _ _ rfl rfl hall hall r3 r4)
  clear r3 r4 o3 hb3
  have HB3 := kept hb3'
  clear hb3'
  go_wp2_with fail
  refine C4.out.mono ?_
  rintro e w' ⟨rfl, rfl⟩
  simp only [decide_true]
  go_wp2
  go_ret
  exact ⟨rfl, below_new HB3.out _⟩
/-- a call of a reader -/
structure ActR where
  k : Nat
  m : Int
def actE : Elem ActR := ⟨fun x => [.int .u8 (x.k : Int), .int .i64 x.m], 2, by decide, fun _ => rfl, fun x u hu => by
  simp only [List.mem_cons, List.not_mem_nil, or_false] at hu
  rcases hu with rfl | rfl <;> rfl⟩
instance : Inhabited ActR := ⟨⟨0, 0⟩⟩
def ActR.Ok (x : ActR) : Prop := x.k < 256 ∧ -9223372036854775808 ≤ x.m ∧ x.m ≤ 9223372036854775807
/-- the two readers, apart -/
def Both (w : World) (S T : Nat → Prop) (g h : Nat) (r : RS) : Prop := Rdr w S g r ∧ RRdr w T h r
/-- the answers agree, and both go on alike -/
def Went (base : World) (S T : Nat → Prop) (g h : Nat) (w : World) : Prop := (∃ r, Rdr w S g r ∧ RRdr w T h r) ∧ Below base.heap.size base w
theorem went_on {base w0 w2 w3 : World} {S T : Nat → Prop} {g h : Nat} {r : RS} (hb0 : Below base.heap.size base w0) (hg : base.heap.size ≤ g) (hh : base.heap.size ≤ h) (hSh : ¬ S h)
    (hR2 : Rdr w2 S g r) (hu2 : Upd (fun k => k = g) w0 w2) (hX3 : RRdr w3 T h r) (hu3 : Upd (fun k => k = h) w2 w3) : Went base S T g h w3 := by
  have hb2 : Below base.heap.size base w2 := hb0.trans (hu2.below hb0.size (fun i _ e => by omega))
  exact ⟨⟨r, hR2.upd hu3 (fun k hk e => hSh (e ▸ hk)), hX3⟩, hb2.trans (hu3.below hb2.size (fun i _ e => by omega))⟩
theorem went_on' {base w0 w2 w3 : World} {S T : Nat → Prop} {g h : Nat} {r : RS} (hb0 : Below base.heap.size base w0) (hg : base.heap.size ≤ g) (hh : base.heap.size ≤ h) (hTg : ¬ T g)
    (hX2 : RRdr w2 T h r) (hu2 : Upd (fun k => k = h) w0 w2) (hR3 : Rdr w3 S g r) (hu3 : Upd (fun k => k = g) w2 w3) : Went base S T g h w3 := by
  have hb2 : Below base.heap.size base w2 := hb0.trans (hu2.below hb0.size (fun i _ e => by omega))
  exact ⟨⟨r, hR3, hX2.upd hu3 (fun k hk e => hTg (e ▸ hk))⟩, hb2.trans (hu3.below hb2.size (fun i _ e => by omega))⟩
set_option maxRecDepth 100000 in
set_option maxHeartbeats 4000000 in
theorem reads_law (A B : Option Addr) (c d : Nat) (l : List Nat) (ls : List ActR) (w : World) (hl : AllB l) (has : ∀ x ∈ ls, x.Ok) (r1 : Rd w w.heap.size A (BB l)) (r2 : actE.Rd w w.heap.size B ls) (hc : l.length ≤ c) (hcc : c ≤ 140737488351232) (has2 : ls.length ≤ 9223372036854775807) :
    Calls Try.prog 11 #[.slice A l.length c, .slice B ls.length d] w fun e w' => e = .returned (.bool true) ∧ Below w.heap.size w w' := by
  have C0 := kept (new_any A _ c l w rfl hl r1 (by omega))
  go_enter Try.func11, Try.ntmps11
  go_wp2_with fail
  refine C0.out.mono ?_
  rintro e w1 ⟨S, g, rfl, hR, hS, hb1⟩
  have hkx := Blk.new w1 [.slice A l.length c, .int .i64 0, .int .i64 0] 93
  have hbn := below_new hb1 (.cells #[.slice A l.length c, .int .i64 0, .int .i64 0] 93)
  have hsz := hb1.size
  have hRn := hR.next ((Below.refl w1.heap.size w1).alloc (Nat.le_refl _) (.cells #[.slice A l.length c, .int .i64 0, .int .i64 0] 93))
  have hgS : w.heap.size ≤ g := hS g hR.2.1
  have hg1 : g < w1.heap.size := hR.2.2.1 g hR.2.1
  have hSg : ¬ S w1.heap.size := fun h => by have := hR.2.2.1 _ h; omega
  have hA : ∀ x, A = some x → l ≠ [] → x.block < w.heap.size := fun x hx hne => by
    obtain ⟨b, o, e, hb, _⟩ := r1 (by cases l with | nil => exact absurd rfl hne | cons y t => simp [BB])
    rw [hx] at e
    obtain rfl := Option.some.inj e
    exact hb
  have hX : RRdr (w1.alloc (.cells #[.slice A l.length c, .int .i64 0, .int .i64 0] 93)) (fun k => k = w1.heap.size ∨ (l ≠ [] ∧ ∃ x, A = some x ∧ x.block = k)) w1.heap.size ⟨l, 0⟩ := by
    refine ⟨RS.new hl (by omega), .inl rfl, ?_, A, l, c, 0, hkx, (r1.below hbn).more (by simp; omega), hl, hc, by omega, by omega, Nat.zero_le _, fun _ => rfl, fun x hx hne => ?_⟩
    · rintro k (rfl | ⟨hne, x, hx, rfl⟩)
      · simp
      · have := hA x hx hne; simp; omega
    · have hne' : l ≠ [] := fun e => hne (by rw [e]; rfl)
      exact ⟨.inr ⟨hne', x, hx, rfl⟩, by have := hA x hx hne'; omega⟩
  have hTg : ¬ (g = w1.heap.size ∨ (l ≠ [] ∧ ∃ x, A = some x ∧ x.block = g)) := by
    rintro (h | ⟨hne, x, hx, hb⟩)
    · omega
    · have := hA x hx hne; omega
  have hhS : w.heap.size ≤ w1.heap.size := hb1.size
  have hTg : ¬ (fun k => k = w1.heap.size ∨ (l ≠ [] ∧ ∃ x, A = some x ∧ x.block = k)) g := hTg
  generalize (fun k => k = w1.heap.size ∨ (l ≠ [] ∧ ∃ x, A = some x ∧ x.block = k)) = T at *
  have hRX := kept (And.intro hRn hX)
  have HB := kept hbn
  clear hRn hX hbn hkx hR hb1 hA hsz
  go_wp2_with fail
  go_loopg [7] ls.length (fun n i wr => ∃ j : Nat, n + j = ls.length ∧ i = .int .i64 (j : Int) ∧ Went w S T g w1.heap.size wr)
  case atStart => exact ⟨0, rfl, rfl, ⟨_, hRX.out.1, hRX.out.2⟩, HB.out⟩
  case round =>
    obtain ⟨j, hj, rfl, ⟨r, hR, hX⟩, hb⟩ := hrel
    by_cases hlt : j < ls.length
    · obtain ⟨x, hx⟩ : ∃ x, ls[j]? = some x := ⟨_, List.getElem?_eq_getElem hlt⟩
      obtain ⟨b, o, rfl, hbb, hcell⟩ := (r2.below hb).at_ hx
      have hc0 := hcell 0 _ rfl
      have hc1 := hcell 1 _ rfl
      rw [show actE.k = 2 from rfl] at hc0 hc1
      rw [Nat.add_zero] at hc0
      rw [← Nat.add_assoc] at hc1
      obtain ⟨hx1, hx2, hx3⟩ := has x (List.mem_of_getElem? hx)
      obtain ⟨k, m⟩ := x
      dsimp only at hc0 hc1 hx1 hx2 hx3
      have HR := kept hR
      have HX := kept hX
      clear hR hX hcell hx
      go_upto_block 2 with fail
      go_cut [9] (fun p wx => p = .bool true ∧ Went w S T g w1.heap.size wx)
      case first =>
        obtain ⟨w0, hw0⟩ : ∃ w0, wr.alloc (.cells #[.int .u8 (k : Int), .int .i64 m] 95) = w0 := ⟨_, rfl⟩
        have ka := Blk.new wr [.int .u8 (k : Int), .int .i64 m] 95
        have hba := (Below.refl wr.heap.size wr).alloc (Nat.le_refl _) (.cells #[.int .u8 (k : Int), .int .i64 m] 95)
        rw [hw0] at ka hba ⊢
        have HR0 := kept (HR.out.next hba)
        have HX0 := kept (HX.out.next hba)
        have HB0 := kept (below_next hb hba)
        have ha1 := ka.cell (j := 1) rfl
        have hga := ka.lt
        have hag : wr.heap.size ≠ g := by have := HR.out.2.2.1 g HR.out.2.1; omega
        have hah : wr.heap.size ≠ w1.heap.size := by have := HX.out.2.2.1 _ HX.out.2.1; omega
        clear hw0 ka hba HR HX hc0 hc1 hb hbb
        generalize wr.heap.size = ga at *
        by_cases h0 : k = 0
        · subst h0
          go_wp2_with fail
          refine (num_any S g r _ HR0.out).mono ?_
          rintro e w2 ⟨rfl, hR2, hu2⟩
          have hX2 := HX0.out.upd hu2 (fun k hk e => hTg (e ▸ hk))
          have HR2 := kept hR2
          have HU2 := kept hu2
          clear hR2 hu2
          go_wp2_with fail
          refine (xnum_any T w1.heap.size r _ hX2).mono ?_
          rintro e w3 ⟨rfl, hX3, hu3⟩
          have HW := kept (went_on HB0.out hgS hhS hSg HR2.out HU2.out hX3 hu3)
          clear hX2 hX3 hu3
          go_wp2_with fail
          go_meet
          exact ⟨rfl, HW.out⟩
        have d0 : ((k : Int) == 0) = false := by rw [beq_eq_false_iff_ne]; omega
        by_cases h1 : k = 1
        · subst h1
          obtain ⟨M, hM⟩ : ∃ M : Nat, IntKind.u64.wrap m = (M : Int) := ⟨(IntKind.u64.wrap m).toNat, by rw [IntKind.wrap_u64]; omega⟩
          have CR := kept (fun W hW => upto_any S g r M W hW)
          have CX := kept (fun W hW => xupto_any T w1.heap.size r M W hW)
          go_wp2_with fail
          go_region_held3 (fun W => W.cell? ⟨ga, 1, none⟩ = some (.int .i64 m)) (assumption) (first
            | (go_at_call 72; (refine (CR.out _ ?_).mono ?_; (exact hRa); rintro e w3 ⟨rfl, hR3, hu3⟩; have hv3 : Upd (fun k => k = g) w2 w3 := (by first | exact hu3 | exact ((Upd.refl _ _).drew).trans hu3); have HWb := kept (went_on' HB0.out hgS hhS hTg HXa.out HUa.out hR3 hv3); have hc3 := (hv3.cell (p := ⟨ga, 1, none⟩) hga2 hag).trans hc2))
            | (go_at_call 73; (refine (CX.out _ ?_).mono ?_; (exact hXb); rintro e w3 ⟨rfl, hX3, hu3⟩; have hv3 : Upd (fun k => k = w1.heap.size) w2 w3 := (by first | exact hu3 | exact ((Upd.refl _ _).drew).trans hu3); have HWa := kept (went_on HB0.out hgS hhS hSg HRb.out HUb.out hX3 hv3); have hc3 := (hv3.cell (p := ⟨ga, 1, none⟩) hga2 hah).trans hc2))
            | (go_at_call 72; (refine (CR.out _ ?_).mono ?_; (exact HR0.out); rintro e w2 ⟨rfl, hR2, hu2⟩; have hv2 : Upd (fun k => k = g) w0 w2 := (by first | exact hu2 | exact ((Upd.refl _ _).drew).trans hu2); have hXb := HX0.out.upd hv2 (fun k hk e => hTg (e ▸ hk)); have HRb := kept hR2; have HUb := kept hv2; have hc2 := (hv2.cell (p := ⟨ga, 1, none⟩) hga hag).trans ha1; have hga2 : ga < w2.heap.size := Nat.lt_of_lt_of_le hga hv2.size))
            | (go_at_call 73; (refine (CX.out _ ?_).mono ?_; (exact HX0.out); rintro e w2 ⟨rfl, hX2, hu2⟩; have hv2 : Upd (fun k => k = w1.heap.size) w0 w2 := (by first | exact hu2 | exact ((Upd.refl _ _).drew).trans hu2); have hRa := HR0.out.upd hv2 (fun k hk e => hSg (e ▸ hk)); have HXa := kept hX2; have HUa := kept hv2; have hc2 := (hv2.cell (p := ⟨ga, 1, none⟩) hga hah).trans ha1; have hga2 : ga < w2.heap.size := Nat.lt_of_lt_of_le hga hv2.size)))
          all_goals (go_wp2_with fail; go_meet)
          all_goals first
            | exact ⟨rfl, HWa.out⟩
            | exact ⟨rfl, HWb.out⟩
        have d1 : ((k : Int) == 1) = false := by rw [beq_eq_false_iff_ne]; omega
        by_cases h2 : k = 2
        · subst h2
          go_wp2_with fail
          refine (byte_any S g r _ HR0.out).mono ?_
          rintro e w2 ⟨rfl, hR2, hu2⟩
          have hX2 := HX0.out.upd hu2 (fun k hk e => hTg (e ▸ hk))
          have HR2 := kept hR2
          have HU2 := kept hu2
          clear hR2 hu2
          go_wp2_with fail
          refine (xbyte_any T w1.heap.size r _ hX2).mono ?_
          rintro e w3 ⟨rfl, hX3, hu3⟩
          have HW := kept (went_on HB0.out hgS hhS hSg HR2.out HU2.out hX3 hu3)
          clear hX2 hX3 hu3
          go_wp2_with fail
          go_meet
          exact ⟨rfl, HW.out⟩
        have d2 : ((k : Int) == 2) = false := by rw [beq_eq_false_iff_ne]; omega
        by_cases h3 : k = 3
        · subst h3
          go_wp2_with fail
          refine (flag_any S g r _ HR0.out).mono ?_
          rintro e w2 ⟨rfl, hR2, hu2⟩
          have hX2 := HX0.out.upd hu2 (fun k hk e => hTg (e ▸ hk))
          have HR2 := kept hR2
          have HU2 := kept hu2
          clear hR2 hu2
          go_wp2_with fail
          refine (xflag_any T w1.heap.size r _ hX2).mono ?_
          rintro e w3 ⟨rfl, hX3, hu3⟩
          have HW := kept (went_on HB0.out hgS hhS hSg HR2.out HU2.out hX3 hu3)
          clear hX2 hX3 hu3
          go_wp2_with fail
          go_meet
          exact ⟨rfl, HW.out⟩
        have d3 : ((k : Int) == 3) = false := by rw [beq_eq_false_iff_ne]; omega
        by_cases h4 : k = 4
        · subst h4
          have CR := kept (fun W hW => text_any S g r m W hW hx3)
          have CX := kept (fun W hW => xtext_any T w1.heap.size r m W hW hx3)
          go_wp2_with fail
          go_region_held3 (fun W => W.cell? ⟨ga, 1, none⟩ = some (.int .i64 m)) (assumption) (first
            | (go_at_call 78; (refine (CR.out _ ?_).mono ?_; (exact hRa); rintro e w3 ⟨rfl, hR3, hu3⟩; have hv3 : Upd (fun k => k = g) w2 w3 := (by first | exact hu3 | exact ((Upd.refl _ _).drew).trans hu3); have HWb := kept (went_on' HB0.out hgS hhS hTg HXa.out HUa.out hR3 hv3); have hc3 := (hv3.cell (p := ⟨ga, 1, none⟩) hga2 hag).trans hc2))
            | (go_at_call 79; (refine (CX.out _ ?_).mono ?_; (exact hXb); rintro e w3 ⟨rfl, hX3, hu3⟩; have hv3 : Upd (fun k => k = w1.heap.size) w2 w3 := (by first | exact hu3 | exact ((Upd.refl _ _).drew).trans hu3); have HWa := kept (went_on HB0.out hgS hhS hSg HRb.out HUb.out hX3 hv3); have hc3 := (hv3.cell (p := ⟨ga, 1, none⟩) hga2 hah).trans hc2))
            | (go_at_call 78; (refine (CR.out _ ?_).mono ?_; (exact HR0.out); rintro e w2 ⟨rfl, hR2, hu2⟩; have hv2 : Upd (fun k => k = g) w0 w2 := (by first | exact hu2 | exact ((Upd.refl _ _).drew).trans hu2); have hXb := HX0.out.upd hv2 (fun k hk e => hTg (e ▸ hk)); have HRb := kept hR2; have HUb := kept hv2; have hc2 := (hv2.cell (p := ⟨ga, 1, none⟩) hga hag).trans ha1; have hga2 : ga < w2.heap.size := Nat.lt_of_lt_of_le hga hv2.size))
            | (go_at_call 79; (refine (CX.out _ ?_).mono ?_; (exact HX0.out); rintro e w2 ⟨rfl, hX2, hu2⟩; have hv2 : Upd (fun k => k = w1.heap.size) w0 w2 := (by first | exact hu2 | exact ((Upd.refl _ _).drew).trans hu2); have hRa := HR0.out.upd hv2 (fun k hk e => hSg (e ▸ hk)); have HXa := kept hX2; have HUa := kept hv2; have hc2 := (hv2.cell (p := ⟨ga, 1, none⟩) hga hah).trans ha1; have hga2 : ga < w2.heap.size := Nat.lt_of_lt_of_le hga hv2.size)))
          all_goals (go_wp2_with fail; go_meet)
          all_goals first
            | exact ⟨rfl, HWa.out⟩
            | exact ⟨rfl, HWb.out⟩
        have d4 : ((k : Int) == 4) = false := by rw [beq_eq_false_iff_ne]; omega
        by_cases h5 : k = 5
        · subst h5
          go_wp2_with fail
          refine (fail_any S g r 1 _ HR0.out (by decide)).mono ?_
          rintro e w2 ⟨rfl, hR2, hu2⟩
          have hX2 := HX0.out.upd hu2 (fun k hk e => hTg (e ▸ hk))
          have HR2 := kept hR2
          have HU2 := kept hu2
          clear hR2 hu2
          go_wp2_with fail
          refine (xfail_any T w1.heap.size r 1 _ hX2 (by decide) (by decide)).mono ?_
          rintro e w3 ⟨rfl, hX3, hu3⟩
          have HW := kept (went_on HB0.out hgS hhS hSg HR2.out HU2.out hX3 hu3)
          clear hX2 hX3 hu3
          go_wp2_with fail
          go_meet
          exact ⟨rfl, HW.out⟩
        have d5 : ((k : Int) == 5) = false := by rw [beq_eq_false_iff_ne]; omega
        by_cases h6 : k = 6
        · subst h6
          go_wp2_with fail
          refine (end_any S g r _ HR0.out).mono ?_
          rintro e w2 ⟨rfl, hR2, hu2⟩
          have hX2 := HX0.out.upd hu2 (fun k hk e => hTg (e ▸ hk))
          have HR2 := kept hR2
          have HU2 := kept hu2
          clear hR2 hu2
          go_wp2_with fail
          refine (xend_any T w1.heap.size r _ hX2).mono ?_
          rintro e w3 ⟨rfl, hX3, hu3⟩
          have HW := kept (went_on HB0.out hgS hhS hSg HR2.out HU2.out hX3 hu3)
          clear hX2 hX3 hu3
          go_wp2_with fail
          go_meet
          exact ⟨rfl, HW.out⟩
        have d6 : ((k : Int) == 6) = false := by rw [beq_eq_false_iff_ne]; omega
        go_wp2_with fail
        refine (left_any S g r _ HR0.out).mono ?_
        rintro e w2 ⟨rfl, rfl⟩
        go_wp2_with fail
        refine (xleft_any T w1.heap.size r _ HX0.out).mono ?_
        rintro e w3 ⟨rfl, q, rfl⟩
        have HW := kept (went_on HB0.out hgS hhS hSg HR0.out (Upd.refl _ _) (HX0.out.next (below_draw _ _ q)) ((Upd.refl _ _).drewN q))
        go_wp2_with fail
        go_meet
        exact ⟨rfl, HW.out⟩
      case rest =>
        obtain ⟨rfl, ⟨r', hR', hX'⟩, hb'⟩ := hcut
        have CL := kept (fun q => left_any S g r' (wc.drewN q) hR')
        have CX := kept (fun q => xleft_any T w1.heap.size r' (wc.drewN q) hX')
        have CE := kept (fun q => rerr_any S g r' (wc.drewN q) hR')
        have hcx := hX'.cells
        obtain ⟨hlx, hcx2, _⟩ := hcx
        have HR' := kept hR'
        have HX' := kept hX'
        clear hR' hX' hc0 hc1 HR HX
        go_wp2_with fail
        go_quiet (first
          | (go_at_call 84; exact Calls.quiet_of_same ((CL.out _).mono fun e w' ⟨a, b⟩ => ⟨a, b.symm⟩))
          | (go_at_call 85; exact Calls.quiet_of (CX.out _))
          | (go_at_call 86; exact Calls.quiet_of_same ((CE.out _).mono fun e w' ⟨a, b⟩ => ⟨a, b.symm⟩)))
        go_wp2
        go_roundg (gk - 1)
        case measure => omega
        case rel => exact ⟨j + 1, by omega, by go_num, ⟨r', HR'.out.next (below_draw _ _ _), HX'.out.next (below_draw _ _ _)⟩, hb'.trans (below_draw _ _ _)⟩
    · go_wp2_with fail
      refine (end_any S g r _ hR).mono ?_
      rintro e w2 ⟨rfl, hR2, hu2⟩
      have hX2 := hX.upd hu2 (fun k hk e => hTg (e ▸ hk))
      have HR2 := kept hR2
      have HU2 := kept hu2
      clear hR2 hu2
      go_wp2_with fail
      refine (xend_any T w1.heap.size r _ hX2).mono ?_
      rintro e w3 ⟨rfl, hX3, hu3⟩
      have HW := kept (went_on hb hgS hhS hSg HR2.out HU2.out hX3 hu3)
      clear hX2 hX3 hu3
      go_wp2_with fail
      refine (works_any _).mono ?_
      rintro e w4 ⟨rfl, hb4⟩
      go_wp2
      go_ret
      exact ⟨rfl, below_next HW.out.2 hb4⟩
end Go.Proofs.Ytijdkbejlaebhaa.Pack
