/- The walks of layer 24, continued: what a file tells. -/
import Derived.Test.YtdlghabpnpbebaaDoorJrnHead
import Derived.Deep.RegionLaw
import Derived.IntWalk
namespace Go.Proofs.YtdlghabpnpbebaaDoor.Jrn
open Go.RowKit Go.Proofs.YtdlghabpnpbebaaDoor.Mem Go.Proofs.YtdlghabpnpbebaaDoor.Num Go.Proofs.YtdlghabpnpbebaaDoor.Wal Go.Proofs.YtdlghabpnpbebaaDoor.Disk Go.Proofs.YtdlghabpnpbebaaDoor.Pack Go.Proofs.YtdlghabpnpbebaaDoor.Crc Go.Proofs.YtdlghabpnpbebaaDoor.Shift

/-- what is read lies from block lo on -/
def Fresh (lo : Nat) (A X : Option Addr) (ps : List Part) : Prop :=
  (∀ x, A = some x → lo ≤ x.block) ∧ (∀ x, X = some x → lo ≤ x.block) ∧ ∀ p ∈ ps, ∀ x, p.A = some x → lo ≤ x.block
theorem Fresh.none (lo : Nat) : Fresh lo none none [] := ⟨(fun _ h => by cases h), (fun _ h => by cases h), (fun _ h => by cases h)⟩
/-- what look gives -/
def LookG (w : World) (F : Found) (e : Ending) (w' : World) : Prop :=
  ∃ A c X c2 ps, e = .returned (.agg #[.int .u64 (F.gen : Int), .slice A F.snap.length c, .slice X (List.length ps) c2, .int .i64 (F.fin : Int)]) ∧ bodies ps = F.recs ∧ Rd w' w'.heap.size A (BB F.snap) ∧ RdParts w' w'.heap.size X ps ∧ F.snap.length ≤ c ∧ F.gen < 18446744073709551616 ∧ F.fin ≤ 1048576 ∧ AllB F.snap ∧ F.snap.length ≤ 1048576 ∧ F.recs.length ≤ 1048576 ∧ Fresh w.heap.size A X ps ∧ Below w.heap.size w w'
theorem scans_le {b : List Nat} {l : List (List Nat)} {e : Nat} (h : Scans b l e) : e ≤ b.length := by
  obtain ⟨rest, h1, h2, h3⟩ := h
  rw [h1, List.length_append, h2]; omega
theorem recsB_count (l : List (List Nat)) : l.length ≤ (recsB l).length := by
  induction l with
  | nil => simp
  | cons r l ih =>
    have e : recsB (r :: l) = recB r ++ recsB l := rfl
    have := recB_ge r
    rw [e, List.length_append, List.length_cons]; omega
theorem rec_len {l : List (List Nat)} {r : List Nat} (h : r ∈ l) : r.length ≤ (recsB l).length := by
  induction l with
  | nil => cases h
  | cons q l ih =>
    have e : recsB (q :: l) = recB q ++ recsB l := rfl
    have := recB_ge q
    rw [e, List.length_append]
    rcases List.mem_cons.1 h with rfl | h
    · omega
    · have := ih h; omega
theorem Blk.set4 {w : World} {g : Nat} {u0 u1 u2 u3 v0 v1 v2 v3 : Value} {t : TypeId} (h : Blk w g [u0, u1, u2, u3] t) : Blk ((((w.setCell ⟨g, 0, none⟩ v0).setCell ⟨g, 1, none⟩ v1).setCell ⟨g, 2, none⟩ v2).setCell ⟨g, 3, none⟩ v3) g [v0, v1, v2, v3] t := (((h.set 0 v0).set 1 v1).set 2 v2).set 3 v3
theorem below_set4 {w w1 : World} (h : Below w.heap.size w w1) {g : Nat} (hp : w.heap.size ≤ g) (v0 v1 v2 v3 : Value) : Below w.heap.size w ((((w1.setCell ⟨g, 0, none⟩ v0).setCell ⟨g, 1, none⟩ v1).setCell ⟨g, 2, none⟩ v2).setCell ⟨g, 3, none⟩ v3) :=
  (((h.setCell (p := ⟨g, 0, none⟩) hp v0).setCell (p := ⟨g, 1, none⟩) hp v1).setCell (p := ⟨g, 2, none⟩) hp v2).setCell (p := ⟨g, 3, none⟩) hp v3
theorem OwnK.low4 {size : Nat} {w : World} {base : Nat} {e : TypeId} {v : Value} {n : Nat} {xs : List Value} (h : OwnK size w base e v n xs) {g : Nat} (hg : g < base) (v0 v1 v2 v3 : Value) : OwnK size ((((w.setCell ⟨g, 0, none⟩ v0).setCell ⟨g, 1, none⟩ v1).setCell ⟨g, 2, none⟩ v2).setCell ⟨g, 3, none⟩ v3) base e v n xs :=
  (((h.low (p := ⟨g, 0, none⟩) hg v0).low (p := ⟨g, 1, none⟩) hg v1).low (p := ⟨g, 2, none⟩) hg v2).low (p := ⟨g, 3, none⟩) hg v3
theorem parts_low4 {w : World} {base : Nat} {X : Option Addr} {c : Nat} {ps : List Part} (h : OwnParts w base X c ps) {g : Nat} (hg : g < base) (v0 v1 v2 v3 : Value) : OwnParts ((((w.setCell ⟨g, 0, none⟩ v0).setCell ⟨g, 1, none⟩ v1).setCell ⟨g, 2, none⟩ v2).setCell ⟨g, 3, none⟩ v3) base X c ps :=
  ⟨OwnK.low4 h.1 hg v0 v1 v2 v3, fun p hp => ⟨OwnK.low4 (h.2 p hp).1 hg v0 v1 v2 v3, (h.2 p hp).2⟩⟩
theorem parts_tail {w : World} {B : Nat} {b1 o1 c : Nat} {p : Part} {ps : List Part} (h : RdParts w B (some ⟨b1, o1, none⟩) (p :: ps)) (hc : (p :: ps).length ≤ c) : RdParts w B (if c = 1 then some ⟨b1, o1, none⟩ else some ⟨b1, o1 + 1, none⟩) ps := by
  refine ⟨?_, fun q hq => h.2 q (List.mem_cons_of_mem _ hq)⟩
  have := h.1.drop 1 c (p :: ps).length (by simp) hc (by simp)
  simp only [List.map_cons, List.drop_succ_cons, List.drop_zero, Option.map_some, add_plain] at this
  exact this
set_option maxHeartbeats 1000000 in
set_option maxRecDepth 100000 in
theorem look_any (Y : Option Addr) (m c : Nat) (b : List Nat) (w : World) (hm : m = b.length) (hT : Tab w) (hl : AllB b) (hle : b.length ≤ c) (hc : c ≤ 9223372036854775807) (hr : Rd w w.heap.size Y (BB b)) (hsz : b.length ≤ 1048576) :
    Calls Tryd.prog 38 #[.slice Y m c] w (LookG w (look b)) := by
  subst hm
  have hk0 := Blk.new w [.int .u64 0, .slice none 0 0, .slice none 0 0, .int .i64 0] 78
  have hb0 : Below w.heap.size w (w.alloc (.cells #[.int .u64 0, .slice none 0 0, .slice none 0 0, .int .i64 0] 78)) := (Below.refl _ _).alloc (Nat.le_refl _) _
  have CS := kept (scan_any Y b.length c b (w.alloc (.cells #[.int .u64 0, .slice none 0 0, .slice none 0 0, .int .i64 0] 78)) rfl (hT.next hb0) hl hle hc (hr.next hb0) (by omega))
  have HLK : Kept (look b = lookL (scanM b) (recsB (scanM b)).length) := ⟨rfl⟩
  have HK0 := kept hk0
  have HZ : Kept (LookG w zeroF = LookG w zeroF) := ⟨rfl⟩
  clear hT hr hk0
  go_enter Tryd.func38, Tryd.ntmps38
  go_wp2_with fail
  refine CS.out.mono ?_
  rintro e w1 ⟨X, c1, ps, fin, rfl, hsc, hop, hb1⟩
  have hk1 := HK0.out.next hb1
  have hb1 := below_c hb0 hb1
  obtain ⟨hbo, hfi⟩ := scans_is (by omega) hsc
  have hfl := scans_le hsc
  have hrp := hop.rd
  have HOP := kept hop
  have HSC := kept hsc
  clear CS HK0 hop hb0 hsc
  cases ps with
  | nil =>
    have hn : scanM b = [] := by rw [← hbo]; rfl
    have HR : Kept (look b = zeroF) := ⟨by rw [HLK.out, hn]; rfl⟩
    have f0 := hk1.frozen 0
    have f1 := hk1.frozen 1
    have f2 := hk1.frozen 2
    have f3 := hk1.frozen 3
    have c0 := hk1.cell (j := 0) rfl
    have c1' := hk1.cell (j := 1) rfl
    have c2' := hk1.cell (j := 2) rfl
    have c3' := hk1.cell (j := 3) rfl
    clear hbo hfi hrp HSC HLK hn HOP
    go_wp2_with fail
    rw [HR.out]
    exact bodyPost_ret (res_cell_one rfl _ w.heap.size _ [.int .u64 0, .slice none 0 0, .slice none 0 0, .int .i64 0] _ rfl (Blk.set4 hk1) rfl rfl rfl) rfl ⟨none, 0, none, 0, [], rfl, rfl, Rd.nil, ⟨Rd.nil, fun p hp => by cases hp⟩, Nat.le_refl _, by decide, Nat.zero_le _, (fun x hx => by cases hx), Nat.zero_le _, Nat.zero_le _, Fresh.none _, below_set4 hb1 (Nat.le_refl _) _ _ _ _⟩
  | cons p ps =>
    have hb2 : scanM b = p.l :: bodies ps := hbo.symm
    obtain ⟨pA, pl, pc⟩ := p
    obtain ⟨b1, o1, rfl, hbb1, hcell⟩ := hrp.1.at_ (k := 0) (u := .slice pA pl.length pc) rfl
    obtain ⟨hr1, hl1, hs1⟩ := hrp.2 ⟨pA, pl, pc⟩ List.mem_cons_self
    dsimp only at hr1 hl1 hs1 hb2
    have hpl : pl.length ≤ 1048576 := by
      have := rec_len (l := scanM b) (r := pl) (by rw [hb2]; exact List.mem_cons_self)
      omega
    rw [Nat.add_zero] at hcell
    have CN := kept (new_any pA pl.length pc pl w1 rfl hl1 hr1 (by omega))
    have HB := kept hb2
    have hbn := hbo
    have HBN := kept hbn
    clear hbn
    have HRP := kept hrp
    have HFI := kept hfi
    obtain ⟨np, hnp⟩ : ∃ np, (⟨pA, pl, pc⟩ :: ps : List Part).length = np + 1 := ⟨ps.length, rfl⟩
    rw [hnp]
    clear hbo hrp hr1 hfi hb2
    have hnp0 : (((np : Int) + 1) == 0) = false := by simp; omega
    have hnp1 : (0 : Int) < (np : Int) + 1 := by omega
    go_wp2_with fail
    refine CN.out.mono ?_
    rintro e w2 ⟨S2, g2, rfl, hrd2, hS2, hb2⟩
    have hk2 := hk1.next hb2
    have CM := kept (num_any S2 g2 ⟨pl, 0⟩ w2 hrd2)
    have hg2 := hS2 g2 hrd2.2.1
    have hb3 := below_c hb1 hb2
    clear CN hrd2
    go_wp2_with fail
    refine CM.out.mono ?_
    rintro e w3 ⟨rfl, hrd3, hu3⟩
    have CL := kept (left_any S2 g2 _ w3 hrd3)
    have hok3 := hrd3.ok
    have hb4 : Below w.heap.size w w3 := hb3.trans (hu3.below hb3.size (fun i hi e => by subst e; have := hb1.size; omega))
    have hb4' : Below w1.heap.size w1 w3 := hb2.trans (hu3.below hb2.size (fun i hi e => by subst e; exact hg2))
    have hk3 := hk1.next hb4'
    have hcell3 := (hb4'.cell (p := ⟨b1, o1, none⟩) hbb1).trans hcell
    have hcap := HOP.out.1.cap
    rw [hnp] at hcap
    have hp1 : pl.length ≤ pc ∧ pc ≤ maxLen := by
      obtain ⟨A9, c9, hv9, hp1, hp2, _⟩ := (HOP.out.2 ⟨pA, pl, pc⟩ List.mem_cons_self).1.form
      injection hv9 with _ _ hv9
      rw [BB_length] at hp1
      subst hv9
      exact ⟨hp1, hp2⟩
    obtain ⟨hp1, hp2⟩ := hp1
    have hLe : (RS.numR ⟨pl, 0⟩).l.length ≤ pl.length := by
      unfold RS.numR
      rw [if_pos rfl]
      split <;> simp
    have HL0 : Kept (look b = lookH pl (bodies ps) (recsB (scanM b)).length) := ⟨by rw [HLK.out, HB.out]; rfl⟩
    have hgv : RS.numV ⟨pl, 0⟩ < 18446744073709551616 := RS.numV_lt ⟨hl1, fun h => absurd rfl h, by show pl.length ≤ _; omega, by show (0 : Nat) < _; decide⟩
    have HLH : Kept (lookH pl (bodies ps) (recsB (scanM b)).length = if RS.numV ⟨pl, 0⟩ = 0 then zeroF else ⟨RS.numV ⟨pl, 0⟩, pl.drop (pl.length - (RS.numR ⟨pl, 0⟩).l.length), bodies ps, (recsB (scanM b)).length⟩) := ⟨rfl⟩
    clear CM hrd3 hu3
    generalize (RS.numR ⟨pl, 0⟩).l.length = L at *
    generalize RS.numV ⟨pl, 0⟩ = gv at *
    go_wp2_with fail
    refine CL.out.mono ?_
    rintro e w4 ⟨rfl, rfl⟩
    clear CL
    by_cases hg0 : gv = 0
    · subst hg0
      have HR : Kept (look b = zeroF) := ⟨by rw [HL0.out, HLH.out, if_pos rfl]⟩
      have f0 := hk3.frozen 0
      have f1 := hk3.frozen 1
      have f2 := hk3.frozen 2
      have f3 := hk3.frozen 3
      have q0 := hk3.cell (j := 0) rfl
      have q1 := hk3.cell (j := 1) rfl
      have q2 := hk3.cell (j := 2) rfl
      have q3 := hk3.cell (j := 3) rfl
      clear HSC HLK HB HL0 HLH HOP HRP HFI
      go_wp2_with fail
      rw [HR.out]
      exact bodyPost_ret (res_cell_one rfl _ w.heap.size _ [.int .u64 0, .slice none 0 0, .slice none 0 0, .int .i64 0] _ rfl (Blk.set4 hk3) rfl rfl rfl) rfl ⟨none, 0, none, 0, [], rfl, rfl, Rd.nil, ⟨Rd.nil, fun p hp => by cases hp⟩, Nat.le_refl _, by decide, Nat.zero_le _, (fun x hx => by cases hx), Nat.zero_le _, Nat.zero_le _, Fresh.none _, below_set4 hb4 (Nat.le_refl _) _ _ _ _⟩
    · have hgb : ((gv : Int) == 0) = false := by simp; omega
      have hx1 : (0 : Int) ≤ (pl.length : Int) - (L : Int) := by omega
      have hx2 : (pl.length : Int) - (L : Int) ≤ (pl.length : Int) := by omega
      have hx3 : ((pl.length : Int) - (L : Int)).toNat = pl.length - L := by omega
      have hx4 : (pl.length : Int) ≤ (pc : Int) := by omega
      have hx0 : IntKind.i64.wrap ((pl.length : Int) - (L : Int)) = (pl.length : Int) - (L : Int) := IntWalk.i64_in _ (by omega)
      have hx5 : (1 : Int) ≤ (np : Int) + 1 := by omega
      have hx6 : (np : Int) + 1 ≤ (c1 : Int) := by omega
      have f0 := hk3.frozen 0
      have f1 := hk3.frozen 1
      have f2 := hk3.frozen 2
      have f3 := hk3.frozen 3
      have q0 := hk3.cell (j := 0) rfl
      have q1 := hk3.cell (j := 1) rfl
      have q2 := hk3.cell (j := 2) rfl
      have q3 := hk3.cell (j := 3) rfl
      have HR : Kept (look b = ⟨gv, pl.drop (pl.length - L), bodies ps, (recsB (scanM b)).length⟩) := ⟨by rw [HL0.out, HLH.out, if_neg hg0]⟩
      have HOP3 : OwnParts w3 (w.heap.size + 1) (some ⟨b1, o1, none⟩) c1 (⟨pA, pl, pc⟩ :: ps) := (HOP.out.mono (by simp)).next hb4'
      obtain ⟨A2, hA2⟩ : ∃ A2, (if pc = pl.length - L then pA else Option.map (fun x => x.add (pl.length - L)) pA) = A2 := ⟨_, rfl⟩
      obtain ⟨X2, hX2⟩ : ∃ X2, (if c1 = 1 then some (⟨b1, o1, none⟩ : Addr) else some ⟨b1, o1 + 1, none⟩) = X2 := ⟨_, rfl⟩
      have HA := kept hA2
      have HX := kept hX2
      clear HSC HLK HB HL0 HLH HOP HRP
      go_wp2_with fail
      go_region_law (fail)
      go_wp2_with fail
      all_goals rw [HR.out]
      all_goals
        refine bodyPost_ret (res_cell_one rfl _ w.heap.size _ [.int .u64 (gv : Int), .slice A2 (pl.length - (pl.length - L)) (pc - (pl.length - L)), .slice X2 np (c1 - 1), .int .i64 (fin : Int)] _ rfl (Blk.drew (Blk.set4 hk3)) rfl rfl rfl) rfl ?_
        have HO4 := parts_low4 HOP3 (g := w.heap.size) (Nat.lt_succ_self _) (.int .u64 (gv : Int)) (.slice A2 (pl.length - (pl.length - L)) (pc - (pl.length - L))) (.slice X2 np (c1 - 1)) (.int .i64 (fin : Int))
        have hps : ps.length = np := by simpa using hnp
        have hq := (HO4.rd.2 ⟨pA, pl, pc⟩ List.mem_cons_self).1
        have hq2 := hq.drop (pl.length - L) pc pl.length (by omega) hp1 (BB_length pl)
        have hA3 : (if pc = pl.length - L then pA else pA.map (·.add (pl.length - L))) = A2 := HA.out
        dsimp only at hq2
        rw [hA3, BB_drop] at hq2
        have ht := parts_tail HO4.rd (by rw [hnp]; exact hcap)
        rw [HX.out] at ht
        have hfP : ∀ p ∈ ps, ∀ x, p.A = some x → w.heap.size ≤ x.block := fun q hq x hx => by
          have := (Own.lt (HOP3.2 q (List.mem_cons_of_mem _ hq)).1 x.block (by unfold Part.val; rw [hx]; rfl)).1
          omega
        have hfA : ∀ x, A2 = some x → w.heap.size ≤ x.block := fun x hx => by
          have hO := (HOP3.2 ⟨pA, pl, pc⟩ List.mem_cons_self).1
          rw [← HA.out] at hx
          have hb : ∃ y, pA = some y ∧ y.block = x.block := by
            split at hx
            · exact ⟨x, hx, rfl⟩
            · obtain ⟨y, hy, rfl⟩ := Option.map_eq_some_iff.1 hx
              exact ⟨y, hy, by unfold Addr.add; split <;> rfl⟩
          obtain ⟨y, hy, hyb⟩ := hb
          have := (Own.lt hO y.block (by unfold Part.val; rw [hy]; rfl)).1
          omega
        have hfX : ∀ x, X2 = some x → w.heap.size ≤ x.block := fun x hx => by
          have := (OwnK.under HOP3.1 b1 rfl).1
          rw [← HX.out] at hx
          split at hx
          · obtain rfl := Option.some.inj hx; show _ ≤ b1; omega
          · obtain rfl := Option.some.inj hx; show _ ≤ b1; omega
        refine ⟨A2, pc - (pl.length - L), X2, c1 - 1, ps, ?_, rfl, hq2, ht, ?_, hgv, ?_, fun x hx => hl1 x (List.mem_of_mem_drop hx), ?_, ?_, ⟨hfA, hfX, hfP⟩, (below_set4 hb4 (Nat.le_refl _) _ _ _ _).drew⟩
        · rw [hps, List.length_drop, ← HFI.out]
        · show (pl.drop (pl.length - L)).length ≤ _
          rw [List.length_drop]; omega
        · show (recsB (scanM b)).length ≤ _
          rw [← HFI.out]; omega
        · show (pl.drop (pl.length - L)).length ≤ _
          rw [List.length_drop]; omega
        · show (bodies ps).length ≤ _
          unfold bodies
          rw [List.length_map, hps]
          have h1 := recsB_count (scanM b)
          have h2 : (scanM b).length = np + 1 := by rw [← HBN.out]; exact (List.length_map ..).trans hnp
          rw [h2, ← HFI.out] at h1
          omega
end Go.Proofs.YtdlghabpnpbebaaDoor.Jrn
