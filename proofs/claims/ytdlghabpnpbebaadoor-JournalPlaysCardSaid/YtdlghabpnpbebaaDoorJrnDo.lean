import Derived.Test.YtdlghabpnpbebaaDoorJrnMath
import Derived.Test.YtdlghabpnpbebaaDoorPackWrite
import Derived.Test.YtdlghabpnpbebaaDoorPackReadB
import Derived.Test.YtdlghabpnpbebaaDoorWalPut
import Derived.Test.YtdlghabpnpbebaaDoorWalScan
import Derived.Test.YtdlghabpnpbebaaDoorBlkOps
import Derived.Deep.RegionLaw
import Derived.IntWalk
import Derived.Test.YtdlghabpnpbebaaDoorDiskWays
import Derived.Test.YtdlghabpnpbebaaDoorDiskCalls
import Derived.Deep.RegionWith
import Derived.Deep.DeepCutAuto
import Derived.Deep.RegionHeld3
import Derived.Test.YtdlghabpnpbebaaDoorCrcOf
/- The walks of layer 24: a head's bytes; what a file tells. -/
namespace Go.Proofs.YtdlghabpnpbebaaDoor.Jrn
open Go.RowKit Go.Proofs.YtdlghabpnpbebaaDoor.Mem Go.Proofs.YtdlghabpnpbebaaDoor.Num Go.Proofs.YtdlghabpnpbebaaDoor.Wal Go.Proofs.YtdlghabpnpbebaaDoor.Disk Go.Proofs.YtdlghabpnpbebaaDoor.Pack Go.Proofs.YtdlghabpnpbebaaDoor.Crc Go.Proofs.YtdlghabpnpbebaaDoor.Shift

theorem below_c {w w1 w2 : World} (h : Below w.heap.size w w1) (h2 : Below w1.heap.size w1 w2) : Below w.heap.size w w2 := h.trans (h2.mono h.size)
theorem head_any (gen : Nat) (X : Option Addr) (m c : Nat) (l : List Nat) (w : World) (hm : m = l.length) (hT : Tab w) (hg : gen < 18446744073709551616) (hl : AllB l) (hr : Rd w w.heap.size X (BB l)) (hsz : l.length ≤ 140737488354000) :
    Calls Tryd.prog 36 #[.int .u64 (gen : Int), .slice X m c] w (Gives w (headN gen l)) := by
  subst hm
  have hW := Wtr.new w
  have hb0 : Below w.heap.size w (w.alloc (.cells #[.slice none 0 0] 101)) := (Below.refl _ _).alloc (Nat.le_refl _) _
  have CN := kept (wnum_any (fun k => k = w.heap.size) w.heap.size [] gen _ hW hg (by simp))
  have HR := kept (fun (W : World) (h : Below w.heap.size w W) => hr.next h)
  have HT := kept (fun (W : World) (h : Below w.heap.size w W) => hT.next h)
  have hn9 : (numB gen).length ≤ 9 := by have := numB_length gen; have := lenB_le gen; omega
  have hna : AllB (numB gen) := numB_all gen
  clear hW hr hT
  go_enter Tryd.func36, Tryd.ntmps36
  go_wp2_with fail
  refine CN.out.mono ?_
  rintro e w1 ⟨rfl, S1, hW1, hG1⟩
  rw [List.nil_append] at hW1
  have hb1 : Below w.heap.size w w1 := hb0.trans (hG1.below (B := w.heap.size) (by simp) (fun i hi => by omega))
  have CB := kept (wbytes_any S1 w.heap.size (numB gen) w1 hW1 (by omega))
  clear hW1 hG1 CN hb0
  go_wp2_with fail
  refine CB.out.mono ?_
  rintro e w2 ⟨A2, c2, rfl, hown2, hc2, hb2⟩
  have hbase := hb2.size
  have hb2 := below_c hb1 hb2
  have hr2 := HR.out _ hb2
  have hsz2 : (numB gen).length + l.length ≤ 140737488355328 := by omega
  clear CB
  go_wp2_with (at_builtin; refine wpl_app rfl (.tmp 8) (.tmp 9) rfl w1.heap.size _ (numB gen) rfl hown2 _ _ _ _ l rfl rfl hr2 hsz2 hbase ?_; intro A3 c3 w3 r3 hr3 hown3 hg3 hb3)
  obtain rfl : r3 = numB gen ++ l := hr3.out
  have hb3 : Below w.heap.size w w3 := hb2.trans (hb3.mono hb1.size)
  have hT3 := HT.out _ hb3
  have CP := kept (put_any A3 (numB gen ++ l).length c3 (numB gen ++ l) w3 rfl hT3 (fun x hx => (List.mem_append.1 hx).elim (hna x) (hl x)) hown3.rd (by rw [List.length_append]; omega))
  clear hr3 hown3 hg3 hr2 hown2 hT3
  go_wp2_with fail
  refine CP.out.mono ?_
  rintro e w4 ⟨A4, c4, rfl, hown4, hc4, hb4⟩
  have hbz := hb3.size
  have hb4 := below_c hb3 hb4
  go_wp2_with fail
  go_ret
  exact ⟨A4, c4, rfl, hown4.mono hbz, hc4, hb4⟩
end Go.Proofs.YtdlghabpnpbebaaDoor.Jrn

/- The walks of layer 24, continued: what a file tells. -/
namespace Go.Proofs.YtdlghabpnpbebaaDoor.Jrn
open Go.RowKit Go.Proofs.YtdlghabpnpbebaaDoor.Mem Go.Proofs.YtdlghabpnpbebaaDoor.Num Go.Proofs.YtdlghabpnpbebaaDoor.Wal Go.Proofs.YtdlghabpnpbebaaDoor.Disk Go.Proofs.YtdlghabpnpbebaaDoor.Pack Go.Proofs.YtdlghabpnpbebaaDoor.Crc Go.Proofs.YtdlghabpnpbebaaDoor.Shift

/-- what is read lies from block lo on -/
def Fresh (lo : Nat) (A X : Option Addr) (ps : List Part) : Prop :=
  (∀ x, A = some x → lo ≤ x.block) ∧ (∀ x, X = some x → lo ≤ x.block) ∧ ∀ p ∈ ps, ∀ x, p.A = some x → lo ≤ x.block
theorem Fresh.none (lo : Nat) : Fresh lo none none [] := ⟨(fun _ h => by cases h), (fun _ h => by cases h), (fun _ h => by cases h)⟩
/-- what look gives -/
def LookG (w : World) (F : Found) (e : Ending) (w' : World) : Prop :=
  ∃ A c X c2 ps, e = .returned (.agg #[.int .u64 (F.gen : Int), .slice A F.snap.length c, .slice X (List.length ps) c2, .int .i64 (F.fin : Int)]) ∧ bodies ps = F.recs ∧ Rd w' w'.heap.size A (BB F.snap) ∧ RdParts w' w'.heap.size X ps ∧ F.snap.length ≤ c ∧ F.gen < 18446744073709551616 ∧ F.fin ≤ 1048576 ∧ AllB F.snap ∧ F.snap.length ≤ 1048576 ∧ F.recs.length ≤ 1048576 ∧ Fresh w.heap.size A X ps ∧ Below w.heap.size w w'
theorem scans_le {b : List Nat} {l : List (List Nat)} {e : Nat} (h : Scans b l e) : e ≤ b.length := by
  obtain ⟨rest, h1, h2, h3⟩ := h
  rw [h1, List.length_append, h2]; omega
theorem recsB_count (l : List (List Nat)) : l.length ≤ (recsB l).length := by
  induction l with
  | nil => simp
  | cons r l ih =>
    have e : recsB (r :: l) = recB r ++ recsB l := rfl
    have := recB_ge r
    rw [e, List.length_append, List.length_cons]; omega
theorem rec_len {l : List (List Nat)} {r : List Nat} (h : r ∈ l) : r.length ≤ (recsB l).length := by
  induction l with
  | nil => cases h
  | cons q l ih =>
    have e : recsB (q :: l) = recB q ++ recsB l := rfl
    have := recB_ge q
    rw [e, List.length_append]
    rcases List.mem_cons.1 h with rfl | h
    · omega
    · have := ih h; omega
theorem Blk.set4 {w : World} {g : Nat} {u0 u1 u2 u3 v0 v1 v2 v3 : Value} {t : TypeId} (h : Blk w g [u0, u1, u2, u3] t) : Blk ((((w.setCell ⟨g, 0, none⟩ v0).setCell ⟨g, 1, none⟩ v1).setCell ⟨g, 2, none⟩ v2).setCell ⟨g, 3, none⟩ v3) g [v0, v1, v2, v3] t := (((h.set 0 v0).set 1 v1).set 2 v2).set 3 v3
theorem below_set4 {w w1 : World} (h : Below w.heap.size w w1) {g : Nat} (hp : w.heap.size ≤ g) (v0 v1 v2 v3 : Value) : Below w.heap.size w ((((w1.setCell ⟨g, 0, none⟩ v0).setCell ⟨g, 1, none⟩ v1).setCell ⟨g, 2, none⟩ v2).setCell ⟨g, 3, none⟩ v3) :=
  (((h.setCell (p := ⟨g, 0, none⟩) hp v0).setCell (p := ⟨g, 1, none⟩) hp v1).setCell (p := ⟨g, 2, none⟩) hp v2).setCell (p := ⟨g, 3, none⟩) hp v3
theorem OwnK.low4 {size : Nat} {w : World} {base : Nat} {e : TypeId} {v : Value} {n : Nat} {xs : List Value} (h : OwnK size w base e v n xs) {g : Nat} (hg : g < base) (v0 v1 v2 v3 : Value) : OwnK size ((((w.setCell ⟨g, 0, none⟩ v0).setCell ⟨g, 1, none⟩ v1).setCell ⟨g, 2, none⟩ v2).setCell ⟨g, 3, none⟩ v3) base e v n xs :=
  (((h.low (p := ⟨g, 0, none⟩) hg v0).low (p := ⟨g, 1, none⟩) hg v1).low (p := ⟨g, 2, none⟩) hg v2).low (p := ⟨g, 3, none⟩) hg v3
theorem parts_low4 {w : World} {base : Nat} {X : Option Addr} {c : Nat} {ps : List Part} (h : OwnParts w base X c ps) {g : Nat} (hg : g < base) (v0 v1 v2 v3 : Value) : OwnParts ((((w.setCell ⟨g, 0, none⟩ v0).setCell ⟨g, 1, none⟩ v1).setCell ⟨g, 2, none⟩ v2).setCell ⟨g, 3, none⟩ v3) base X c ps :=
  ⟨OwnK.low4 h.1 hg v0 v1 v2 v3, fun p hp => ⟨OwnK.low4 (h.2 p hp).1 hg v0 v1 v2 v3, (h.2 p hp).2⟩⟩
theorem parts_tail {w : World} {B : Nat} {b1 o1 c : Nat} {p : Part} {ps : List Part} (h : RdParts w B (some ⟨b1, o1, none⟩) (p :: ps)) (hc : (p :: ps).length ≤ c) : RdParts w B (if c = 1 then some ⟨b1, o1, none⟩ else some ⟨b1, o1 + 1, none⟩) ps := by
  refine ⟨?_, fun q hq => h.2 q (List.mem_cons_of_mem _ hq)⟩
  have := h.1.drop 1 c (p :: ps).length (by simp) hc (by simp)
  simp only [List.map_cons, List.drop_succ_cons, List.drop_zero, Option.map_some, add_plain] at this
  exact this
set_option maxHeartbeats 1000000 in
set_option maxRecDepth 100000 in
theorem look_any (Y : Option Addr) (m c : Nat) (b : List Nat) (w : World) (hm : m = b.length) (hT : Tab w) (hl : AllB b) (hle : b.length ≤ c) (hc : c ≤ 9223372036854775807) (hr : Rd w w.heap.size Y (BB b)) (hsz : b.length ≤ 1048576) :
    Calls Tryd.prog 38 #[.slice Y m c] w (LookG w (look b)) := by
  subst hm
  have hk0 := Blk.new w [.int .u64 0, .slice none 0 0, .slice none 0 0, .int .i64 0] 78
  have hb0 : Below w.heap.size w (w.alloc (.cells #[.int .u64 0, .slice none 0 0, .slice none 0 0, .int .i64 0] 78)) := (Below.refl _ _).alloc (Nat.le_refl _) _
  have CS := kept (scan_any Y b.length c b (w.alloc (.cells #[.int .u64 0, .slice none 0 0, .slice none 0 0, .int .i64 0] 78)) rfl (hT.next hb0) hl hle hc (hr.next hb0) (by omega))
  have HLK : Kept (look b = lookL (scanM b) (recsB (scanM b)).length) := ⟨rfl⟩
  have HK0 := kept hk0
  have HZ : Kept (LookG w zeroF = LookG w zeroF) := ⟨rfl⟩
  clear hT hr hk0
  go_enter Tryd.func38, Tryd.ntmps38
  go_wp2_with fail
  refine CS.out.mono ?_
  rintro e w1 ⟨X, c1, ps, fin, rfl, hsc, hop, hb1⟩
  have hk1 := HK0.out.next hb1
  have hb1 := below_c hb0 hb1
  obtain ⟨hbo, hfi⟩ := scans_is (by omega) hsc
  have hfl := scans_le hsc
  have hrp := hop.rd
  have HOP := kept hop
  have HSC := kept hsc
  clear CS HK0 hop hb0 hsc
  cases ps with
  | nil =>
    have hn : scanM b = [] := by rw [← hbo]; rfl
    have HR : Kept (look b = zeroF) := ⟨by rw [HLK.out, hn]; rfl⟩
    have f0 := hk1.frozen 0
    have f1 := hk1.frozen 1
    have f2 := hk1.frozen 2
    have f3 := hk1.frozen 3
    have c0 := hk1.cell (j := 0) rfl
    have c1' := hk1.cell (j := 1) rfl
    have c2' := hk1.cell (j := 2) rfl
    have c3' := hk1.cell (j := 3) rfl
    clear hbo hfi hrp HSC HLK hn HOP
    go_wp2_with fail
    rw [HR.out]
    exact bodyPost_ret (res_cell_one rfl _ w.heap.size _ [.int .u64 0, .slice none 0 0, .slice none 0 0, .int .i64 0] _ rfl (Blk.set4 hk1) rfl rfl rfl) rfl ⟨none, 0, none, 0, [], rfl, rfl, Rd.nil, ⟨Rd.nil, fun p hp => by cases hp⟩, Nat.le_refl _, by decide, Nat.zero_le _, (fun x hx => by cases hx), Nat.zero_le _, Nat.zero_le _, Fresh.none _, below_set4 hb1 (Nat.le_refl _) _ _ _ _⟩
  | cons p ps =>
    have hb2 : scanM b = p.l :: bodies ps := hbo.symm
    obtain ⟨pA, pl, pc⟩ := p
    obtain ⟨b1, o1, rfl, hbb1, hcell⟩ := hrp.1.at_ (k := 0) (u := .slice pA pl.length pc) rfl
    obtain ⟨hr1, hl1, hs1⟩ := hrp.2 ⟨pA, pl, pc⟩ List.mem_cons_self
    dsimp only at hr1 hl1 hs1 hb2
    have hpl : pl.length ≤ 1048576 := by
      have := rec_len (l := scanM b) (r := pl) (by rw [hb2]; exact List.mem_cons_self)
      omega
    rw [Nat.add_zero] at hcell
    have CN := kept (new_any pA pl.length pc pl w1 rfl hl1 hr1 (by omega))
    have HB := kept hb2
    have hbn := hbo
    have HBN := kept hbn
    clear hbn
    have HRP := kept hrp
    have HFI := kept hfi
    obtain ⟨np, hnp⟩ : ∃ np, (⟨pA, pl, pc⟩ :: ps : List Part).length = np + 1 := ⟨ps.length, rfl⟩
    rw [hnp]
    clear hbo hrp hr1 hfi hb2
    have hnp0 : (((np : Int) + 1) == 0) = false := by simp; omega
    have hnp1 : (0 : Int) < (np : Int) + 1 := by omega
    go_wp2_with fail
    refine CN.out.mono ?_
    rintro e w2 ⟨S2, g2, rfl, hrd2, hS2, hb2⟩
    have hk2 := hk1.next hb2
    have CM := kept (num_any S2 g2 ⟨pl, 0⟩ w2 hrd2)
    have hg2 := hS2 g2 hrd2.2.1
    have hb3 := below_c hb1 hb2
    clear CN hrd2
    go_wp2_with fail
    refine CM.out.mono ?_
    rintro e w3 ⟨rfl, hrd3, hu3⟩
    have CL := kept (left_any S2 g2 _ w3 hrd3)
    have hok3 := hrd3.ok
    have hb4 : Below w.heap.size w w3 := hb3.trans (hu3.below hb3.size (fun i hi e => by subst e; have := hb1.size; omega))
    have hb4' : Below w1.heap.size w1 w3 := hb2.trans (hu3.below hb2.size (fun i hi e => by subst e; exact hg2))
    have hk3 := hk1.next hb4'
    have hcell3 := (hb4'.cell (p := ⟨b1, o1, none⟩) hbb1).trans hcell
    have hcap := HOP.out.1.cap
    rw [hnp] at hcap
    have hp1 : pl.length ≤ pc ∧ pc ≤ maxLen := by
      obtain ⟨A9, c9, hv9, hp1, hp2, _⟩ := (HOP.out.2 ⟨pA, pl, pc⟩ List.mem_cons_self).1.form
      injection hv9 with _ _ hv9
      rw [BB_length] at hp1
      subst hv9
      exact ⟨hp1, hp2⟩
    obtain ⟨hp1, hp2⟩ := hp1
    have hLe : (RS.numR ⟨pl, 0⟩).l.length ≤ pl.length := by
      unfold RS.numR
      rw [if_pos rfl]
      split <;> simp
    have HL0 : Kept (look b = lookH pl (bodies ps) (recsB (scanM b)).length) := ⟨by rw [HLK.out, HB.out]; rfl⟩
    have hgv : RS.numV ⟨pl, 0⟩ < 18446744073709551616 := RS.numV_lt ⟨hl1, fun h => absurd rfl h, by show pl.length ≤ _; omega, by show (0 : Nat) < _; decide⟩
    have HLH : Kept (lookH pl (bodies ps) (recsB (scanM b)).length = if RS.numV ⟨pl, 0⟩ = 0 then zeroF else ⟨RS.numV ⟨pl, 0⟩, pl.drop (pl.length - (RS.numR ⟨pl, 0⟩).l.length), bodies ps, (recsB (scanM b)).length⟩) := ⟨rfl⟩
    clear CM hrd3 hu3
    generalize (RS.numR ⟨pl, 0⟩).l.length = L at *
    generalize RS.numV ⟨pl, 0⟩ = gv at *
    go_wp2_with fail
    refine CL.out.mono ?_
    rintro e w4 ⟨rfl, rfl⟩
    clear CL
    by_cases hg0 : gv = 0
    · subst hg0
      have HR : Kept (look b = zeroF) := ⟨by rw [HL0.out, HLH.out, if_pos rfl]⟩
      have f0 := hk3.frozen 0
      have f1 := hk3.frozen 1
      have f2 := hk3.frozen 2
      have f3 := hk3.frozen 3
      have q0 := hk3.cell (j := 0) rfl
      have q1 := hk3.cell (j := 1) rfl
      have q2 := hk3.cell (j := 2) rfl
      have q3 := hk3.cell (j := 3) rfl
      clear HSC HLK HB HL0 HLH HOP HRP HFI
      go_wp2_with fail
      rw [HR.out]
      exact bodyPost_ret (res_cell_one rfl _ w.heap.size _ [.int .u64 0, .slice none 0 0, .slice none 0 0, .int .i64 0] _ rfl (Blk.set4 hk3) rfl rfl rfl) rfl ⟨none, 0, none, 0, [], rfl, rfl, Rd.nil, ⟨Rd.nil, fun p hp => by cases hp⟩, Nat.le_refl _, by decide, Nat.zero_le _, (fun x hx => by cases hx), Nat.zero_le _, Nat.zero_le _, Fresh.none _, below_set4 hb4 (Nat.le_refl _) _ _ _ _⟩
    · have hgb : ((gv : Int) == 0) = false := by simp; omega
      have hx1 : (0 : Int) ≤ (pl.length : Int) - (L : Int) := by omega
      have hx2 : (pl.length : Int) - (L : Int) ≤ (pl.length : Int) := by omega
      have hx3 : ((pl.length : Int) - (L : Int)).toNat = pl.length - L := by omega
      have hx4 : (pl.length : Int) ≤ (pc : Int) := by omega
      have hx0 : IntKind.i64.wrap ((pl.length : Int) - (L : Int)) = (pl.length : Int) - (L : Int) := IntWalk.i64_in _ (by omega)
      have hx5 : (1 : Int) ≤ (np : Int) + 1 := by omega
      have hx6 : (np : Int) + 1 ≤ (c1 : Int) := by omega
      have f0 := hk3.frozen 0
      have f1 := hk3.frozen 1
      have f2 := hk3.frozen 2
      have f3 := hk3.frozen 3
      have q0 := hk3.cell (j := 0) rfl
      have q1 := hk3.cell (j := 1) rfl
      have q2 := hk3.cell (j := 2) rfl
      have q3 := hk3.cell (j := 3) rfl
      have HR : Kept (look b = ⟨gv, pl.drop (pl.length - L), bodies ps, (recsB (scanM b)).length⟩) := ⟨by rw [HL0.out, HLH.out, if_neg hg0]⟩
      have HOP3 : OwnParts w3 (w.heap.size + 1) (some ⟨b1, o1, none⟩) c1 (⟨pA, pl, pc⟩ :: ps) := (HOP.out.mono (by simp)).next hb4'
      obtain ⟨A2, hA2⟩ : ∃ A2, (if pc = pl.length - L then pA else Option.map (fun x => x.add (pl.length - L)) pA) = A2 := ⟨_, rfl⟩
      obtain ⟨X2, hX2⟩ : ∃ X2, (if c1 = 1 then some (⟨b1, o1, none⟩ : Addr) else some ⟨b1, o1 + 1, none⟩) = X2 := ⟨_, rfl⟩
      have HA := kept hA2
      have HX := kept hX2
      clear HSC HLK HB HL0 HLH HOP HRP
      go_wp2_with fail
      go_region_law (fail)
      go_wp2_with fail
      all_goals rw [HR.out]
      all_goals
        refine bodyPost_ret (res_cell_one rfl _ w.heap.size _ [.int .u64 (gv : Int), .slice A2 (pl.length - (pl.length - L)) (pc - (pl.length - L)), .slice X2 np (c1 - 1), .int .i64 (fin : Int)] _ rfl (Blk.drew (Blk.set4 hk3)) rfl rfl rfl) rfl ?_
        have HO4 := parts_low4 HOP3 (g := w.heap.size) (Nat.lt_succ_self _) (.int .u64 (gv : Int)) (.slice A2 (pl.length - (pl.length - L)) (pc - (pl.length - L))) (.slice X2 np (c1 - 1)) (.int .i64 (fin : Int))
        have hps : ps.length = np := by simpa using hnp
        have hq := (HO4.rd.2 ⟨pA, pl, pc⟩ List.mem_cons_self).1
        have hq2 := hq.drop (pl.length - L) pc pl.length (by omega) hp1 (BB_length pl)
        have hA3 : (if pc = pl.length - L then pA else pA.map (·.add (pl.length - L))) = A2 := HA.out
        dsimp only at hq2
        rw [hA3, BB_drop] at hq2
        have ht := parts_tail HO4.rd (by rw [hnp]; exact hcap)
        rw [HX.out] at ht
        have hfP : ∀ p ∈ ps, ∀ x, p.A = some x → w.heap.size ≤ x.block := fun q hq x hx => by
          have := (Own.lt (HOP3.2 q (List.mem_cons_of_mem _ hq)).1 x.block (by unfold Part.val; rw [hx]; rfl)).1
          omega
        have hfA : ∀ x, A2 = some x → w.heap.size ≤ x.block := fun x hx => by
          have hO := (HOP3.2 ⟨pA, pl, pc⟩ List.mem_cons_self).1
          rw [← HA.out] at hx
          have hb : ∃ y, pA = some y ∧ y.block = x.block := by
            split at hx
            · exact ⟨x, hx, rfl⟩
            · obtain ⟨y, hy, rfl⟩ := Option.map_eq_some_iff.1 hx
              exact ⟨y, hy, by unfold Addr.add; split <;> rfl⟩
          obtain ⟨y, hy, hyb⟩ := hb
          have := (Own.lt hO y.block (by unfold Part.val; rw [hy]; rfl)).1
          omega
        have hfX : ∀ x, X2 = some x → w.heap.size ≤ x.block := fun x hx => by
          have := (OwnK.under HOP3.1 b1 rfl).1
          rw [← HX.out] at hx
          split at hx
          · obtain rfl := Option.some.inj hx; show _ ≤ b1; omega
          · obtain rfl := Option.some.inj hx; show _ ≤ b1; omega
        refine ⟨A2, pc - (pl.length - L), X2, c1 - 1, ps, ?_, rfl, hq2, ht, ?_, hgv, ?_, fun x hx => hl1 x (List.mem_of_mem_drop hx), ?_, ?_, ⟨hfA, hfX, hfP⟩, (below_set4 hb4 (Nat.le_refl _) _ _ _ _).drew⟩
        · rw [hps, List.length_drop, ← HFI.out]
        · show (pl.drop (pl.length - L)).length ≤ _
          rw [List.length_drop]; omega
        · show (recsB (scanM b)).length ≤ _
          rw [← HFI.out]; omega
        · show (pl.drop (pl.length - L)).length ≤ _
          rw [List.length_drop]; omega
        · show (bodies ps).length ≤ _
          unfold bodies
          rw [List.length_map, hps]
          have h1 := recsB_count (scanM b)
          have h2 : (scanM b).length = np + 1 := by rw [← HBN.out]; exact (List.length_map ..).trans hnp
          rw [h2, ← HFI.out] at h1
          omega
end Go.Proofs.YtdlghabpnpbebaaDoor.Jrn

/- The walks of layer 24, continued: empty, write, clean. -/
namespace Go.Proofs.YtdlghabpnpbebaaDoor.Jrn
open Go.RowKit Go.Proofs.YtdlghabpnpbebaaDoor.Mem Go.Proofs.YtdlghabpnpbebaaDoor.Num Go.Proofs.YtdlghabpnpbebaaDoor.Wal Go.Proofs.YtdlghabpnpbebaaDoor.Disk

theorem Does.step {S : Nat → Prop} {g : Nat} {w w1 : World} {d : DS} {v : Value} {e : Ending} {w' : World} {S1 : Nat → Prop} (hg : Goes S w S1 w1) (h : Does S1 g w1 d v e w') : Does S g w d v e w' := by
  obtain ⟨he, S2, h1, h2⟩ := h
  exact ⟨he, S2, h1, hg.trans h2⟩
theorem readM_b {d : DS} {f : Int} (h : f = 0 ∨ f = 1) : d.readM f = d.b f := by unfold DS.readM; rw [if_pos (show isF f = true by rcases h with rfl | rfl <;> rfl)]
theorem dsk_next {S : Nat → Prop} {g : Nat} {d : DS} {w w' : World} (h : Dsk w S g d) (hb : Below w.heap.size w w') : Dsk w' S g d := by
  obtain ⟨h1, h2, h3, A0, c0, A1, c1, h4, h5⟩ := h
  exact ⟨h1, h2, fun k hk => Nat.lt_of_lt_of_le (h3 k hk) hb.size, A0, c0, A1, c1, h4.next hb, h5.upd (Upd.of_below (S := fun _ => False) hb) fun _ _ _ e => e⟩
theorem goes_below {S : Nat → Prop} {w w' : World} (h : Below w.heap.size w w') : Goes S w S w' := ⟨Upd.of_below h, fun _ hk => .inl hk⟩
theorem dsk_ok {S : Nat → Prop} {g : Nat} {d : DS} {w : World} (h : Dsk w S g d) : d.Ok := h.1
theorem empty_any (S : Nat → Prop) (g : Nat) (d : DS) (f : Int) (w : World) (h : Dsk w S g d) (hf : f = 0 ∨ f = 1) :
    Calls Tryd.prog 35 #[.pointer (some ⟨g, 0, none⟩), .int .i64 f] w (Does S g w (emptyM d f).1 (.int .i64 ((emptyM d f).2 : Int))) := by
  have hfb : -9223372036854775808 ≤ f ∧ f ≤ 9223372036854775807 := by omega
  have CR := kept (read_any S g d f w h hfb)
  have CC := kept (fun (W : World) (hb : Below w.heap.size w W) => cut_any S g d f 0 W (dsk_next h hb) hfb)
  have HE : Kept (emptyM d f = if d.b f = [] then (d, 0) else d.cutM f 0) := ⟨rfl⟩
  have HN := kept (fun (W : World) (hb : Below w.heap.size w W) => dsk_next h hb)
  rw [readM_b hf] at CR
  generalize d.b f = l at *
  clear h
  by_cases hl : l = []
  · subst hl
    have HR : Kept (emptyM d f = (d, 0)) := ⟨by rw [HE.out, if_pos rfl]⟩
    go_enter Tryd.func35, Tryd.ntmps35
    go_wp2_with fail
    refine CR.out.mono ?_
    rintro e w1 ⟨A, c, rfl, hown, hc, hb⟩
    clear hown
    go_wp2_with fail
    go_ret
    rw [HR.out]
    exact ⟨rfl, S, HN.out _ hb, goes_below hb⟩
  · have HR : Kept (emptyM d f = d.cutM f 0) := ⟨by rw [HE.out, if_neg hl]⟩
    have hl0 : ((l.length : Int) == 0) = false := by simp; exact hl
    go_enter Tryd.func35, Tryd.ntmps35
    go_wp2_with fail
    refine CR.out.mono ?_
    rintro e w1 ⟨A, c, rfl, hown, hc, hb⟩
    clear hown
    go_wp2_with fail
    refine (CC.out _ hb).mono ?_
    rintro e w2 ⟨rfl, S2, hD2, hG2⟩
    go_wp2_with fail
    go_ret
    rw [HR.out]
    exact ⟨rfl, S2, hD2, (goes_below hb).trans hG2⟩
theorem write_any (S : Nat → Prop) (g : Nat) (d : DS) (f : Int) (X : Option Addr) (m c : Nat) (l : List Nat) (w : World) (h : Dsk w S g d) (hf : f = 0 ∨ f = 1) (hl : AllB l) (hm : m = l.length) (hr : Rd w w.heap.size X (BB l)) (hx : ∀ x, X = some x → BB l ≠ [] → x.block ≠ g) (hsz : l.length ≤ 140737488355000) :
    Calls Tryd.prog 33 #[.pointer (some ⟨g, 0, none⟩), .int .i64 f, .slice X m c] w (Does S g w (writeM d f l).1 (.int .i64 ((writeM d f l).2 : Int))) := by
  subst hm
  have hfb : -9223372036854775808 ≤ f ∧ f ≤ 9223372036854775807 := by omega
  have CA := kept (app_any S g d f X l.length c l w h hfb hl rfl hr hx hsz)
  have HE : Kept (writeM d f l = if (d.appM f l).2 ≠ 0 then d.appM f l else (d.appM f l).1.syncM f) := ⟨rfl⟩
  have CS := kept (fun (S1 : Nat → Prop) (W : World) (h1 : Dsk W S1 g (d.appM f l).1) => sync_any S1 g (d.appM f l).1 f W h1 hfb)
  have CS2 : Kept ((d.appM f l).1.syncM f = (d.appM f l).1.syncM f) := ⟨rfl⟩
  clear h hr hx
  generalize d.appM f l = r at *
  obtain ⟨d1, e1⟩ := r
  dsimp only at *
  by_cases he : e1 = 0
  · subst he
    have HR : Kept (writeM d f l = d1.syncM f) := ⟨by rw [HE.out]; rfl⟩
    go_enter Tryd.func33, Tryd.ntmps33
    go_wp2_with fail
    refine CA.out.mono ?_
    rintro e w1 ⟨rfl, S1, hD1, hG1⟩
    go_wp2_with fail
    refine (CS.out _ _ hD1).mono ?_
    rintro e w2 ⟨rfl, S2, hD2, hG2⟩
    go_wp2_with fail
    go_ret
    rw [HR.out]
    exact ⟨rfl, S2, hD2, hG1.trans hG2⟩
  · have HR : Kept (writeM d f l = (d1, e1)) := ⟨by rw [HE.out, if_pos he]⟩
    have heb : ((e1 : Int) != 0) = true := by simpa using he
    go_enter Tryd.func33, Tryd.ntmps33
    go_wp2_with fail
    refine CA.out.mono ?_
    rintro e w1 ⟨rfl, S1, hD1, hG1⟩
    go_wp2_with fail
    go_ret
    rw [HR.out]
    exact ⟨rfl, S1, hD1, hG1⟩
/-- a journal's own cells -/
def JC (g : Nat) (f : Int) (gen : Nat) : List Value := [.pointer (some ⟨g, 0, none⟩), .int .i64 f, .int .u64 (gen : Int)]
set_option maxHeartbeats 2000000 in
theorem clean_any (S : Nat → Prop) (g : Nat) (d : DS) (gj : Nat) (f : Int) (gen fin : Nat) (w : World) (h : Dsk w S g d) (hk : Blk w gj (JC g f gen) 33) (hgj : ¬ S gj) (hf : f = 0 ∨ f = 1) :
    Calls Tryd.prog 39 #[.pointer (some ⟨gj, 0, none⟩), .int .i64 (fin : Int)] w (Does S g w (cleanM d f fin).1 (.int .i64 ((cleanM d f fin).2 : Int))) := by
  have hfb : -9223372036854775808 ≤ f ∧ f ≤ 9223372036854775807 := by omega
  have CR := kept (fun (W : World) (h1 : Dsk W S g d) => read_any S g d f W h1 hfb)
  rw [readM_b hf] at CR
  have hfe : 1 - f = 0 ∨ 1 - f = 1 := by omega
  have HE : Kept (cleanM d f fin = clean2 (if fin < (d.b f).length then d.cutM f fin else (d, 0)) f) := ⟨rfl⟩
  have HC2 : Kept (∀ r, clean2 r f = if r.2 ≠ 0 then r else emptyM r.1 (1 - f)) := ⟨fun _ => rfl⟩
  have HN := kept (fun (W : World) (hb : Below w.heap.size w W) => dsk_next h hb)
  have CE := kept (fun (S1 : Nat → Prop) (d1 : DS) (W : World) (h1 : Dsk W S1 g d1) => empty_any S1 g d1 (1 - f) W h1 hfe)
  have CC := kept (fun (W : World) (h1 : Dsk W S g d) => cut_any S g d f fin W h1 hfb)
  generalize d.b f = l at *
  have c0 := hk.cell (j := 0) rfl
  have c1 := hk.cell (j := 1) rfl
  have HD0 := kept (dsk_next h ((Below.refl w.heap.size w).drew))
  have hlt := hk.lt
  have hw1 : IntKind.i64.wrap (1 - f) = 1 - f := IntWalk.i64_in _ (by omega)
  have HK := kept hk
  clear h hk
  by_cases hlf : fin < l.length
  · rw [if_pos hlf] at HE
    have hlf' : (fin : Int) < (l.length : Int) := by omega
    go_enter Tryd.func39, Tryd.ntmps39
    go_wp2_with fail
    go_cut [17] (fun p wr => p = .bool true ∧ Below w.heap.size w wr)
    case first =>
      go_region_with (go_at_call 32; refine (CR.out _ HD0.out).mono ?_; rintro e w1 ⟨A, c, rfl, hown, hc, hb⟩; clear hown)
      all_goals go_wp2_with fail
      all_goals go_meet
      all_goals exact ⟨rfl, (Below.refl w.heap.size w).drew.trans hb⟩
    case rest =>
      obtain ⟨rfl, hb1⟩ := hcut
      obtain ⟨w1, rfl⟩ : ∃ w1 : World, w1 = wc := ⟨_, rfl⟩
      have k1 := HK.out.next hb1
      have c0 := k1.cell (j := 0) rfl
      have c1 := k1.cell (j := 1) rfl
      have HD1 := kept (dsk_next (HN.out _ hb1) ((Below.refl w1.heap.size w1).drew))
      clear CR HD0
      obtain ⟨d1, he1⟩ : ∃ r, d.cutM f fin = r := ⟨_, rfl⟩
      rw [he1] at HE CC
      have HG := kept (goes_below (S := S) hb1)
      have HU := kept (fun (S1 : Nat → Prop) (W : World) (h : Goes S w S1 W) => HK.out.upd h.1 hgj)
      obtain ⟨d1, e1⟩ := d1
      dsimp only at CC
      clear he1 k1
      go_wp2_with fail
      go_cut [5] (fun p wr => p = .int .i64 (e1 : Int) ∧ ∃ S1, Dsk wr S1 g d1 ∧ Goes S w S1 wr)
      case first =>
        go_region_with (go_at_call 37; refine (CC.out _ HD1.out).mono ?_; rintro e w2 ⟨rfl, S2, hD2, hG2⟩)
        all_goals go_wp2_with fail
        all_goals go_meet
        all_goals exact ⟨rfl, S2, hD2, HG.out.trans ((goes_below (Below.refl w1.heap.size w1).drew).trans hG2)⟩
      case rest =>
        obtain ⟨rfl, S1, hD1, hG1⟩ := hcut
        obtain ⟨w2, rfl⟩ : ∃ w2 : World, w2 = wc := ⟨_, rfl⟩
        by_cases he : e1 = 0
        · subst he
          have HR : Kept (cleanM d f fin = emptyM d1 (1 - f)) := ⟨by rw [HE.out, HC2.out]; rfl⟩
          have k2 := HU.out _ _ hG1
          have c0 := k2.cell (j := 0) rfl
          have c1 := k2.cell (j := 1) rfl
          have HD2 := kept (dsk_next hD1 ((Below.refl w2.heap.size w2).drew))
          have CE1 := kept (CE.out _ _ _ HD2.out)
          clear k2 CE CC HC2 HE
          go_wp2_with fail
          go_region_with (go_at_call 35; refine CE1.out.mono ?_; rintro e w3 ⟨rfl, S3, hD3, hG3⟩)
          all_goals go_wp2_with fail
          all_goals go_ret
          all_goals rw [HR.out]
          all_goals exact ⟨rfl, S3, hD3, hG1.trans ((goes_below (Below.refl w2.heap.size w2).drew).trans hG3)⟩
        · have HR : Kept (cleanM d f fin = (d1, e1)) := ⟨by rw [HE.out, HC2.out, if_pos he]⟩
          have heb : ((e1 : Int) != 0) = true := by simpa using he
          go_wp2_with fail
          go_ret
          rw [HR.out]
          exact ⟨rfl, S1, hD1, hG1⟩
  · rw [if_neg hlf] at HE
    have HR : Kept (cleanM d f fin = emptyM d (1 - f)) := ⟨by rw [HE.out, HC2.out]; rfl⟩
    have hlf' : ¬ (fin : Int) < (l.length : Int) := by omega
    go_enter Tryd.func39, Tryd.ntmps39
    go_wp2_with fail
    go_cut [17] (fun p wr => p = .bool false ∧ Below w.heap.size w wr)
    case first =>
      go_region_with (go_at_call 32; refine (CR.out _ HD0.out).mono ?_; rintro e w1 ⟨A, c, rfl, hown, hc, hb⟩; clear hown)
      all_goals go_wp2_with fail
      all_goals go_meet
      all_goals exact ⟨rfl, (Below.refl w.heap.size w).drew.trans hb⟩
    case rest =>
      obtain ⟨rfl, hb1⟩ := hcut
      obtain ⟨w1, rfl⟩ : ∃ w1 : World, w1 = wc := ⟨_, rfl⟩
      have k1 := HK.out.next hb1
      have c0 := k1.cell (j := 0) rfl
      have c1 := k1.cell (j := 1) rfl
      have HD1 := kept (dsk_next (HN.out _ hb1) ((Below.refl w1.heap.size w1).drew))
      have HG := kept (goes_below (S := S) hb1)
      have CE1 := kept (CE.out _ _ _ HD1.out)
      clear CR HD0 k1 CE CC HC2 HE
      go_wp2_with fail
      go_region_with (go_at_call 35; refine CE1.out.mono ?_; rintro e w3 ⟨rfl, S3, hD3, hG3⟩)
      all_goals go_wp2_with fail
      all_goals go_ret
      all_goals rw [HR.out]
      all_goals exact ⟨rfl, S3, hD3, HG.out.trans ((goes_below (Below.refl w1.heap.size w1).drew).trans hG3)⟩
end Go.Proofs.YtdlghabpnpbebaaDoor.Jrn

/- The walks of layer 24, continued: Add, Gen. -/
namespace Go.Proofs.YtdlghabpnpbebaaDoor.Jrn
open Go.RowKit Go.Proofs.YtdlghabpnpbebaaDoor.Mem Go.Proofs.YtdlghabpnpbebaaDoor.Num Go.Proofs.YtdlghabpnpbebaaDoor.Wal Go.Proofs.YtdlghabpnpbebaaDoor.Disk Go.Proofs.YtdlghabpnpbebaaDoor.Crc

/-- a journal lies at gj, on the ground S of its disk and on its own block -/
def JrnAt (w : World) (S : Nat → Prop) (g gj : Nat) (j : JS) : Prop :=
  Dsk w S g j.d ∧ Blk w gj (JC g j.file j.gen) 33 ∧ ¬ S gj ∧ (j.file = 0 ∨ j.file = 1) ∧ j.gen < 18446744073709551616
/-- a journal's ground: its disk's, and its own block -/
def JG (S : Nat → Prop) (gj : Nat) : Nat → Prop := fun k => S k ∨ k = gj
/-- what a call on it gives -/
def JDoes (S : Nat → Prop) (g gj : Nat) (w : World) (j : JS) (v : Value) (e : Ending) (w' : World) : Prop := e = .returned v ∧ ∃ S', JrnAt w' S' g gj j ∧ Goes (JG S gj) w (JG S' gj) w'
theorem goesJ {S S1 : Nat → Prop} {w w' : World} (h : Goes S w S1 w') (gj : Nat) : Goes (JG S gj) w (JG S1 gj) w' :=
  ⟨h.1.mono fun _ _ hs => .inl hs, fun k hk => hk.elim (fun h1 => (h.2 k h1).imp .inl id) (fun h1 => .inl (.inr h1))⟩
theorem dsk_upd {S T : Nat → Prop} {g : Nat} {d : DS} {w w' : World} (h : Dsk w S g d) (hu : Upd T w w') (hd : ∀ k, S k → ¬ T k) : Dsk w' S g d := by
  obtain ⟨h1, h2, h3, A0, c0, A1, c1, h4, h5⟩ := h
  exact ⟨h1, h2, fun k hk => Nat.lt_of_lt_of_le (h3 k hk) hu.size, A0, c0, A1, c1, h4.upd hu (hd g h2), h5.upd hu fun k hk _ => hd k hk⟩
theorem JrnAt.next {S : Nat → Prop} {g gj : Nat} {j : JS} {w w' : World} (h : JrnAt w S g gj j) (hb : Below w.heap.size w w') : JrnAt w' S g gj j := ⟨dsk_next h.1 hb, h.2.1.next hb, h.2.2⟩
theorem JrnAt.under {S : Nat → Prop} {g gj : Nat} {j : JS} {w : World} (h : JrnAt w S g gj j) : ∀ k, JG S gj k → k < w.heap.size := fun k hk => hk.elim (h.1.2.2.1 k) (fun e => e ▸ h.2.1.lt)
theorem tab_below {B : Nat} {w w' : World} (hT : Tab w) (hg : 0 < B) (hb : Below B w w') : Tab w' :=
  ⟨Nat.lt_of_lt_of_le hT.1 hb.size, fun i hi => (hb.cell (p := ⟨0, i, none⟩) hg).trans (hT.2 i hi)⟩
theorem goes_not {S S1 : Nat → Prop} {w w' : World} {gj : Nat} (h : Goes S w S1 w') (hs : ¬ S gj) (hl : gj < w.heap.size) : ¬ S1 gj := fun h1 => (h.2 gj h1).elim hs (fun h2 => by omega)
theorem add_any (S : Nat → Prop) (g gj : Nat) (j : JS) (X : Option Addr) (m c : Nat) (l : List Nat) (w : World) (hm : m = l.length) (hT : Tab w) (h : JrnAt w S g gj j) (hl : AllB l) (hr : Rd w w.heap.size X (BB l)) (hsz : l.length ≤ 140737488350000) :
    Calls Tryd.prog 11 #[.pointer (some ⟨gj, 0, none⟩), .slice X m c] w (JDoes S g gj w (addM j l).1 (.int .i64 ((addM j l).2 : Int))) := by
  subst hm
  obtain ⟨hD, hk, hgj, hf, hgen⟩ := h
  obtain ⟨d, f, gen⟩ := j
  dsimp only at hD hk hf hgen
  have hgl : g < w.heap.size := hD.2.2.1 g hD.2.1
  have hkl := hk.lt
  have hrl := recB_le l
  have CP := kept (put_any X l.length c l w.drew rfl (hT.next (Below.refl w.heap.size w).drew) hl (hr.next (Below.refl w.heap.size w).drew) (by omega))
  have CW := kept (fun (W : World) (hb : Below w.heap.size w W) (A : Option Addr) (c2 : Nat) (hr2 : Rd W W.heap.size A (BB (recB l))) (hx : ∀ x, A = some x → BB (recB l) ≠ [] → x.block ≠ g) => write_any S g d f A (recB l).length c2 (recB l) W (dsk_next hD hb) hf (recB_all hl) rfl hr2 hx (by omega))
  have HA : Kept (addM ⟨d, f, gen⟩ l = (⟨(writeM d f (recB l)).1, f, gen⟩, (writeM d f (recB l)).2)) := ⟨rfl⟩
  have HK := kept hk
  have c0 := hk.cell (j := 0) rfl
  have c1 := hk.cell (j := 1) rfl
  have HSB : Kept (∀ W, Below w.heap.size w W → W.cell? ⟨gj, 0, none⟩ = some (.pointer (some ⟨g, 0, none⟩)) ∧ W.cell? ⟨gj, 1, none⟩ = some (.int .i64 f)) := ⟨fun W hb => ⟨(hk.next hb).cell (j := 0) rfl, (hk.next hb).cell (j := 1) rfl⟩⟩
  have HSG : Kept (∀ S1 W, Goes S w S1 W → W.cell? ⟨gj, 0, none⟩ = some (.pointer (some ⟨g, 0, none⟩)) ∧ W.cell? ⟨gj, 1, none⟩ = some (.int .i64 f)) := ⟨fun S1 W hG => ⟨(hk.upd hG.1 hgj).cell (j := 0) rfl, (hk.upd hG.1 hgj).cell (j := 1) rfl⟩⟩
  generalize writeM d f (recB l) = r at *
  generalize recB l = rl at *
  clear hD hk hT hr
  go_enter Tryd.func11, Tryd.ntmps11
  go_wp2_with fail
  have hbd : Below w.heap.size w w.drew := (Below.refl _ _).drew
  go_region_held3 (fun W => W.cell? ⟨gj, 0, none⟩ = some (.pointer (some ⟨g, 0, none⟩)) ∧ W.cell? ⟨gj, 1, none⟩ = some (.int .i64 f)) (first | exact HSB.out _ (by assumption) | exact HSG.out _ _ (by assumption)) (first
    | (go_at_call 34; ((with_reducible refine CP.out.mono ?_); rintro e w1 ⟨A1, c2, rfl, hown, hc2, hb⟩; have hb1 : Below w.heap.size w w1 := hbd.trans hb; have hr1 := hown.rd; have hx1 : ∀ x, A1 = some x → BB rl ≠ [] → x.block ≠ g := (by intro x hx _ hxg; subst hx; have h9 := (Own.lt hown x.block rfl).1; have h8 : w.drew.heap.size = w.heap.size := rfl; omega)))
    | (go_at_call 33; ((with_reducible refine (CW.out _ (by assumption) _ _ (by assumption) (by assumption)).mono ?_); rintro e w2 ⟨rfl, S2, hD2, hG2⟩; have hG3 : Goes S w S2 w2 := (goes_below (by assumption)).trans hG2)))
  all_goals go_wp2_with fail
  all_goals go_ret
  all_goals rw [HA.out]
  all_goals exact ⟨rfl, S2, ⟨hD2, HK.out.upd hG3.1 hgj, goes_not hG3 hgj hkl, hf, hgen⟩, goesJ hG3 gj⟩
theorem gen_any (S : Nat → Prop) (g gj : Nat) (j : JS) (w : World) (h : JrnAt w S g gj j) :
    Calls Tryd.prog 13 #[.pointer (some ⟨gj, 0, none⟩)] w fun e w' => e = .returned (.int .u64 (j.gen : Int)) ∧ w' = w := by
  obtain ⟨hD, hk, hgj, hf, hgen⟩ := h
  have c2 := hk.cell (j := 2) rfl
  clear hD hf
  go_enter Tryd.func13, Tryd.ntmps13
  go_wp2_with fail
  go_ret
  exact ⟨rfl, rfl⟩
theorem add_nil (X : Option Addr) (m c : Nat) (w : World) : Calls Tryd.prog 11 #[.pointer none, .slice X m c] w fun e w' => e = .returned (.int .i64 1) ∧ w' = w := by
  go_enter Tryd.func11, Tryd.ntmps11
  go_wp2_with fail
  go_ret
  exact ⟨rfl, rfl⟩
theorem ck_nil (X : Option Addr) (m c : Nat) (w : World) : Calls Tryd.prog 12 #[.pointer none, .slice X m c] w fun e w' => e = .returned (.int .i64 1) ∧ w' = w := by
  go_enter Tryd.func12, Tryd.ntmps12
  go_wp2_with fail
  go_ret
  exact ⟨rfl, rfl⟩
theorem gen_nil (w : World) : Calls Tryd.prog 13 #[.pointer none] w fun e w' => e = .returned (.int .u64 0) ∧ w' = w := by
  go_enter Tryd.func13, Tryd.ntmps13
  go_wp2_with fail
  go_ret
  exact ⟨rfl, rfl⟩
/-! a journal that no call made -/
def NoJ (w : World) (gj : Nat) : Prop := w.cell? ⟨gj, 0, none⟩ = some (.pointer none) ∧ w.cell? ⟨gj, 2, none⟩ = some (.int .u64 0)
theorem add_no (gj : Nat) (X : Option Addr) (m c : Nat) (w : World) (h : NoJ w gj) : Calls Tryd.prog 11 #[.pointer (some ⟨gj, 0, none⟩), .slice X m c] w fun e w' => e = .returned (.int .i64 1) ∧ w' = w := by
  obtain ⟨c0, c2⟩ := h
  go_enter Tryd.func11, Tryd.ntmps11
  go_wp2_with fail
  go_ret
  exact ⟨rfl, rfl⟩
theorem ck_no (gj : Nat) (X : Option Addr) (m c : Nat) (w : World) (h : NoJ w gj) : Calls Tryd.prog 12 #[.pointer (some ⟨gj, 0, none⟩), .slice X m c] w fun e w' => e = .returned (.int .i64 1) ∧ w' = w := by
  obtain ⟨c0, c2⟩ := h
  go_enter Tryd.func12, Tryd.ntmps12
  go_wp2_with fail
  go_ret
  exact ⟨rfl, rfl⟩
theorem gen_no (gj : Nat) (w : World) (h : NoJ w gj) : Calls Tryd.prog 13 #[.pointer (some ⟨gj, 0, none⟩)] w fun e w' => e = .returned (.int .u64 0) ∧ w' = w := by
  obtain ⟨c0, c2⟩ := h
  go_enter Tryd.func13, Tryd.ntmps13
  go_wp2_with fail
  go_ret
  exact ⟨rfl, rfl⟩
end Go.Proofs.YtdlghabpnpbebaaDoor.Jrn

/- The walks of layer 24, continued: Checkpoint. -/
namespace Go.Proofs.YtdlghabpnpbebaaDoor.Jrn
open Go.RowKit Go.Proofs.YtdlghabpnpbebaaDoor.Mem Go.Proofs.YtdlghabpnpbebaaDoor.Num Go.Proofs.YtdlghabpnpbebaaDoor.Wal Go.Proofs.YtdlghabpnpbebaaDoor.Disk Go.Proofs.YtdlghabpnpbebaaDoor.Crc

theorem headN_all (gen : Nat) {l : List Nat} (h : AllB l) : AllB (headN gen l) := recB_all fun x hx => (List.mem_append.1 hx).elim (numB_all gen x) (h x)
theorem headN_len (gen : Nat) (l : List Nat) : (headN gen l).length ≤ l.length + 22 := by
  unfold headN
  have := recB_le (numB gen ++ l)
  have h2 := numB_length gen
  have h3 := Shift.lenB_le gen
  rw [List.length_append] at this
  omega
set_option maxHeartbeats 2000000 in
theorem ck_any (S : Nat → Prop) (g gj : Nat) (j : JS) (X : Option Addr) (m c : Nat) (l : List Nat) (w : World) (hm : m = l.length) (hT : Tab w) (h : JrnAt w S g gj j) (hl : AllB l) (B : Nat) (hB : B ≤ w.heap.size) (hS : ∀ k, S k → B ≤ k) (hgB : 0 < B) (hr : Rd w w.heap.size X (BB l)) (hxS : ∀ x, X = some x → BB l ≠ [] → ¬ S x.block) (hsz : l.length ≤ 140737488350000) :
    Calls Tryd.prog 12 #[.pointer (some ⟨gj, 0, none⟩), .slice X m c] w (JDoes S g gj w (ckM j l).1 (.int .i64 ((ckM j l).2 : Int))) := by
  subst hm
  obtain ⟨hD, hk, hgj, hf, hgen⟩ := h
  obtain ⟨d, f, gen⟩ := j
  dsimp only at hD hk hf hgen
  have hgl : g < w.heap.size := hD.2.2.1 g hD.2.1
  have hkl := hk.lt
  have hfe : 1 - f = 0 ∨ 1 - f = 1 := by omega
  have hfb : -9223372036854775808 ≤ f ∧ f ≤ 9223372036854775807 := by omega
  have hw1 : IntKind.i64.wrap (1 - f) = 1 - f := IntWalk.i64_in _ (by omega)
  have hhl := headN_len (nextG gen) l
  have CE := kept (empty_any S g d (1 - f) w hD hfe)
  have HM : Kept (ckM ⟨d, f, gen⟩ l = ck3 (ck2 (emptyM d (1 - f)) ⟨d, f, gen⟩ l) ⟨d, f, gen⟩) := ⟨rfl⟩
  have H2 : Kept (∀ r, ck2 r ⟨d, f, gen⟩ l = if r.2 = 0 then writeM r.1 (1 - f) (headN (nextG gen) l) else r) := ⟨fun _ => rfl⟩
  have H3 : Kept (∀ r, ck3 r ⟨d, f, gen⟩ = if r.2 ≠ 0 then (⟨r.1, f, gen⟩, r.2) else (⟨(r.1.cutM f 0).1, 1 - f, nextG gen⟩, (r.1.cutM f 0).2)) := ⟨fun _ => rfl⟩
  have HK := kept hk
  have c0 := hk.cell (j := 0) rfl
  have c1 := hk.cell (j := 1) rfl
  obtain ⟨⟨d1, e1⟩, hr1⟩ : ∃ r, emptyM d (1 - f) = r := ⟨_, rfl⟩
  rw [hr1] at CE HM
  dsimp only at CE
  clear hr1
  go_enter Tryd.func12, Tryd.ntmps12
  go_wp2_with fail
  refine CE.out.mono ?_
  rintro e w1 ⟨rfl, S1, hD1, hG1⟩
  have k1 := HK.out.upd hG1.1 hgj
  have hgj1 := goes_not hG1 hgj hkl
  have hz1 := hG1.1.size
  by_cases he : e1 = 0
  · subst he
    have hd1 : (0 : Int) ≤ 0 := by omega
    have c0 := k1.cell (j := 0) rfl
    have c1 := k1.cell (j := 1) rfl
    have c2 := k1.cell (j := 2) rfl
    have hgn : ((nextG gen : Nat) : Int) = ((gen : Int) + 1) % 18446744073709551616 := by unfold nextG; omega
    have hbB := hG1.below hB hS
    have CH := kept (head_any (nextG gen) X l.length c l w1.drew rfl ((tab_below hT hgB hbB).next (Below.refl w1.heap.size w1).drew) (nextG_lt gen) hl (((hr.updN hG1.1 (Nat.le_refl _) hxS).more hz1).next (Below.refl w1.heap.size w1).drew) (by omega))
    have hgl1 : g < w1.heap.size := by omega
    have CW := kept (fun (W : World) (hb : Below w1.heap.size w1 W) (A : Option Addr) (c2 : Nat) (hr2 : Rd W W.heap.size A (BB (headN (nextG gen) l))) (hx : ∀ x, A = some x → BB (headN (nextG gen) l) ≠ [] → x.block ≠ g) => write_any S1 g d1 (1 - f) A (headN (nextG gen) l).length c2 (headN (nextG gen) l) W (dsk_next hD1 hb) hfe (headN_all _ hl) rfl hr2 hx (by omega))
    have HSB : Kept (∀ W, Below w1.heap.size w1 W → W.cell? ⟨gj, 0, none⟩ = some (.pointer (some ⟨g, 0, none⟩)) ∧ W.cell? ⟨gj, 2, none⟩ = some (.int .u64 (gen : Int))) := ⟨fun W hb => ⟨(k1.next hb).cell (j := 0) rfl, (k1.next hb).cell (j := 2) rfl⟩⟩
    have HSG : Kept (∀ S2 W, Goes S1 w1 S2 W → W.cell? ⟨gj, 0, none⟩ = some (.pointer (some ⟨g, 0, none⟩)) ∧ W.cell? ⟨gj, 2, none⟩ = some (.int .u64 (gen : Int))) := ⟨fun S2 W hG => ⟨(k1.upd hG.1 hgj1).cell (j := 0) rfl, (k1.upd hG.1 hgj1).cell (j := 2) rfl⟩⟩
    have hgw : IntKind.u64.wrap ((gen : Int) + 1) = ((nextG gen : Nat) : Int) := by rw [hgn]; simp [IntKind.wrap, IntKind.bits, IntKind.signed]
    have HM2 : Kept (ckM ⟨d, f, gen⟩ l = ck3 (writeM d1 (1 - f) (headN (nextG gen) l)) ⟨d, f, gen⟩) := ⟨by rw [HM.out, H2.out]; rfl⟩
    generalize writeM d1 (1 - f) (headN (nextG gen) l) = r2 at *
    generalize headN (nextG gen) l = hb9 at *
    clear hD1 hT hr HM H2 hgn hbB CE
    obtain ⟨d2, e2⟩ := r2
    dsimp only at CW
    have hbd : Below w1.heap.size w1 w1.drew := (Below.refl _ _).drew
    go_wp2_with fail
    go_cut [6] (fun p wr => p = .int .i64 (e2 : Int) ∧ ∃ S2, Dsk wr S2 g d2 ∧ Goes S1 w1 S2 wr)
    case first =>
      go_region_held3 (fun W => W.cell? ⟨gj, 0, none⟩ = some (.pointer (some ⟨g, 0, none⟩)) ∧ W.cell? ⟨gj, 2, none⟩ = some (.int .u64 (gen : Int))) (first | exact HSB.out _ (by assumption) | exact HSG.out _ _ (by assumption)) (first
        | (go_at_call 36; ((with_reducible refine CH.out.mono ?_); rintro e w2 ⟨A1, c2, rfl, hown, hc2, hb⟩; have hb1 : Below w1.heap.size w1 w2 := hbd.trans hb; have hr1 := hown.rd; have hx1 : ∀ x, A1 = some x → BB hb9 ≠ [] → x.block ≠ g := (by intro x hx _ hxg; subst hx; have h9 := (Own.lt hown x.block rfl).1; have h8 : w1.drew.heap.size = w1.heap.size := rfl; omega)))
        | (go_at_call 33; ((with_reducible refine (CW.out _ (by assumption) _ _ (by assumption) (by assumption)).mono ?_); rintro e w3 ⟨rfl, S2, hD2, hG2⟩; have hG3 : Goes S1 w1 S2 w3 := (goes_below (by assumption)).trans hG2)))
      all_goals go_wp2_with fail
      all_goals go_meet
      all_goals exact ⟨rfl, S2, hD2, hG3⟩
    case rest =>
      obtain ⟨rfl, S2, hD2, hG2⟩ := hcut
      obtain ⟨w2, rfl⟩ : ∃ w2 : World, w2 = wc := ⟨_, rfl⟩
      have k2 := k1.upd hG2.1 hgj1
      have hgj2 := goes_not hG2 hgj1 (by omega)
      have hG02 := hG1.trans hG2
      have hz2 := hG2.1.size
      clear CH CW HSB HSG k1 c0 c1 c2
      have c0 := k2.cell (j := 0) rfl
      have c1 := k2.cell (j := 1) rfl
      have c2 := k2.cell (j := 2) rfl
      by_cases he2 : e2 = 0
      · subst he2
        have f0 := k2.frozen 0
        have f1 := k2.frozen 1
        have f2 := k2.frozen 2
        have k3 : Blk ((w2.setCell ⟨gj, 1, none⟩ (.int .i64 (1 - f))).setCell ⟨gj, 2, none⟩ (.int .u64 ((nextG gen : Nat) : Int))) gj (JC g (1 - f) (nextG gen)) 33 := (k2.set 1 _).set 2 _
        have u3 : Upd (fun k => k = gj) w2 ((w2.setCell ⟨gj, 1, none⟩ (.int .i64 (1 - f))).setCell ⟨gj, 2, none⟩ (.int .u64 ((nextG gen : Nat) : Int))) := Upd.setCell (S := fun k => k = gj) (Upd.setCell (S := fun k => k = gj) (Upd.refl _ w2) (p := ⟨gj, 1, none⟩) (.inl rfl) _) (p := ⟨gj, 2, none⟩) (.inl rfl) _
        have hD3 := dsk_upd hD2 u3 (fun i hi e => hgj2 (e ▸ hi))
        have hz3 : (((w2.setCell ⟨gj, 1, none⟩ (.int .i64 (1 - f))).setCell ⟨gj, 2, none⟩ (.int .u64 ((nextG gen : Nat) : Int))) : World).heap.size = w2.heap.size := by simp [World.setCell]
        have CC := kept (cut_any S2 g d2 f 0 _ hD3 hfb)
        have hw2 : IntKind.i64.wrap (1 - (1 - f)) = f := by rw [show 1 - (1 - f) = f by omega]; exact IntWalk.i64_in _ hfb
        have hw3 : 1 - (1 - f) = f := by omega
        have HR : Kept (ckM ⟨d, f, gen⟩ l = (⟨(d2.cutM f 0).1, 1 - f, nextG gen⟩, (d2.cutM f 0).2)) := ⟨by rw [HM2.out, H3.out]; rfl⟩
        have HK3 := kept (And.intro k3 (And.intro u3 hz3))
        clear k3 u3 hz3 hD3 HM2 H3
        generalize d2.cutM f 0 = r3 at *
        go_wp2_with fail
        refine CC.out.mono ?_
        rintro e w4 ⟨rfl, S4, hD4, hG4⟩
        go_wp2_with fail
        go_ret
        rw [HR.out]
        obtain ⟨k3, u3, hz3⟩ := HK3.out
        have hg3 : Goes (JG S2 gj) w2 (JG S2 gj) ((w2.setCell ⟨gj, 1, none⟩ (.int .i64 (1 - f))).setCell ⟨gj, 2, none⟩ (.int .u64 ((nextG gen : Nat) : Int))) := ⟨u3.mono fun _ _ h => .inr h, fun _ hk => .inl hk⟩
        exact ⟨rfl, S4, ⟨hD4, k3.upd hG4.1 hgj2, goes_not hG4 hgj2 (by rw [hz3]; omega), hfe, nextG_lt gen⟩, (goesJ hG02 gj).trans (hg3.trans (goesJ hG4 gj))⟩
      · have HR : Kept (ckM ⟨d, f, gen⟩ l = (⟨d2, f, gen⟩, e2)) := ⟨by rw [HM2.out, H3.out, if_pos he2]⟩
        have heb2 : ((e2 : Int) != 0) = true := by simpa using he2
        clear H3 HM2
        go_wp2_with fail
        go_ret
        rw [HR.out]
        exact ⟨rfl, S2, ⟨hD2, k2, hgj2, hf, hgen⟩, goesJ hG02 gj⟩
  · have HR : Kept (ckM ⟨d, f, gen⟩ l = (⟨d1, f, gen⟩, e1)) := ⟨by rw [HM.out, H2.out, if_neg he, H3.out, if_pos he]⟩
    have heb : ((e1 : Int) == 0) = false := by simpa using he
    have heb2 : ((e1 : Int) != 0) = true := by simpa using he
    clear CE HM H2 H3
    go_wp2_with fail
    go_ret
    rw [HR.out]
    exact ⟨rfl, S1, ⟨hD1, k1, hgj1, hf, hgen⟩, goesJ hG1 gj⟩
end Go.Proofs.YtdlghabpnpbebaaDoor.Jrn

/- The walks of layer 24, continued: Open. -/
namespace Go.Proofs.YtdlghabpnpbebaaDoor.Jrn
open Go.RowKit Go.Proofs.YtdlghabpnpbebaaDoor.Mem Go.Proofs.YtdlghabpnpbebaaDoor.Num Go.Proofs.YtdlghabpnpbebaaDoor.Wal Go.Proofs.YtdlghabpnpbebaaDoor.Disk Go.Proofs.YtdlghabpnpbebaaDoor.Crc

/-- what a file told lies apart from the ground S -/
def FAt (w : World) (S : Nat → Prop) (A : Option Addr) (snap : List Nat) (X : Option Addr) (ps : List Part) : Prop :=
  Rd w w.heap.size A (BB snap) ∧ RdParts w w.heap.size X ps ∧ (∀ x, A = some x → BB snap ≠ [] → ¬ S x.block) ∧ (∀ x, X = some x → ps.map Part.val ≠ [] → ¬ S x.block) ∧ ∀ p ∈ ps, ∀ x, p.A = some x → BB p.l ≠ [] → ¬ S x.block
theorem rd_lt {w : World} {B : Nat} {A : Option Addr} {xs : List Value} (h : Rd w B A xs) {x : Addr} (hx : A = some x) (hn : xs ≠ []) : x.block < B := by
  obtain ⟨b, o, e, hb, _⟩ := h hn
  rw [hx] at e
  obtain rfl := Option.some.inj e
  exact hb
theorem FAt.goes {w w' : World} {S S1 : Nat → Prop} {A X : Option Addr} {snap : List Nat} {ps : List Part} (h : FAt w S A snap X ps) (hG : Goes S w S1 w') : FAt w' S1 A snap X ps := by
  obtain ⟨h1, h2, h3, h4, h5⟩ := h
  have ap : ∀ k, k < w.heap.size → ¬ S k → ¬ S1 k := fun k hk hs h1 => (hG.2 k h1).elim hs (fun h2 => by omega)
  refine ⟨(h1.updN hG.1 (Nat.le_refl _) h3).more hG.1.size, ⟨(h2.1.updN hG.1 (Nat.le_refl _) h4).more hG.1.size, fun p hp => ⟨((h2.2 p hp).1.updN hG.1 (Nat.le_refl _) (h5 p hp)).more hG.1.size, (h2.2 p hp).2⟩⟩, fun x hx hn => ap _ (rd_lt h1 hx hn) (h3 x hx hn), fun x hx hn => ap _ (rd_lt h2.1 hx hn) (h4 x hx hn), fun p hp x hx hn => ap _ (rd_lt (h2.2 p hp).1 hx hn) (h5 p hp x hx hn)⟩
theorem FAt.next {w w' : World} {S : Nat → Prop} {A X : Option Addr} {snap : List Nat} {ps : List Part} (h : FAt w S A snap X ps) (hb : Below w.heap.size w w') : FAt w' S A snap X ps := h.goes (goes_below hb)
theorem FAt.of_fresh {w : World} {S : Nat → Prop} {lo m gj : Nat} {A X : Option Addr} {snap : List Nat} {ps : List Part} (hm : m ≤ w.heap.size) (hj : m ≤ gj) (h1 : Rd w m A (BB snap)) (h2 : RdParts w m X ps) (h : Fresh lo A X ps) (hS : ∀ k, S k → k < lo) : FAt w (JG S gj) A snap X ps :=
  ⟨h1.more hm, h2.more hm, fun x hx hn hs => hs.elim (fun hs => by have := hS _ hs; have := h.1 x hx; omega) (fun e => by have := rd_lt h1 hx hn; omega), fun x hx hn hs => hs.elim (fun hs => by have := hS _ hs; have := h.2.1 x hx; omega) (fun e => by have := rd_lt h2.1 hx hn; omega), fun p hp x hx hn hs => hs.elim (fun hs => by have := hS _ hs; have := h.2.2 p hp x hx; omega) (fun e => by have := rd_lt (h2.2 p hp).1 hx hn; omega)⟩
/-- what Open gives -/
def OpenG (S : Nat → Prop) (g : Nat) (w : World) (d : DS) (e : Ending) (w' : World) : Prop :=
  ∃ S', Goes S w S' w' ∧ Dsk w' S' g (openM d).1.d ∧
    (((openM d).2 = 0 ∧ ∃ gj A c X c2 ps, e = .returned (.tuple #[.pointer (some ⟨gj, 0, none⟩), .slice A (pick d).2.snap.length c, .slice X (List.length ps) c2, .int .i64 0]) ∧ w.heap.size ≤ gj ∧ JrnAt w' S' g gj (openM d).1 ∧ bodies ps = (pick d).2.recs ∧ FAt w' (JG S' gj) A (pick d).2.snap X ps ∧ (pick d).2.snap.length ≤ c ∧ AllB (pick d).2.snap ∧ (pick d).2.snap.length ≤ 1048576 ∧ List.length ps ≤ 1048576) ∨
     ((openM d).2 ≠ 0 ∧ e = .returned (.tuple #[.pointer none, .slice none 0 0, .slice none 0 0, .int .i64 ((openM d).2 : Int)])))
theorem open_nil (w : World) : Calls Tryd.prog 14 #[.pointer none] w fun e w' => e = .returned (.tuple #[.pointer none, .slice none 0 0, .slice none 0 0, .int .i64 1]) ∧ w' = w := by
  go_enter Tryd.func14, Tryd.ntmps14
  go_wp2_with fail
  exact bodyPost_ret (v := .tuple #[.pointer none, .slice none 0 0, .slice none 0 0, .int .i64 1]) (by simp [results, Tryd.results14, go_sem]) rfl ⟨rfl, rfl⟩
end Go.Proofs.YtdlghabpnpbebaaDoor.Jrn

/- The walks of layer 24, continued: Open. -/
namespace Go.Proofs.YtdlghabpnpbebaaDoor.Jrn
open Go.RowKit Go.Proofs.YtdlghabpnpbebaaDoor.Mem Go.Proofs.YtdlghabpnpbebaaDoor.Num Go.Proofs.YtdlghabpnpbebaaDoor.Wal Go.Proofs.YtdlghabpnpbebaaDoor.Disk Go.Proofs.YtdlghabpnpbebaaDoor.Crc

theorem own_max {w : World} {base : Nat} {e : TypeId} {A : Option Addr} {n c : Nat} {xs : List Value} (h : Own w base e (.slice A n c) xs) : c ≤ 9223372036854775807 := by
  obtain ⟨A', c', he, _, hm, _⟩ := h.form
  injection he with h1 h2 h3
  subst h3
  unfold maxLen at hm
  omega
theorem Fresh.low {lo lo' : Nat} {A X : Option Addr} {ps : List Part} (h : Fresh lo A X ps) (hl : lo' ≤ lo) : Fresh lo' A X ps :=
  ⟨fun x hx => Nat.le_trans hl (h.1 x hx), fun x hx => Nat.le_trans hl (h.2.1 x hx), fun p hp x hx => Nat.le_trans hl (h.2.2 p hp x hx)⟩
theorem below_set4' {B : Nat} {w w1 : World} (h : Below B w w1) {g : Nat} (hp : B ≤ g) (v0 v1 v2 v3 : Value) : Below B w ((((w1.setCell ⟨g, 0, none⟩ v0).setCell ⟨g, 1, none⟩ v1).setCell ⟨g, 2, none⟩ v2).setCell ⟨g, 3, none⟩ v3) :=
  (((h.setCell (p := ⟨g, 0, none⟩) hp v0).setCell (p := ⟨g, 1, none⟩) hp v1).setCell (p := ⟨g, 2, none⟩) hp v2).setCell (p := ⟨g, 3, none⟩) hp v3
theorem Blk.other4 {w : World} {g g' : Nat} {cs : List Value} {t : TypeId} (h : Blk w g cs t) (hne : g' ≠ g) (v0 v1 v2 v3 : Value) : Blk ((((w.setCell ⟨g', 0, none⟩ v0).setCell ⟨g', 1, none⟩ v1).setCell ⟨g', 2, none⟩ v2).setCell ⟨g', 3, none⟩ v3) g cs t :=
  (((h.other (p := ⟨g', 0, none⟩) hne v0).other (p := ⟨g', 1, none⟩) hne v1).other (p := ⟨g', 2, none⟩) hne v2).other (p := ⟨g', 3, none⟩) hne v3
/-- the cells of a found -/
def FC (F : Found) (A : Option Addr) (c : Nat) (X : Option Addr) (n c2 : Nat) : List Value := [.int .u64 (F.gen : Int), .slice A F.snap.length c, .slice X n c2, .int .i64 (F.fin : Int)]
set_option maxHeartbeats 2000000 in
set_option maxRecDepth 100000 in
theorem open_any (S : Nat → Prop) (g : Nat) (d : DS) (w : World) (h : Dsk w S g d) (hT : Tab w) (B : Nat) (hB : B ≤ w.heap.size) (hS : ∀ k, S k → B ≤ k) (hgB : 0 < B) :
    Calls Tryd.prog 14 #[.pointer (some ⟨g, 0, none⟩)] w (OpenG S g w d) := by
  have hD0 := kept h
  have CR0 := kept (read_any S g d 0 w h (by omega))
  rw [readM_b (.inl rfl)] at CR0
  have CR1 := kept (fun (W : World) (hb : Below w.heap.size w W) => read_any S g d 1 W (dsk_next h hb) (by omega))
  rw [readM_b (.inr rfl)] at CR1
  have HL := kept (fun (b : List Nat) (hb : AllB b ∧ b.length ≤ 1048576) (W1 W : World) (hb1 : Below w.heap.size w W1) (A : Option Addr) (c : Nat) (ho : Own W w.heap.size 5 (.slice A b.length c) (BB b)) (hc : b.length ≤ c) (hW : Below w.heap.size w W) => look_any A b.length c b W rfl (hT.next hW) hb.1 hc (own_max ho) ho.rd hb.2)
  have B0 : Kept (AllB (d.b 0) ∧ (d.b 0).length ≤ 1048576) := ⟨b_all h.1 0, b_len h.1 0⟩
  have B1 : Kept (AllB (d.b 1) ∧ (d.b 1).length ≤ 1048576) := ⟨b_all h.1 1, b_len h.1 1⟩
  have HP : Kept (pick d = if (look (d.b 0)).gen < (look (d.b 1)).gen then (1, look (d.b 1)) else (0, look (d.b 0))) := ⟨rfl⟩
  have hgl : g < w.heap.size := h.2.2.1 g h.2.1
  clear h
  generalize d.b 0 = b0 at *
  generalize d.b 1 = b1 at *
  go_enter Tryd.func14, Tryd.ntmps14
  go_wp2_with fail
  refine CR0.out.mono ?_
  rintro e w1 ⟨A1, c1, rfl, ho1, hc1, hb1⟩
  have C1 := kept (HL.out b0 B0.out w1 w1 hb1 A1 c1 ho1 hc1 hb1)
  clear ho1 CR0
  go_wp2_with fail
  refine C1.out.mono ?_
  rintro e w2 ⟨A2, c2, X2, c22, ps2, rfl, hbo2, hr2, hx2, hle2, hgn2, hfi2, hal2, hsn2, hrc2, hfr2, hb2⟩
  have hb2 := below_c hb1 hb2
  have C2 := kept (CR1.out w2 hb2)
  clear C1 CR1
  go_wp2_with fail
  refine C2.out.mono ?_
  rintro e w3 ⟨A3, c3, rfl, ho3, hc3, hb3⟩
  have hz2 := hb2.size
  have hb23 := hb3
  have hb3 := below_c hb2 hb3
  have C3 := kept (HL.out b1 B1.out w3 w3 hb3 A3 c3 (ho3.mono hz2) hc3 hb3)
  clear ho3 C2 HL
  go_wp2_with fail
  refine C3.out.mono ?_
  rintro e w4 ⟨A4, c4, X4, c24, ps4, rfl, hbo4, hr4, hx4, hle4, hgn4, hfi4, hal4, hsn4, hrc4, hfr4, hb4⟩
  have hb24 := hb23.trans (hb4.mono hb23.size)
  have hb34 := hb4
  have hb4 := below_c hb3 hb4
  have hpl2 : ps2.length ≤ 1048576 := by have := congrArg List.length hbo2; unfold bodies at this; rw [List.length_map] at this; omega
  have hpl4 : ps4.length ≤ 1048576 := by have := congrArg List.length hbo4; unfold bodies at this; rw [List.length_map] at this; omega
  have HR2 := kept (And.intro (hr2.next hb24) (And.intro (hx2.next hb24) hbo2))
  have HR4 := kept (And.intro hr4 (And.intro hx4 hbo4))
  have HAL2 := kept (And.intro hal2 (And.intro hsn2 hpl2))
  have HAL4 := kept (And.intro hal4 (And.intro hsn4 hpl4))
  clear hr2 hx2 hr4 hx4 C3 hal2 hal4 hpl2 hpl4 hbo2 hbo4
  generalize look b0 = F0 at *
  generalize look b1 = F1 at *
  clear hb23 hb34
  go_upto_region 4 with fail
  have HZ4 : Kept (w.heap.size ≤ w4.heap.size) := ⟨hb4.size⟩
  have k6 : Blk ((w4.alloc (.cells (FC F0 A2 c2 X2 ps2.length c22).toArray 78)).alloc (.cells (FC F1 A4 c4 X4 ps4.length c24).toArray 78)) w4.heap.size (FC F0 A2 c2 X2 ps2.length c22) 78 := (Blk.new w4 _ _).alloc _
  have k7 : Blk ((w4.alloc (.cells (FC F0 A2 c2 X2 ps2.length c22).toArray 78)).alloc (.cells (FC F1 A4 c4 X4 ps4.length c24).toArray 78)) (w4.heap.size + 1) (FC F1 A4 c4 X4 ps4.length c24) 78 := Blk.newAt _ _ _ (by simp)
  have k6j := k6.alloc (.cells (JC g 0 F0.gen).toArray 33)
  have k7j := k7.alloc (.cells (JC g 0 F0.gen).toArray 33)
  have kj : Blk (((w4.alloc (.cells (FC F0 A2 c2 X2 ps2.length c22).toArray 78)).alloc (.cells (FC F1 A4 c4 X4 ps4.length c24).toArray 78)).alloc (.cells (JC g 0 F0.gen).toArray 33)) (w4.heap.size + 1 + 1) (JC g 0 F0.gen) 33 := Blk.newAt _ _ _ (by simp)
  have hb5 : Below w.heap.size w (((w4.alloc (.cells (FC F0 A2 c2 X2 ps2.length c22).toArray 78)).alloc (.cells (FC F1 A4 c4 X4 ps4.length c24).toArray 78)).alloc (.cells (JC g 0 F0.gen).toArray 33)) := ((hb4.alloc hb4.size _).alloc (by simp; have := hb4.size; omega) _).alloc (by simp; have := hb4.size; omega) _
  have hb45 : Below w4.heap.size w4 (((w4.alloc (.cells (FC F0 A2 c2 X2 ps2.length c22).toArray 78)).alloc (.cells (FC F1 A4 c4 X4 ps4.length c24).toArray 78)).alloc (.cells (JC g 0 F0.gen).toArray 33)) := (((Below.refl _ w4).alloc (Nat.le_refl _) _).alloc (by simp) _).alloc (by simp; omega) _
  have z0 := k6.cell (j := 0) rfl
  have z0j := k6j.cell (j := 0) rfl
  have z1j := k7j.cell (j := 0) rfl
  dsimp only [FC, JC] at z0 z0j z1j
  have HW := kept (And.intro k6j (And.intro k7j (And.intro kj (And.intro hb5 hb45))))
  clear k6 k7 k6j k7j kj hb5 hb45
  dsimp only [FC, JC] at HW
  go_upto_if 27 with fail
  obtain ⟨f, F, hpk⟩ : ∃ f F, pick d = (f, F) := ⟨_, _, rfl⟩
  have HPK := kept hpk
  rw [hpk] at HP
  clear hpk
  go_cut [] (fun wr => ∃ A c X c2 ps, Blk wr (w4.heap.size + 1 + 1) (JC g f F.gen) 33 ∧ Blk wr w4.heap.size (FC F A c X ps.length c2) 78 ∧ Below w.heap.size w wr ∧ w4.heap.size + 3 ≤ wr.heap.size ∧ (f = 0 ∨ f = 1) ∧ F.gen < 18446744073709551616 ∧ F.snap.length ≤ c ∧ bodies ps = F.recs ∧ Rd wr w4.heap.size A (BB F.snap) ∧ RdParts wr w4.heap.size X ps ∧ Fresh w.heap.size A X ps ∧ AllB F.snap ∧ F.snap.length ≤ 1048576 ∧ ps.length ≤ 1048576)
  case first =>
    clear z0 z0j z1j
    generalize (((w4.alloc (.cells #[.int .u64 (F0.gen : Int), .slice A2 F0.snap.length c2, .slice X2 ps2.length c22, .int .i64 (F0.fin : Int)] 78)).alloc (.cells #[.int .u64 (F1.gen : Int), .slice A4 F1.snap.length c4, .slice X4 ps4.length c24, .int .i64 (F1.fin : Int)] 78)).alloc (.cells #[.pointer (some ⟨g, 0, none⟩), .int .i64 0, .int .u64 (F0.gen : Int)] 33)) = w6 at *
    obtain ⟨k6, k7, kj, hb6, hb46⟩ := HW.out
    have HB := kept (And.intro hb6 (And.intro hb46 (And.intro kj.lt (And.intro (hb1.size) hb3.size))))
    have HK := kept (And.intro k6 (And.intro k7 kj))
    have y0 := k7.cell (j := 0) rfl
    have y1 := k7.cell (j := 1) rfl
    have y2 := k7.cell (j := 2) rfl
    have y3 := k7.cell (j := 3) rfl
    have j0 := kj.cell (j := 0) rfl
    have j1 := kj.cell (j := 1) rfl
    have j2 := kj.cell (j := 2) rfl
    have x0 := k6.cell (j := 0) rfl
    have x1 := k6.cell (j := 1) rfl
    have x2 := k6.cell (j := 2) rfl
    have x3 := k6.cell (j := 3) rfl
    have fj1 := kj.frozen 1
    have fj2 := kj.frozen 2
    have fx0 := k6.frozen 0
    have fx1 := k6.frozen 1
    have fx2 := k6.frozen 2
    have fx3 := k6.frozen 3
    clear HW k6 k7 kj hb46 hb6
    by_cases h01 : F0.gen < F1.gen
    · go_wp2_with fail
      go_region_law (fail)
      all_goals have k6' := Blk.drew (((HK.out.1.other (p := ⟨w4.heap.size + 1 + 1, 1, none⟩) (by simp; omega) (.int .i64 1)).other (p := ⟨w4.heap.size + 1 + 1, 2, none⟩) (by simp; omega) (.int .u64 (F1.gen : Int))))
      all_goals have k7' := Blk.drew (((HK.out.2.1.other (p := ⟨w4.heap.size + 1 + 1, 1, none⟩) (by simp) (.int .i64 1)).other (p := ⟨w4.heap.size + 1 + 1, 2, none⟩) (by simp) (.int .u64 (F1.gen : Int))))
      all_goals have y0' := k7'.cell (j := 0) rfl
      all_goals have y1' := k7'.cell (j := 1) rfl
      all_goals have y2' := k7'.cell (j := 2) rfl
      all_goals have y3' := k7'.cell (j := 3) rfl
      all_goals have x0' := k6'.cell (j := 0) rfl
      all_goals have x1' := k6'.cell (j := 1) rfl
      all_goals have x2' := k6'.cell (j := 2) rfl
      all_goals have x3' := k6'.cell (j := 3) rfl
      all_goals have fx0' := k6'.frozen 0
      all_goals have fx1' := k6'.frozen 1
      all_goals have fx2' := k6'.frozen 2
      all_goals have fx3' := k6'.frozen 3
      all_goals go_wp2_with fail
      all_goals
        go_meet
        obtain ⟨hb6, hb46, hjl, hz2', hz3'⟩ := HB.out
        have hz4 := HZ4.out
        have hbf := below_set4' ((hb6.setCell (p := ⟨w4.heap.size + 1 + 1, 1, none⟩) (by simp; omega) (.int .i64 1)).setCell (p := ⟨w4.heap.size + 1 + 1, 2, none⟩) (by simp; omega) (.int .u64 (F1.gen : Int))) (g := w4.heap.size) hz4 (.int .u64 (F1.gen : Int)) (.slice A4 F1.snap.length c4) (.slice X4 ps4.length c24) (.int .i64 (F1.fin : Int))
        have hb4f := below_set4' ((hb46.setCell (p := ⟨w4.heap.size + 1 + 1, 1, none⟩) (by simp; omega) (.int .i64 1)).setCell (p := ⟨w4.heap.size + 1 + 1, 2, none⟩) (by simp; omega) (.int .u64 (F1.gen : Int))) (g := w4.heap.size) (Nat.le_refl _) (.int .u64 (F1.gen : Int)) (.slice A4 F1.snap.length c4) (.slice X4 ps4.length c24) (.int .i64 (F1.fin : Int))
        have hHP := HP.out
        rw [if_pos h01] at hHP
        obtain ⟨rfl, rfl⟩ := Prod.mk.inj hHP
        refine ⟨A4, c4, X4, c24, ps4, Blk.drew (Blk.other4 ((HK.out.2.2.set 1 _).set 2 _) (by omega) _ _ _ _), Blk.drew (Blk.set4 ((HK.out.1.other (by simp; omega) _).other (by simp; omega) _)), hbf.drew, ?_, .inr rfl, hgn4, hle4, HR4.out.2.2, (HR4.out.1.below hb4f.drew), (HR4.out.2.1.below hb4f.drew), hfr4.low hz3', HAL4.out⟩
        simp
        omega
    · go_wp2_with fail
      go_meet
      obtain ⟨hb6, hb46, hjl, hz2', hz3'⟩ := HB.out
      have hHP := HP.out
      rw [if_neg h01] at hHP
      obtain ⟨rfl, rfl⟩ := Prod.mk.inj hHP
      exact ⟨A2, c2, X2, c22, ps2, HK.out.2.2, HK.out.1, hb6, by omega, .inl rfl, hgn2, hle2, HR2.out.2.2, HR2.out.1.below hb46, HR2.out.2.1.below hb46, hfr2.low (by omega), HAL2.out⟩
  case rest =>
    obtain ⟨A, c, X, cX, ps, kj, k6, hb6, hz6, hf, hgn, hle, hbo, hrA, hrX, hfr, hal⟩ := hcut
    obtain ⟨w6, rfl⟩ : ∃ w6 : World, w6 = wc := ⟨_, rfl⟩
    have hz4 := HZ4.out
    have hD6 := dsk_next hD0.out hb6
    have hjn : ¬ S (w4.heap.size + 1 + 1) := fun hs => by have := hD0.out.2.2.1 _ hs; omega
    have hn6 : ¬ S w4.heap.size := fun hs => by have := hD0.out.2.2.1 _ hs; omega
    have CC := kept (clean_any S g d (w4.heap.size + 1 + 1) f F.gen F.fin w6 hD6 kj hjn hf)
    have x3 := k6.cell (j := 3) rfl
    have HFA := kept (FAt.of_fresh (S := S) (gj := w4.heap.size + 1 + 1) (by omega) (by omega) hrA hrX hfr (fun k hs => hD0.out.2.2.1 k hs))
    have HLE := kept hle
    have HAL := kept hal
    have HBO := kept hbo
    have HOM : Kept (openM d = open2 (cleanM d f F.fin) (f, F)) := ⟨by unfold openM; rw [HPK.out]⟩
    have HO2 : Kept (∀ r, open2 r (f, F) = if r.2 = 0 ∧ F.gen = 0 then (⟨(writeM r.1 0 (headN 1 [])).1, f, 1⟩, (writeM r.1 0 (headN 1 [])).2) else (⟨r.1, f, F.gen⟩, r.2)) := ⟨fun _ => rfl⟩
    clear hal HAL2 HAL4 HP HR2 HR4 HW z0 z0j z1j hfr2 hfr4 hle2 hgn2 hfi2 hsn2 hrc2 hle4 hgn4 hfi4 hsn4 hrc4 B0 B1 hrA hrX hfr hle hbo hb1 hb2 hb3 hb4 hb24 hc1 hc3 hz2
    generalize cleanM d f F.fin = r at *
    obtain ⟨d7, e7⟩ := r
    dsimp only at CC
    go_wp2_with fail
    refine CC.out.mono ?_
    rintro e w7 ⟨rfl, S7, hD7, hG7⟩
    have k7 := k6.upd hG7.1 hn6
    have kj7 := kj.upd hG7.1 hjn
    have hjn7 := goes_not hG7 hjn (by omega)
    have hG07 : Goes S w S7 w7 := (goes_below hb6).trans hG7
    have hz7 := hG7.1.size
    have HF7 := kept (HFA.out.goes (goesJ hG7 (w4.heap.size + 1 + 1)))
    clear CC HFA x3
    have x1 := k7.cell (j := 1) rfl
    have x2 := k7.cell (j := 2) rfl
    have j2 := kj7.cell (j := 2) rfl
    have fj2 := kj7.frozen 2
    by_cases he7 : e7 = 0
    · subst he7
      by_cases hg0 : F.gen = 0
      · have HR : Kept (openM d = (⟨(writeM d7 0 (headN 1 [])).1, f, 1⟩, (writeM d7 0 (headN 1 [])).2)) := ⟨by rw [HOM.out, HO2.out, if_pos ⟨rfl, hg0⟩]⟩
        have kj8 : Blk (w7.setCell ⟨w4.heap.size + 1 + 1, 2, none⟩ (.int .u64 1)) (w4.heap.size + 1 + 1) (JC g f 1) 33 := kj7.set 2 _
        have u8 : Upd (fun k => k = w4.heap.size + 1 + 1) w7 (w7.setCell ⟨w4.heap.size + 1 + 1, 2, none⟩ (.int .u64 1)) := Upd.setCell (S := fun k => k = w4.heap.size + 1 + 1) (Upd.refl _ w7) (p := ⟨w4.heap.size + 1 + 1, 2, none⟩) (.inl rfl) _
        have hD8 := dsk_upd hD7 u8 (fun i hi e => hjn7 (e ▸ hi))
        have hG8 : Goes (JG S7 (w4.heap.size + 1 + 1)) w7 (JG S7 (w4.heap.size + 1 + 1)) (w7.setCell ⟨w4.heap.size + 1 + 1, 2, none⟩ (.int .u64 1)) := ⟨u8.mono fun _ _ h => .inr h, fun _ hk => .inl hk⟩
        have hT8 : Tab (w7.setCell ⟨w4.heap.size + 1 + 1, 2, none⟩ (.int .u64 1)) := tab_below hT hgB (((hb6.mono hB).trans (hG7.below (by omega) hS)).setCell (by simp; omega) _)
        have hG7' := hG7
        have hz8 : (w7.setCell ⟨w4.heap.size + 1 + 1, 2, none⟩ (.int .u64 1)).heap.size = w7.heap.size := by simp [World.setCell]
        have HK8 := kept (And.intro kj8 hG8)
        have k8 := (k7.other (p := ⟨w4.heap.size + 1 + 1, 2, none⟩) (by simp; omega) (.int .u64 1))
        have CH := kept (head_any 1 none 0 0 [] (w7.setCell ⟨w4.heap.size + 1 + 1, 2, none⟩ (.int .u64 1)) rfl hT8 (by decide) (fun x hx => by cases hx) Rd.nil (by simp))
        have hhl := headN_len 1 []
        have CW := kept (fun (W : World) (hb : Below w7.heap.size (w7.setCell ⟨w4.heap.size + 1 + 1, 2, none⟩ (.int .u64 1)) W) (A : Option Addr) (c2 : Nat) (hr2 : Rd W W.heap.size A (BB (headN 1 []))) (hx : ∀ x, A = some x → BB (headN 1 []) ≠ [] → x.block ≠ g) => write_any S7 g d7 0 A (headN 1 []).length c2 (headN 1 []) W (dsk_next hD8 (by rw [hz8]; exact hb)) (.inl rfl) (headN_all _ (fun x hx => by cases hx)) rfl hr2 hx (by simp only [List.length_nil] at hhl; omega))
        have HG7 := kept hG07
        have hgl7 : g < w7.heap.size := by omega
        clear hG8 kj8 hD8 hT8 hG07 hhl hT hG7 hD7 u8 hD6
        generalize writeM d7 0 (headN 1 []) = r9 at *
        generalize headN 1 [] = hb9 at *
        obtain ⟨d9, e9⟩ := r9
        dsimp only at CW HR
        go_wp2_with fail
        refine CH.out.mono ?_
        rintro e w8 ⟨A8, c8, rfl, hown, hc8, hb8⟩
        have hr8 := hown.rd
        have HU8 := kept ((HG7.out.1.setCell (p := ⟨w4.heap.size + 1 + 1, 2, none⟩) (.inr (by simp; omega)) (.int .u64 1)).next hb8)
        rw [hz8] at hb8
        have hx8 : ∀ x, A8 = some x → BB hb9 ≠ [] → x.block ≠ g := by
          intro x hx _ hxg
          subst hx
          have h9 := (Own.lt hown x.block rfl).1
          omega
        have CW2 := kept (CW.out w8 hb8 A8 c8 hr8 hx8)
        clear CH CW hown hx8 hr8
        go_wp2_with fail
        refine CW2.out.mono ?_
        rintro e w9 ⟨rfl, S9, hD9, hG9⟩
        have hjn8 : ¬ S9 (w4.heap.size + 1 + 1) := goes_not hG9 hjn7 (by have := hb8.size; omega)
        have kj9 := (HK8.out.1.below (B := w7.heap.size) hb8 (by omega)).upd hG9.1 hjn7
        have k9 := (k8.below (B := w7.heap.size) hb8 (by omega)).upd hG9.1 (fun hs => hn6 ((hG7'.2 _ hs).elim id (fun h2 => by omega)))
        have HF9 := kept ((HF7.out.goes HK8.out.2).next (by rw [hz8]; exact hb8) |>.goes (goesJ hG9 (w4.heap.size + 1 + 1)))
        have hG09 : Goes S w S9 w9 := Goes.trans ⟨HU8.out, HG7.out.2⟩ hG9
        have hz9 := hG9.1.size
        have hz78 := hb8.size
        clear CW2 HK8 HG7 HU8 hG9 hb8 HOM HO2 hG7' x1 x2 j2 fj2 kj7 kj k6 k7 k8
        have x1 := k9.cell (j := 1) rfl
        have x2 := k9.cell (j := 2) rfl
        by_cases he9 : e9 = 0
        · subst he9
          have hbq : ∀ q, Below w9.heap.size w9 (w9.drewN q) := fun q => ⟨rfl, rfl, rfl, Nat.le_refl _, fun _ _ => rfl⟩
          go_wp2_with fail
          go_quiet (fail)
          go_wp2_with fail
          exact bodyPost_ret (v := .tuple #[.pointer (some ⟨w4.heap.size + 1 + 1, 0, none⟩), .slice A F.snap.length c, .slice X ps.length cX, .int .i64 0]) (by simp [results, Tryd.results14, go_sem]) rfl (by unfold OpenG; rw [HR.out, HPK.out]; exact ⟨S9, hG09.trans (goes_below (hbq _)), dsk_next hD9 (hbq _), .inl ⟨rfl, w4.heap.size + 1 + 1, A, c, X, cX, ps, rfl, by omega, ⟨dsk_next hD9 (hbq _), kj9.next (hbq _), hjn8, hf, (by show (1:Nat) < _; omega)⟩, HBO.out, HF9.out.next (hbq _), HLE.out, HAL.out⟩⟩)
        · have heb : ((e9 : Int) == 0) = false := by simpa using he9
          have heb2 : ((e9 : Int) != 0) = true := by simpa using he9
          go_wp2_with fail
          exact bodyPost_ret (v := .tuple #[.pointer none, .slice none 0 0, .slice none 0 0, .int .i64 (e9 : Int)]) (by simp [results, Tryd.results14, go_sem]) rfl (by unfold OpenG; rw [HR.out, HPK.out]; exact ⟨S9, hG09, hD9, .inr ⟨he9, rfl⟩⟩)
      · have HR : Kept (openM d = (⟨d7, f, F.gen⟩, 0)) := ⟨by rw [HOM.out, HO2.out, if_neg (fun h => hg0 h.2)]⟩
        have hbq : ∀ q, Below w7.heap.size w7 (w7.drewN q) := fun q => ⟨rfl, rfl, rfl, Nat.le_refl _, fun _ _ => rfl⟩
        have hg0b : ((F.gen : Int) == 0) = false := by simpa using hg0
        clear HOM HO2
        go_wp2_with fail
        go_quiet (fail)
        go_wp2_with fail
        exact bodyPost_ret (v := .tuple #[.pointer (some ⟨w4.heap.size + 1 + 1, 0, none⟩), .slice A F.snap.length c, .slice X ps.length cX, .int .i64 0]) (by simp [results, Tryd.results14, go_sem]) rfl (by unfold OpenG; rw [HR.out, HPK.out]; exact ⟨S7, hG07.trans (goes_below (hbq _)), dsk_next hD7 (hbq _), .inl ⟨rfl, w4.heap.size + 1 + 1, A, c, X, cX, ps, rfl, by omega, ⟨dsk_next hD7 (hbq _), kj7.next (hbq _), hjn7, hf, hgn⟩, HBO.out, HF7.out.next (hbq _), HLE.out, HAL.out⟩⟩)
    · have HR : Kept (openM d = (⟨d7, f, F.gen⟩, e7)) := ⟨by rw [HOM.out, HO2.out, if_neg (fun h => he7 h.1)]⟩
      have heb : ((e7 : Int) == 0) = false := by simpa using he7
      have heb2 : ((e7 : Int) != 0) = true := by simpa using he7
      clear HOM HO2
      go_wp2_with fail
      exact bodyPost_ret (v := .tuple #[.pointer none, .slice none 0 0, .slice none 0 0, .int .i64 (e7 : Int)]) (by simp [results, Tryd.results14, go_sem]) rfl (by unfold OpenG; rw [HR.out, HPK.out]; exact ⟨S7, hG07, hD7, .inr ⟨he7, rfl⟩⟩)
end Go.Proofs.YtdlghabpnpbebaaDoor.Jrn
