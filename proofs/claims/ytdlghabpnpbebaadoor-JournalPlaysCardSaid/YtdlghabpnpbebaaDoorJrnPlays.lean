/- Layer 24 (journal): the law JournalPlays. -/
import Derived.Test.YtdlghabpnpbebaaDoorJrnPlSt
import Derived.Test.YtdlghabpnpbebaaDoorJrnGo
import Derived.Deep.CutBlock
import Derived.Deep.DeepCutAuto
import Derived.Deep.RegionWith
import Derived.Deep.RegionLaw
namespace Go.Proofs.YtdlghabpnpbebaaDoor.Jrn
open Go.RowKit Go.Proofs.YtdlghabpnpbebaaDoor.Mem Go.Proofs.YtdlghabpnpbebaaDoor.Num Go.Proofs.YtdlghabpnpbebaaDoor.Wal Go.Proofs.YtdlghabpnpbebaaDoor.Disk Go.Proofs.YtdlghabpnpbebaaDoor.Crc

set_option maxRecDepth 100000 in
set_option maxHeartbeats 16000000 in
theorem jplays_law (room : Int) (A : Option Addr) (c : Nat) (ls : List JActM) (w : World) (hT : Tab w) (hr : jactE.Rd w w.heap.size A ls) (hok : ∀ x ∈ ls, x.Ok w) (hsz : ls.length ≤ 9223372036854775807) :
    Calls Tryd.prog 6 #[.int .i64 room, .slice A ls.length c] w fun e w' => e = .returned (.bool true) ∧ Below w.heap.size w w' := by
  have CF := kept (few_any A c ls w hr hok hsz)
  have CW := kept (fun W (hb : Below w.heap.size w W) => works_any W (hT.next hb))
  by_cases hfew : fewA ls
  case neg =>
    have hd : decide (fewA ls) = false := decide_eq_false hfew
    rw [hd] at CF
    have CW1 := kept (CW.out w (Below.refl _ _))
    clear hr hok hd CW
    go_enter Tryd.func6, Tryd.ntmps6
    go_wp2_with fail
    refine CF.out.mono ?_
    rintro e w' ⟨rfl, rfl⟩
    go_wp2_with fail
    refine CW1.out.mono ?_
    rintro e w1 ⟨rfl, hb⟩
    have HB := kept hb
    clear hb
    go_wp2_with fail
    go_ret
    exact ⟨rfl, HB.out⟩
  case pos =>
  have hd : decide (fewA ls) = true := decide_eq_true hfew
  rw [hd] at CF
  have h30 : ls.length ≤ 30 := hfew.1
  have HFEW := kept hfew.2
  have HR := kept hr
  have HOK := kept hok
  have HT := kept hT
  have h4 : 0 < w.heap.size := hT.1
  have H4 := kept h4
  have CN := kept (new_any room w)
  have CR := kept (fun W => rnew_any room W)
  generalize newD room = d0 at *
  clear hr hok hsz hd hfew hT h4
  go_enter Tryd.func6, Tryd.ntmps6
  go_wp2_with fail
  refine CF.out.mono ?_
  rintro e w' ⟨rfl, rfl⟩
  clear CF
  go_wp2_with fail
  refine CN.out.mono ?_
  rintro en w1 ⟨rfl, hd1, hb1⟩
  have HOKD := kept hd1.1
  have CO := kept (open_any _ _ _ w1 hd1 (HT.out.next hb1) w.heap.size hb1.size (fun k hk => by omega) H4.out)
  have HB1 := kept (And.intro hb1 (hd1.2.2.1 _ rfl))
  clear hd1 hb1 CN
  unfold OpenG at CO
  have CRO := kept (fun W => ropen_any d0 W HOKD.out)
  unfold ROpenG at CRO
  simp only [jV_ex] at CRO
  generalize openM d0 = r0 at *
  generalize pick d0 = pk0 at *
  obtain ⟨⟨d2, f2, g2⟩, e2⟩ := r0
  dsimp only at CO CRO
  simp only [rV_ex] at CR CRO
  go_wp2_with fail
  refine CO.out.mono ?_
  rintro en w2 ⟨S2, hG2, hD2, hcase⟩
  have HW2 : Kept (Below w.heap.size w w2 ∧ (∀ k, S2 k → w.heap.size ≤ k)) := ⟨HB1.out.1.trans (hG2.below HB1.out.1.size (fun k hk => by omega)), hG2.base HB1.out.1.size (fun k hk => by omega)⟩
  -- the program's journal, in the form that the loop holds
  have hsum : ∃ (jp : Value) (A2 X2 : Option Addr) (n2 m2 c2 cX2 : Nat), en = .returned (.tuple #[jp, .slice A2 n2 c2, .slice X2 m2 cX2, .int .i64 (e2 : Int)]) ∧ (∀ G, w2.heap.size ≤ G → PJ w w2 S2 w.heap.size G G (decide (e2 = 0)) jp f2 g2) := by
    rcases hcase with ⟨rfl, gj, A2, c2, X2, cX2, ps2, rfl, hgj, hJ, -⟩ | ⟨he, rfl⟩
    · refine ⟨_, _, _, _, _, _, _, rfl, fun G hG => .inl ⟨rfl, gj, rfl, Nat.le_trans HB1.out.1.size hgj, ?_, ?_, hJ.2.2.1, hJ.2.1, hJ.2.2.2⟩⟩
      · have := hJ.2.1.lt; omega
      · have := hJ.2.1.lt; omega
    · exact ⟨_, _, _, _, _, _, _, rfl, fun G hG => .inr ⟨decide_eq_false he, rfl⟩⟩
  clear hcase
  obtain ⟨jp, A2, X2, n2, m2, c2, cX2, rfl, hpj⟩ := hsum
  have HD2 := kept hD2
  have HPJ := kept hpj
  clear hG2 hD2 CO hpj HB1
  go_wp2_with fail
  refine (CR.out _).mono ?_
  rintro en w3 ⟨rfl, hb3⟩
  go_wp2_with fail
  refine (CRO.out _).mono ?_
  rintro en w4 ⟨hb4, hcase⟩
  have hsum : ∃ (f3 : Int) (g3 : Nat) (A3 X3 : Option Addr) (n3 m3 c3 cX3 : Nat), en = .returned (.tuple #[.agg #[.string (strB d2.b0), .string (strB d2.b1), .int .i64 (d2.s0 : Int), .int .i64 (d2.s1 : Int), .int .i64 (d2.room : Int), .int .i64 d2.fuse, .bool d2.down, .int .i64 f3, .int .u64 (g3 : Int)], .slice A3 n3 c3, .slice X3 m3 cX3, .int .i64 (e2 : Int)]) ∧ (e2 = 0 → f3 = f2 ∧ g3 = g2) := by
    rcases hcase with ⟨rfl, A3, c3, X3, cX3, ps3, rfl, -⟩ | ⟨he, f3, g3, rfl⟩
    · exact ⟨f2, g2, _, _, _, _, _, _, rfl, fun _ => ⟨rfl, rfl⟩⟩
    · exact ⟨f3, g3, _, _, _, _, _, _, rfl, fun h => absurd h he⟩
  clear hcase
  obtain ⟨f3, g3, A3, X3, n3, m3, c3, cX3, rfl, hfg⟩ := hsum
  have HST : Kept (JPSt w (w4.alloc (.cells #[.string (strB d2.b0), .string (strB d2.b1), .int .i64 (d2.s0 : Int), .int .i64 (d2.s1 : Int), .int .i64 (d2.room : Int), .int .i64 d2.fuse, .bool d2.down, .int .i64 f3, .int .u64 (g3 : Int)] 57)) S2 w.heap.size w4.heap.size (decide (e2 = 0)) jp d2 f3 g3) := by
    have hb24 : Below w2.heap.size w2 (w4.alloc (.cells #[.string (strB d2.b0), .string (strB d2.b1), .int .i64 (d2.s0 : Int), .int .i64 (d2.s1 : Int), .int .i64 (d2.room : Int), .int .i64 d2.fuse, .bool d2.down, .int .i64 f3, .int .u64 (g3 : Int)] 57)) := (hb3.trans (hb4.mono hb3.size)).alloc (Nat.le_trans hb3.size hb4.size) _
    have hz : w2.heap.size ≤ w4.heap.size := Nat.le_trans hb3.size hb4.size
    have hp := HPJ.out w4.heap.size hz
    refine ⟨⟨HW2.out.1.trans (hb24.mono HW2.out.1.size), dsk_next HD2.out hb24, fun k hk => ⟨HW2.out.2 k hk, by have := HD2.out.2.2.1 k hk; omega⟩, Nat.le_trans HW2.out.1.size hz, Blk.new w4 _ _, ?_⟩⟩
    have hp2 := hp.goes (goes_below (S := S2) hb24)
    rcases hp2 with ⟨hu, r⟩ | h
    · obtain ⟨rfl, rfl⟩ := hfg (of_decide_eq_true hu)
      exact .inl ⟨hu, r⟩
    · exact .inr h
  have hjp : ((e2 : Int) == 0) = decide (e2 = 0) := by by_cases h : e2 = 0 <;> simp [h]
  have hjn : ((e2 : Int) != 0) = !decide (e2 = 0) := by by_cases h : e2 = 0 <;> simp [h]
  have hpp : (decide (e2 = 0) = true ∧ ∃ gj, jp = .pointer (some ⟨gj, 0, none⟩)) ∨ (decide (e2 = 0) = false ∧ jp = .pointer none) := by
    rcases HST.out.2.2.2.2.2 with ⟨hu, gj, e, _⟩ | h
    · exact .inl ⟨hu, gj, e⟩
    · exact .inr h
  generalize decide (e2 = 0) = u0 at *
  have HJP := kept hjp
  have HHE := kept hjn
  clear hb3 hb4 hfg CR CRO HPJ HD2 HW2 hjp hjn
  go_upto_region 6 with fail
  change Code.wp _ _ _ _ (w4.alloc (.cells (jL d2 f3 g3).toArray 57))
  change Kept (JPSt w (w4.alloc (.cells (jL d2 f3 g3).toArray 57)) S2 w.heap.size w4.heap.size u0 jp d2 f3 g3) at HST
  generalize w4.alloc (.cells (jL d2 f3 g3).toArray 57) = w5 at *
  generalize w4.heap.size = G at *
  go_cut [51] (fun p wr => p = .bool false ∧ w5 = wr)
  case first =>
    have hjn := HHE.out
    rcases hpp with ⟨rfl, gj, rfl⟩ | ⟨rfl, rfl⟩
    · go_wp2_with fail
      go_meet
      exact ⟨rfl, rfl⟩
    · go_wp2_with fail
      go_meet
      exact ⟨rfl, rfl⟩
  case rest =>
  obtain ⟨rfl, rfl⟩ := hcut
  have hjp := HJP.out
  clear hpp HHE HJP
  go_wp2_with fail
  go_loopw [6, 14, 15] (fun p v i wr => ∃ (j : Nat) (S : Nat → Prop) (u : Bool) (d : DS) (f : Int) (gn : Nat), j ≤ ls.length ∧ i = .int .i64 (j : Int) ∧ v = .bool u ∧ Kept (JPSt w wr S w.heap.size G u p d f gn)) (fun _ _ i _ => ls.length - (intOf i).toNat)
  case atStart => exact ⟨0, _, u0, _, _, _, Nat.zero_le _, rfl, rfl, HST⟩
  case round =>
    obtain ⟨j, S, u, d, f, gn, hj, rfl, rfl, hin⟩ := hrel
    by_cases hlt : j < ls.length
    · obtain ⟨x, hx⟩ : ∃ x, ls[j]? = some x := ⟨_, List.getElem?_eq_getElem hlt⟩
      have hxo := HOK.out x (List.mem_of_getElem? hx)
      have hx3 := HFEW.out x (List.mem_of_getElem? hx)
      obtain ⟨b, o, rfl, hbb, hcs⟩ := (HR.out.next hin.out.1).at_ hx
      obtain ⟨xk, xn, xt, xA, xb, xc⟩ := x
      have c0 : wr.cell? ⟨b, o + j * 4, none⟩ = some (.int .u8 (xk : Int)) := hcs 0 _ rfl
      have c1 : wr.cell? ⟨b, o + j * 4 + 1, none⟩ = some (.int .i64 xn) := hcs 1 _ rfl
      have c2 : wr.cell? ⟨b, o + j * 4 + 2, none⟩ = some (.bool xt) := hcs 2 _ rfl
      have c3 : wr.cell? ⟨b, o + j * 4 + 3, none⟩ = some (.slice xA xb.length xc) := hcs 3 _ rfl
      obtain ⟨hk0, hn0, -, hrd, hab, hle, hcc⟩ := hxo
      dsimp only at hk0 hn0 hrd hab hle hcc hx3
      have HI := kept (hin.out.start ⟨xk, xn, xt, xA, xb, xc⟩)
      have HAB := kept hab
      have HRD := kept hrd
      have hjn : (j : Int) < (ls.length : Int) := by omega
      clear hcs hx hrd hab
      have HK : Kept (xk ≤ 2 ∨ xk = 3 ∨ xk = 4 ∨ xk = 5 ∨ xk = 6 ∨ xk = 7 ∨ 7 < xk) := ⟨by omega⟩
      go_upto_block 2 with fail
      go_cut [6, 9, 13, 14] (fun jp e1 e2 v wx => ∃ (S' : Nat → Prop) (u' : Bool) (jp' : Value) (d' : DS) (f' : Int) (gn' : Nat) (r : Nat), jp' = jp ∧ e1 = .int .i64 (r : Int) ∧ e2 = .int .i64 (r : Int) ∧ v = .bool u' ∧ Kept (JPIn w wx S' w.heap.size G wr.heap.size u' jp' d' f' gn' d' f' gn' ⟨xk, xn, xt, xA, xb, xc⟩))
      case first =>
        have HOKD := kept HI.out.2.1.1
        rcases HK.out with hk2 | rfl | rfl | rfl | rfl | rfl | h7
        · as_aux_lemma =>
          have hq : (xk : Int) ≤ 2 := by omega
          have q3 : ((xk : Int) == 3) = false := by simp; omega
          have q4 : ((xk : Int) == 4) = false := by simp; omega
          have q5 : ((xk : Int) == 5) = false := by simp; omega
          have q6 : ((xk : Int) == 6) = false := by simp; omega
          have q7 : ((xk : Int) == 7) = false := by simp; omega
          cases u with
          | true =>
            obtain ⟨gj, rfl, hJ⟩ := HI.out.jat
            have HF := kept hJ.2.2.2.1
            have HGN := kept hJ.2.2.2.2
            have CA := kept (add_any S w.heap.size gj ⟨d, f, gn⟩ xA _ xc xb _ rfl (HT.out.next HI.out.1) hJ HAB.out (HRD.out.next HI.out.1) (by omega))
            have CRA : Kept (∀ W : World, Below w.heap.size w W → _) := ⟨fun W hb => radd_any ⟨d, f, gn⟩ xA _ xc xb W HOKD.out HF.out rfl HAB.out (HRD.out.next hb) (by omega)⟩
            clear hJ
            generalize addM ⟨d, f, gn⟩ xb = r5 at *
            obtain ⟨⟨d5, f5, g5⟩, e5⟩ := r5
            dsimp only at CA CRA
            simp only [jV_ex] at CRA
            go_wp2_with fail
            refine CA.out.mono ?_
            rintro en w5 ⟨rfl, S5, hJ5, hg5⟩
            have HI5 := kept (HI.out.turn hJ5 hg5)
            clear hJ5 hg5 CA
            have hk5 : Blk w5 G [.string (strB d.b0), .string (strB d.b1), .int .i64 (d.s0 : Int), .int .i64 (d.s1 : Int), .int .i64 (d.room : Int), .int .i64 d.fuse, .bool d.down, .int .i64 f, .int .u64 (gn : Int)] 57 := HI5.out.2.2.2.2.1
            have z1 : w5.cell? ⟨wr.heap.size, 1, none⟩ = some (.int .i64 xn) := HI5.out.cell rfl
            have z2 : w5.cell? ⟨wr.heap.size, 2, none⟩ = some (.bool xt) := HI5.out.cell rfl
            have z3 : w5.cell? ⟨wr.heap.size, 3, none⟩ = some (.slice xA xb.length xc) := HI5.out.cell rfl
            have hzl := HI5.out.2.2.2.2.2.1.lt
            go_wp2_with (refine wpl_loadB rfl _ _ rfl G rfl _ _ hk5 _ rfl rfl rfl ?_)
            refine (CRA.out _ HI5.out.1).mono ?_
            rintro en w6 ⟨rfl, hb6⟩
            have HI6 := kept (HI5.out.next hb6)
            have hk6 := HI6.out.2.2.2.2.1
            clear hb6 HI5 hk5 z1 z2 z3 hzl CRA
            go_wp2_with (refine wpl_storeB rfl _ _ _ rfl G (jL d5 f5 g5) rfl rfl _ _ hk6 rfl rfl rfl ?_; intro w7 hk7 hu7; have HI7 := kept (HI6.out.store hk7 hu7))
            go_meet
            exact ⟨_, _, _, _, _, _, _, rfl, rfl, rfl, rfl, HI7⟩
          | false =>
            go_wp2_with fail
            go_meet
            exact ⟨_, _, _, _, _, _, 0, rfl, rfl, rfl, rfl, HI⟩
        · as_aux_lemma =>
          cases u with
          | true =>
            obtain ⟨gj, rfl, hJ⟩ := HI.out.jat
            have HF := kept hJ.2.2.2.1
            have HGN := kept hJ.2.2.2.2
            have CA := kept (ck_any S w.heap.size gj ⟨d, f, gn⟩ xA _ xc xb _ rfl (HT.out.next HI.out.1) hJ HAB.out w.heap.size HI.out.1.size (fun k hk => (HI.out.2.2.1 k hk).1) H4.out (HRD.out.next HI.out.1) (fun y hy hn hs => by have h1 := rd_lt HRD.out hy hn; have h2 := (HI.out.2.2.1 _ hs).1; omega) (by omega))
            have CRA : Kept (∀ W : World, Below w.heap.size w W → _) := ⟨fun W hb => rck_any ⟨d, f, gn⟩ xA _ xc xb W HOKD.out HF.out HGN.out rfl HAB.out (HRD.out.next hb) (by omega)⟩
            clear hJ
            generalize ckM ⟨d, f, gn⟩ xb = r5 at *
            obtain ⟨⟨d5, f5, g5⟩, e5⟩ := r5
            dsimp only at CA CRA
            simp only [jV_ex] at CRA
            go_wp2_with fail
            refine CA.out.mono ?_
            rintro en w5 ⟨rfl, S5, hJ5, hg5⟩
            have HI5 := kept (HI.out.turn hJ5 hg5)
            clear hJ5 hg5 CA
            have hk5 : Blk w5 G [.string (strB d.b0), .string (strB d.b1), .int .i64 (d.s0 : Int), .int .i64 (d.s1 : Int), .int .i64 (d.room : Int), .int .i64 d.fuse, .bool d.down, .int .i64 f, .int .u64 (gn : Int)] 57 := HI5.out.2.2.2.2.1
            have z1 : w5.cell? ⟨wr.heap.size, 1, none⟩ = some (.int .i64 xn) := HI5.out.cell rfl
            have z2 : w5.cell? ⟨wr.heap.size, 2, none⟩ = some (.bool xt) := HI5.out.cell rfl
            have z3 : w5.cell? ⟨wr.heap.size, 3, none⟩ = some (.slice xA xb.length xc) := HI5.out.cell rfl
            have hzl := HI5.out.2.2.2.2.2.1.lt
            go_wp2_with (refine wpl_loadB rfl _ _ rfl G rfl _ _ hk5 _ rfl rfl rfl ?_)
            refine (CRA.out _ HI5.out.1).mono ?_
            rintro en w6 ⟨rfl, hb6⟩
            have HI6 := kept (HI5.out.next hb6)
            have hk6 := HI6.out.2.2.2.2.1
            clear hb6 HI5 hk5 z1 z2 z3 hzl CRA
            go_wp2_with (refine wpl_storeB rfl _ _ _ rfl G (jL d5 f5 g5) rfl rfl _ _ hk6 rfl rfl rfl ?_; intro w7 hk7 hu7; have HI7 := kept (HI6.out.store hk7 hu7))
            go_meet
            exact ⟨_, _, _, _, _, _, _, rfl, rfl, rfl, rfl, HI7⟩
          | false =>
            go_wp2_with fail
            go_meet
            exact ⟨_, _, _, _, _, _, 0, rfl, rfl, rfl, rfl, HI⟩
        · as_aux_lemma =>
          have CO := kept (open_any S w.heap.size d _ HI.out.2.1 (HT.out.next HI.out.1) w.heap.size HI.out.1.size (fun k hk => (HI.out.2.2.1 k hk).1) H4.out)
          have HOK7 := kept HI.out.2.1.1
          unfold OpenG at CO
          have CRO := kept (fun W => ropen_any d W HOK7.out)
          unfold ROpenG at CRO
          simp only [jV_ex] at CRO
          generalize openM d = r8 at *
          generalize pick d = pk8 at *
          obtain ⟨⟨d8, f8, g8⟩, e8⟩ := r8
          dsimp only at CO CRO
          simp only [rV_ex] at CRO
          go_wp2_with fail
          refine CO.out.mono ?_
          rintro en w8 ⟨S8, hG8, hD8, ⟨rfl, gj8, A8, c8, X8, cX8, ps8, rfl, hgj8, hJ8, hbo8, hF8, hc8, hal8, -, hpl8⟩ | ⟨he, rfl⟩⟩
          · have HI8 := kept (HI.out.opened hJ8 hG8 hgj8)
            have HF8 := kept hF8
            have HX8 := kept (And.intro hbo8 (And.intro hal8 hpl8))
            clear hG8 hD8 hgj8 hJ8 hbo8 hF8 hal8 hpl8 CO
            have hp8 : Blk w8 G ([.string (strB d.b0), .string (strB d.b1), .int .i64 (d.s0 : Int), .int .i64 (d.s1 : Int), .int .i64 (d.room : Int), .int .i64 d.fuse, .bool d.down] ++ [.int .i64 f, .int .u64 (gn : Int)]) 57 := HI8.out.2.2.2.2.1
            go_wp2_with (refine wpl_loadP rfl _ _ rfl G rfl _ _ _ hp8 _ rfl rfl rfl ?_)
            refine (CRO.out _).mono ?_
            rintro en w9 ⟨hb9, ⟨-, A9, c9, X9, cX9, ps9, rfl, hbo9, hr9, hq9, hal9, hpl9⟩ | ⟨hne, -⟩⟩
            case inr => exact absurd rfl hne
            have HI9 := kept (HI8.out.next hb9)
            have HF9 := kept (HF8.out.next hb9)
            have HX9 := kept (And.intro hbo9 (And.intro hr9 (And.intro hq9 (And.intro hal9 hpl9))))
            have hk9 := HI9.out.2.2.2.2.1
            clear hb9 hbo9 hr9 hq9 hal9 hpl9 HI8 HF8 hp8 CRO
            go_wp2_with (refine wpl_storeB rfl _ _ _ rfl G (jL d8 f8 g8) rfl rfl _ _ hk9 rfl rfl rfl ?_; intro w10 hk10 hu10; have HI10 := kept (HI9.out.store hk10 hu10); have HU10 := kept hu10; clear hk10 hu10)
            have hbk9 := HI9.out.2.2.2.2.1
            have E1 := kept (jequal_any w10 _ _ A8 A9 _ _ c8 c9 _ _ rfl rfl HX8.out.2.1 HX9.out.2.2.2.1 (rd_store hbk9 HU10.out HF9.out.1 (bb_kind _)) (rd_store hbk9 HU10.out HX9.out.2.1 (bb_kind _)))
            have E2 := kept (rsame_any X8 X9 _ _ cX8 cX9 ps8 ps9 w10 rfl rfl (parts_store hbk9 HU10.out HF9.out.2.1) (parts_store hbk9 HU10.out HX9.out.2.2.1) (by have := HX8.out.2.2; omega) (by have := HX9.out.2.2.2.2; omega))
            rw [HX8.out.1, HX9.out.1, decide_eq_true (rfl : pk8.2.recs = pk8.2.recs)] at E2
            rw [decide_eq_true (rfl : pk8.2.snap = pk8.2.snap)] at E1
            clear hbk9 HX8 HX9 HF9 HU10 HI9 hk9
            refine E1.out.mono ?_
            rintro e w' ⟨rfl, rfl⟩
            clear E1
            go_wp2_with fail
            refine E2.out.mono ?_
            rintro e w' ⟨rfl, q, rfl⟩
            have HI11 := kept (HI10.out.drewN q)
            clear E2 HI10
            go_wp2_with fail
            go_meet
            exact ⟨_, _, _, _, _, _, 0, rfl, rfl, rfl, rfl, HI11⟩
          · have HI8 := kept (HI.out.shut hD8 hG8 0 0)
            have hne0 : ((e8 : Int) == 0) = false := by simpa using he
            clear hG8 hD8 CO
            have hp8 : Blk w8 G ([.string (strB d.b0), .string (strB d.b1), .int .i64 (d.s0 : Int), .int .i64 (d.s1 : Int), .int .i64 (d.room : Int), .int .i64 d.fuse, .bool d.down] ++ [.int .i64 f, .int .u64 (gn : Int)]) 57 := HI8.out.2.2.2.2.1
            go_wp2_with (refine wpl_loadP rfl _ _ rfl G rfl _ _ _ hp8 _ rfl rfl rfl ?_)
            refine (CRO.out _).mono ?_
            rintro en w9 ⟨hb9, ⟨h0, -⟩ | ⟨-, f9, g9, rfl⟩⟩
            case inl => exact absurd h0 he
            have HI9 := kept (HI8.out.next hb9)
            have hk9 := HI9.out.2.2.2.2.1
            clear hb9 HI8 hp8 CRO
            go_wp2_with (refine wpl_storeB rfl _ _ _ rfl G (jL d8 f9 g9) rfl rfl _ _ hk9 rfl rfl rfl ?_; intro w10 hk10 hu10; have HI10 := kept ((HI9.out.store hk10 hu10).shut (HI9.out.store hk10 hu10).2.1 (Goes.refl _ _) f9 g9); clear hk10 hu10)
            have hnilB : AllB [] := fun x hx => by cases hx
            have E1 := kept (jequal_any w10 0 0 none none 0 0 0 0 [] [] rfl rfl hnilB hnilB Rd.nil Rd.nil)
            have E2 := kept (rsame_any none none 0 0 0 0 [] [] w10 rfl rfl ⟨Rd.nil, fun p hp => by cases hp⟩ ⟨Rd.nil, fun p hp => by cases hp⟩ (Nat.zero_le _) (Nat.zero_le _))
            rw [decide_eq_true (rfl : ([] : List Nat) = [])] at E1
            rw [decide_eq_true (rfl : bodies [] = bodies [])] at E2
            clear HI9 hk9 hnilB
            refine E1.out.mono ?_
            rintro e w' ⟨rfl, rfl⟩
            clear E1
            go_wp2_with fail
            refine E2.out.mono ?_
            rintro e w' ⟨rfl, q, rfl⟩
            have HI11 := kept (HI10.out.drewN q)
            clear E2 HI10
            go_wp2_with fail
            go_meet
            exact ⟨_, _, _, _, _, _, e8, rfl, rfl, rfl, rfl, HI11⟩
        · as_aux_lemma =>
          have CA := kept (fuse_any S w.heap.size d xn _ HI.out.2.1 hn0)
          have CRA : Kept (∀ W : World, _) := ⟨fun W => jfuse_ds d xn W⟩
          generalize (d.fuseM xn) = d5 at *
          simp only [rV_ex] at CRA
          go_wp2_with fail
          refine CA.out.mono ?_
          rintro en w5 ⟨rfl, hd5, hu5⟩
          have HI5 := kept (HI.out.upd hd5 hu5)
          clear hd5 hu5 CA
          have hp5 : Blk w5 G ([.string (strB d.b0), .string (strB d.b1), .int .i64 (d.s0 : Int), .int .i64 (d.s1 : Int), .int .i64 (d.room : Int), .int .i64 d.fuse, .bool d.down] ++ [.int .i64 f, .int .u64 (gn : Int)]) 57 := HI5.out.2.2.2.2.1
          have z1 : w5.cell? ⟨wr.heap.size, 1, none⟩ = some (.int .i64 xn) := HI5.out.cell rfl
          have z2 : w5.cell? ⟨wr.heap.size, 2, none⟩ = some (.bool xt) := HI5.out.cell rfl
          have z3 : w5.cell? ⟨wr.heap.size, 3, none⟩ = some (.slice xA xb.length xc) := HI5.out.cell rfl
          have hzl := HI5.out.2.2.2.2.2.1.lt
          go_wp2_with (refine wpl_loadP rfl _ _ rfl G rfl _ _ _ hp5 _ rfl rfl rfl ?_)
          refine (CRA.out _).mono ?_
          rintro en w6 ⟨rfl, hb6⟩
          have HI6 := kept (HI5.out.next hb6)
          have hp6 : Blk w6 G (rL d ++ [.int .i64 f, .int .u64 (gn : Int)]) 57 := HI6.out.2.2.2.2.1
          clear hb6 HI5 hp5 z1 z2 z3 hzl CRA
          go_wp2_with (refine wpl_storeP rfl _ _ _ rfl G (rL d5) rfl rfl _ (rL d) [.int .i64 f, .int .u64 (gn : Int)] hp6 rfl rfl rfl ?_; intro w7 hk7 hu7; have HI7 := kept (HI6.out.store (d2 := d5) (f2 := f) (gn2 := gn) hk7 hu7); clear hp6 hk7 hu7)
          go_meet
          exact ⟨_, _, _, _, _, _, _, rfl, rfl, rfl, rfl, HI7⟩
        · as_aux_lemma =>
          have CA := kept (crash_any S w.heap.size d xn xt _ HI.out.2.1)
          have CRA : Kept (∀ W : World, _) := ⟨fun W => rcrash_any d xn xt W HOKD.out hn0⟩
          generalize (d.crashM xn xt) = d5 at *
          simp only [rV_ex] at CRA
          go_wp2_with fail
          refine CA.out.mono ?_
          rintro en w5 ⟨rfl, S5, hd5, hg5⟩
          have HI5 := kept (HI.out.goes hd5 hg5)
          clear hd5 hg5 CA
          have hp5 : Blk w5 G ([.string (strB d.b0), .string (strB d.b1), .int .i64 (d.s0 : Int), .int .i64 (d.s1 : Int), .int .i64 (d.room : Int), .int .i64 d.fuse, .bool d.down] ++ [.int .i64 f, .int .u64 (gn : Int)]) 57 := HI5.out.2.2.2.2.1
          have z1 : w5.cell? ⟨wr.heap.size, 1, none⟩ = some (.int .i64 xn) := HI5.out.cell rfl
          have z2 : w5.cell? ⟨wr.heap.size, 2, none⟩ = some (.bool xt) := HI5.out.cell rfl
          have z3 : w5.cell? ⟨wr.heap.size, 3, none⟩ = some (.slice xA xb.length xc) := HI5.out.cell rfl
          have hzl := HI5.out.2.2.2.2.2.1.lt
          go_wp2_with (refine wpl_loadP rfl _ _ rfl G rfl _ _ _ hp5 _ rfl rfl rfl ?_)
          refine (CRA.out _).mono ?_
          rintro en w6 ⟨rfl, hb6⟩
          have HI6 := kept (HI5.out.next hb6)
          have hp6 : Blk w6 G (rL d ++ [.int .i64 f, .int .u64 (gn : Int)]) 57 := HI6.out.2.2.2.2.1
          clear hb6 HI5 hp5 z1 z2 z3 hzl CRA
          have HP6 := kept hp6
          go_wp2_with (refine wpl_storeP rfl _ _ _ rfl G (rL d5) rfl rfl _ (rL d) [.int .i64 f, .int .u64 (gn : Int)] HP6.out rfl rfl rfl ?_; intro w7 hk7 hu7; have HI7 := kept (HI6.out.store (d2 := d5) (f2 := f) (gn2 := gn) hk7 hu7); clear hk7 hu7)
          clear HI6
          obtain ⟨S7, hS7⟩ : ∃ S7, S7 = S5 := ⟨_, rfl⟩
          subst hS7
          have CO := kept (open_any S7 w.heap.size d5 _ HI7.out.2.1 (HT.out.next HI7.out.1) w.heap.size HI7.out.1.size (fun k hk => (HI7.out.2.2.1 k hk).1) H4.out)
          have HOK7 := kept HI7.out.2.1.1
          unfold OpenG at CO
          have CRO := kept (fun W => ropen_any d5 W HOK7.out)
          unfold ROpenG at CRO
          simp only [jV_ex] at CRO
          generalize openM d5 = r8 at *
          generalize pick d5 = pk8 at *
          obtain ⟨⟨d8, f8, g8⟩, e8⟩ := r8
          dsimp only at CO CRO
          simp only [rV_ex] at CRO
          skip
          refine CO.out.mono ?_
          rintro en w8 ⟨S8, hG8, hD8, ⟨rfl, gj8, A8, c8, X8, cX8, ps8, rfl, hgj8, hJ8, hbo8, hF8, hc8, hal8, -, hpl8⟩ | ⟨he, rfl⟩⟩
          · have HI8 := kept (HI7.out.opened hJ8 hG8 hgj8)
            have HF8 := kept hF8
            have HX8 := kept (And.intro hbo8 (And.intro hal8 hpl8))
            clear hG8 hD8 hgj8 hJ8 hbo8 hF8 hal8 hpl8 CO
            have hp8 : Blk w8 G ([.string (strB d5.b0), .string (strB d5.b1), .int .i64 (d5.s0 : Int), .int .i64 (d5.s1 : Int), .int .i64 (d5.room : Int), .int .i64 d5.fuse, .bool d5.down] ++ [.int .i64 f, .int .u64 (gn : Int)]) 57 := HI8.out.2.2.2.2.1
            go_wp2_with (refine wpl_loadP rfl _ _ rfl G rfl _ _ _ hp8 _ rfl rfl rfl ?_)
            refine (CRO.out _).mono ?_
            rintro en w9 ⟨hb9, ⟨-, A9, c9, X9, cX9, ps9, rfl, hbo9, hr9, hq9, hal9, hpl9⟩ | ⟨hne, -⟩⟩
            case inr => exact absurd rfl hne
            have HI9 := kept (HI8.out.next hb9)
            have HF9 := kept (HF8.out.next hb9)
            have HX9 := kept (And.intro hbo9 (And.intro hr9 (And.intro hq9 (And.intro hal9 hpl9))))
            have hk9 := HI9.out.2.2.2.2.1
            clear hb9 hbo9 hr9 hq9 hal9 hpl9 HI8 HF8 hp8 CRO
            go_wp2_with (refine wpl_storeB rfl _ _ _ rfl G (jL d8 f8 g8) rfl rfl _ _ hk9 rfl rfl rfl ?_; intro w10 hk10 hu10; have HI10 := kept (HI9.out.store hk10 hu10); have HU10 := kept hu10; clear hk10 hu10)
            have hbk9 := HI9.out.2.2.2.2.1
            have E1 := kept (jequal_any w10 _ _ A8 A9 _ _ c8 c9 _ _ rfl rfl HX8.out.2.1 HX9.out.2.2.2.1 (rd_store hbk9 HU10.out HF9.out.1 (bb_kind _)) (rd_store hbk9 HU10.out HX9.out.2.1 (bb_kind _)))
            have E2 := kept (rsame_any X8 X9 _ _ cX8 cX9 ps8 ps9 w10 rfl rfl (parts_store hbk9 HU10.out HF9.out.2.1) (parts_store hbk9 HU10.out HX9.out.2.2.1) (by have := HX8.out.2.2; omega) (by have := HX9.out.2.2.2.2; omega))
            rw [HX8.out.1, HX9.out.1, decide_eq_true (rfl : pk8.2.recs = pk8.2.recs)] at E2
            rw [decide_eq_true (rfl : pk8.2.snap = pk8.2.snap)] at E1
            clear hbk9 HX8 HX9 HF9 HU10 HI9 hk9
            refine E1.out.mono ?_
            rintro e w' ⟨rfl, rfl⟩
            clear E1
            go_wp2_with fail
            refine E2.out.mono ?_
            rintro e w' ⟨rfl, q, rfl⟩
            have HI11 := kept (HI10.out.drewN q)
            clear E2 HI10
            go_wp2_with fail
            go_meet
            exact ⟨_, _, _, _, _, _, 0, rfl, rfl, rfl, rfl, HI11⟩
          · have HI8 := kept (HI7.out.shut hD8 hG8 0 0)
            have hne0 : ((e8 : Int) == 0) = false := by simpa using he
            clear hG8 hD8 CO
            have hp8 : Blk w8 G ([.string (strB d5.b0), .string (strB d5.b1), .int .i64 (d5.s0 : Int), .int .i64 (d5.s1 : Int), .int .i64 (d5.room : Int), .int .i64 d5.fuse, .bool d5.down] ++ [.int .i64 f, .int .u64 (gn : Int)]) 57 := HI8.out.2.2.2.2.1
            go_wp2_with (refine wpl_loadP rfl _ _ rfl G rfl _ _ _ hp8 _ rfl rfl rfl ?_)
            refine (CRO.out _).mono ?_
            rintro en w9 ⟨hb9, ⟨h0, -⟩ | ⟨-, f9, g9, rfl⟩⟩
            case inl => exact absurd h0 he
            have HI9 := kept (HI8.out.next hb9)
            have hk9 := HI9.out.2.2.2.2.1
            clear hb9 HI8 hp8 CRO
            go_wp2_with (refine wpl_storeB rfl _ _ _ rfl G (jL d8 f9 g9) rfl rfl _ _ hk9 rfl rfl rfl ?_; intro w10 hk10 hu10; have HI10 := kept ((HI9.out.store hk10 hu10).shut (HI9.out.store hk10 hu10).2.1 (Goes.refl _ _) f9 g9); clear hk10 hu10)
            have hnilB : AllB [] := fun x hx => by cases hx
            have E1 := kept (jequal_any w10 0 0 none none 0 0 0 0 [] [] rfl rfl hnilB hnilB Rd.nil Rd.nil)
            have E2 := kept (rsame_any none none 0 0 0 0 [] [] w10 rfl rfl ⟨Rd.nil, fun p hp => by cases hp⟩ ⟨Rd.nil, fun p hp => by cases hp⟩ (Nat.zero_le _) (Nat.zero_le _))
            rw [decide_eq_true (rfl : ([] : List Nat) = [])] at E1
            rw [decide_eq_true (rfl : bodies [] = bodies [])] at E2
            clear HI9 hk9 hnilB
            refine E1.out.mono ?_
            rintro e w' ⟨rfl, rfl⟩
            clear E1
            go_wp2_with fail
            refine E2.out.mono ?_
            rintro e w' ⟨rfl, q, rfl⟩
            have HI11 := kept (HI10.out.drewN q)
            clear E2 HI10
            go_wp2_with fail
            go_meet
            exact ⟨_, _, _, _, _, _, e8, rfl, rfl, rfl, rfl, HI11⟩
        · as_aux_lemma =>
          have CA := kept (room_any S w.heap.size d xn _ HI.out.2.1)
          have CRA : Kept (∀ W : World, _) := ⟨fun W => jroom_ds d xn W⟩
          generalize (d.roomM xn) = d5 at *
          simp only [rV_ex] at CRA
          go_wp2_with fail
          refine CA.out.mono ?_
          rintro en w5 ⟨rfl, hd5, hu5⟩
          have HI5 := kept (HI.out.upd hd5 hu5)
          clear hd5 hu5 CA
          have hp5 : Blk w5 G ([.string (strB d.b0), .string (strB d.b1), .int .i64 (d.s0 : Int), .int .i64 (d.s1 : Int), .int .i64 (d.room : Int), .int .i64 d.fuse, .bool d.down] ++ [.int .i64 f, .int .u64 (gn : Int)]) 57 := HI5.out.2.2.2.2.1
          have z1 : w5.cell? ⟨wr.heap.size, 1, none⟩ = some (.int .i64 xn) := HI5.out.cell rfl
          have z2 : w5.cell? ⟨wr.heap.size, 2, none⟩ = some (.bool xt) := HI5.out.cell rfl
          have z3 : w5.cell? ⟨wr.heap.size, 3, none⟩ = some (.slice xA xb.length xc) := HI5.out.cell rfl
          have hzl := HI5.out.2.2.2.2.2.1.lt
          go_wp2_with (refine wpl_loadP rfl _ _ rfl G rfl _ _ _ hp5 _ rfl rfl rfl ?_)
          refine (CRA.out _).mono ?_
          rintro en w6 ⟨rfl, hb6⟩
          have HI6 := kept (HI5.out.next hb6)
          have hp6 : Blk w6 G (rL d ++ [.int .i64 f, .int .u64 (gn : Int)]) 57 := HI6.out.2.2.2.2.1
          clear hb6 HI5 hp5 z1 z2 z3 hzl CRA
          go_wp2_with (refine wpl_storeP rfl _ _ _ rfl G (rL d5) rfl rfl _ (rL d) [.int .i64 f, .int .u64 (gn : Int)] hp6 rfl rfl rfl ?_; intro w7 hk7 hu7; have HI7 := kept (HI6.out.store (d2 := d5) (f2 := f) (gn2 := gn) hk7 hu7); clear hp6 hk7 hu7)
          go_meet
          exact ⟨_, _, _, _, _, _, _, rfl, rfl, rfl, rfl, HI7⟩
        · as_aux_lemma =>
          have q2 : ¬ (xk : Int) ≤ 2 := by omega
          have q3 : ((xk : Int) == 3) = false := by simp; omega
          have q4 : ((xk : Int) == 4) = false := by simp; omega
          have q5 : ((xk : Int) == 5) = false := by simp; omega
          have q6 : ((xk : Int) == 6) = false := by simp; omega
          have q7 : ((xk : Int) == 7) = false := by simp; omega
          go_wp2_with fail
          go_meet
          exact ⟨_, _, _, _, _, _, 0, rfl, rfl, rfl, rfl, HI⟩
      case rest =>
        obtain ⟨S', u', jp', d', f', gn', r, rfl, rfl, rfl, rfl, HI⟩ := hcut
        obtain ⟨w6, rfl⟩ : ∃ w6 : World, w6 = wc := ⟨_, rfl⟩
        have HI6 := kept (HI.out.next ((Below.refl w6.heap.size w6).drew))
        have hk5 : Blk w6.drew G ([.string (strB d'.b0), .string (strB d'.b1), .int .i64 (d'.s0 : Int), .int .i64 (d'.s1 : Int), .int .i64 (d'.room : Int), .int .i64 d'.fuse, .bool d'.down] ++ [.int .i64 f', .int .u64 (gn' : Int)]) 57 := HI6.out.2.2.2.2.1
        obtain ⟨y0, y1, y2, y3, y4, y5, y6, y8⟩ : w6.cell? ⟨G, 0, none⟩ = some (.string (strB d'.b0)) ∧ w6.cell? ⟨G, 1, none⟩ = some (.string (strB d'.b1)) ∧ w6.cell? ⟨G, 2, none⟩ = some (.int .i64 (d'.s0 : Int)) ∧ w6.cell? ⟨G, 3, none⟩ = some (.int .i64 (d'.s1 : Int)) ∧ w6.cell? ⟨G, 4, none⟩ = some (.int .i64 (d'.room : Int)) ∧ w6.cell? ⟨G, 5, none⟩ = some (.int .i64 d'.fuse) ∧ w6.cell? ⟨G, 6, none⟩ = some (.bool d'.down) ∧ w6.cell? ⟨G, 8, none⟩ = some (.int .u64 (gn' : Int)) :=
          ⟨hk5.cell (j := 0) rfl, hk5.cell (j := 1) rfl, hk5.cell (j := 2) rfl, hk5.cell (j := 3) rfl, hk5.cell (j := 4) rfl, hk5.cell (j := 5) rfl, hk5.cell (j := 6) rfl, hk5.cell (j := 8) rfl⟩
        clear hk5
        have CI : Kept (∀ W, Dsk W S' w.heap.size d' → _) := ⟨fun W h => is_ref S' w.heap.size d' W h⟩
        simp only [rV_ex] at CI
        clear HI
        go_upto_region 37 with fail
        go_cut [206] (fun p wx => p = .bool false ∧ Kept (JPSt w wx S' w.heap.size G u' jp' d' f' gn'))
        case first =>
          as_aux_lemma =>
          cases u' with
          | true =>
            obtain ⟨gj, rfl, hJ⟩ := HI6.out.jat
            have CG := kept (fun (W : World) (hb : Below w6.drew.heap.size w6.drew W) => gen_any S' w.heap.size gj ⟨d', f', gn'⟩ W (hJ.next hb))
            have HZ : Kept (∀ W, Below w6.drew.heap.size w6.drew W → W.cell? ⟨G, 8, none⟩ = some (.int .u64 (gn' : Int))) := ⟨fun W hb => (HI6.out.next hb).2.2.2.2.1.cell (j := 8) rfl⟩
            clear hJ
            refine wp_region_any (by kernel_rfl) ?_
            change wpAny _ _ _ _ _ _ _ (World.drew _)
            refine wpAny_take (i := 0) (v := ?_) rfl (by kernel_rfl) (by kernel_rfl) (by kernel_rfl) (fun _ _ _ h => h) (Or.inl ⟨by rfl, ?_⟩) ?_
            case refine_2 => (intro w; go_simp; try with_reducible rfl)
            try simp only [Act.put, List.setIfInBounds_toArray, List.set_cons_zero, List.set_cons_succ, List.getElem_toArray, List.getElem_cons_zero, List.getElem_cons_succ]
            refine wpAny_take (i := 1) (v := ?_) rfl (by kernel_rfl) (by kernel_rfl) (by kernel_rfl) (fun _ _ _ h => h) (Or.inl ⟨by rfl, ?_⟩) ?_
            case refine_2 => (intro w; go_simp; try with_reducible rfl)
            try simp only [Act.put, List.setIfInBounds_toArray, List.set_cons_zero, List.set_cons_succ, List.getElem_toArray, List.getElem_cons_zero, List.getElem_cons_succ]
            refine wpAny_take (i := 2) (v := ?_) rfl (by kernel_rfl) (by kernel_rfl) (by kernel_rfl) (fun _ _ _ h => h) (Or.inl ⟨by rfl, ?_⟩) ?_
            case refine_2 => (intro w; go_simp; try with_reducible rfl)
            try simp only [Act.put, List.setIfInBounds_toArray, List.set_cons_zero, List.set_cons_succ, List.getElem_toArray, List.getElem_cons_zero, List.getElem_cons_succ]
            refine wpAny_take (i := 3) (v := ?_) rfl (by kernel_rfl) (by kernel_rfl) (by kernel_rfl) (fun _ _ _ h => h) (Or.inl ⟨by rfl, ?_⟩) ?_
            case refine_2 => (intro w; go_simp; try with_reducible rfl)
            try simp only [Act.put, List.setIfInBounds_toArray, List.set_cons_zero, List.set_cons_succ, List.getElem_toArray, List.getElem_cons_zero, List.getElem_cons_succ]
            refine wpAny_take (i := 4) (v := ?_) rfl (by kernel_rfl) (by kernel_rfl) (by kernel_rfl) (fun _ _ _ h => h) (Or.inl ⟨by rfl, ?_⟩) ?_
            case refine_2 => (intro w; go_simp; try with_reducible rfl)
            try simp only [Act.put, List.setIfInBounds_toArray, List.set_cons_zero, List.set_cons_succ, List.getElem_toArray, List.getElem_cons_zero, List.getElem_cons_succ]
            refine wpAny_take (i := 5) (v := ?_) rfl (by kernel_rfl) (by kernel_rfl) (by kernel_rfl) (fun _ _ _ h => h) (Or.inl ⟨by rfl, ?_⟩) ?_
            case refine_2 => (intro w; go_simp; try with_reducible rfl)
            try simp only [Act.put, List.setIfInBounds_toArray, List.set_cons_zero, List.set_cons_succ, List.getElem_toArray, List.getElem_cons_zero, List.getElem_cons_succ]
            refine wpAny_ready (rs := [6]) (by kernel_rfl) (by simp) ?_
            refine AllReady.cons rfl (fun K hK => ?_) AllReady.nil
            go_simp
            go_wp2_with fail
            try simp only [Act.put, List.setIfInBounds_toArray, List.set_cons_zero, List.set_cons_succ, List.getElem_toArray, List.getElem_cons_zero, List.getElem_cons_succ]
            refine wpAny_ready (rs := [7]) (by kernel_rfl) (by simp) ?_
            refine AllReady.cons rfl (fun K hK => ?_) AllReady.nil
            go_simp
            go_wp2_with (go_at_call 30; refine (CI.out _ HI6.out.2.1).mono ?_; rintro en w8 ⟨rfl, hb8⟩; have HI8 := kept (HI6.out.next hb8).back; have CG8 := kept (CG.out _ hb8); have z8 := HZ.out _ hb8; clear hb8)
            try simp only [Act.put, List.setIfInBounds_toArray, List.set_cons_zero, List.set_cons_succ, List.getElem_toArray, List.getElem_cons_zero, List.getElem_cons_succ]
            refine wpAny_take (i := 8) (v := ?_) rfl (by kernel_rfl) (by kernel_rfl) (by kernel_rfl) (fun _ _ _ h => h) (Or.inl ⟨by rfl, ?_⟩) ?_
            case refine_2 => (intro w; go_simp; try with_reducible rfl)
            try simp only [Act.put, List.setIfInBounds_toArray, List.set_cons_zero, List.set_cons_succ, List.getElem_toArray, List.getElem_cons_zero, List.getElem_cons_succ]
            refine wpAny_take (i := 9) (v := ?_) rfl (by kernel_rfl) (by kernel_rfl) (by kernel_rfl) (fun _ _ _ h => h) (Or.inl ⟨by rfl, ?_⟩) ?_
            case refine_2 => (intro w; go_simp; try with_reducible rfl)
            try simp only [Act.put, List.setIfInBounds_toArray, List.set_cons_zero, List.set_cons_succ, List.getElem_toArray, List.getElem_cons_zero, List.getElem_cons_succ]
            refine wpAny_take (i := 10) (v := ?_) rfl (by kernel_rfl) (by kernel_rfl) (by kernel_rfl) (fun _ _ _ h => h) (Or.inl ⟨by rfl, ?_⟩) ?_
            case refine_2 => (intro w; go_simp; try with_reducible rfl)
            try simp only [Act.put, List.setIfInBounds_toArray, List.set_cons_zero, List.set_cons_succ, List.getElem_toArray, List.getElem_cons_zero, List.getElem_cons_succ]
            refine wpAny_take (i := 11) (v := ?_) rfl (by kernel_rfl) (by kernel_rfl) (by kernel_rfl) (fun _ _ _ h => h) (Or.inl ⟨by rfl, ?_⟩) ?_
            case refine_2 => (intro w; go_simp; try with_reducible rfl)
            try simp only [Act.put, List.setIfInBounds_toArray, List.set_cons_zero, List.set_cons_succ, List.getElem_toArray, List.getElem_cons_zero, List.getElem_cons_succ]
            refine wpAny_take (i := 12) (v := ?_) rfl (by kernel_rfl) (by kernel_rfl) (by kernel_rfl) (fun _ _ _ h => h) (Or.inl ⟨by rfl, ?_⟩) ?_
            case refine_2 => (intro w; go_simp; try with_reducible rfl)
            try simp only [Act.put, List.setIfInBounds_toArray, List.set_cons_zero, List.set_cons_succ, List.getElem_toArray, List.getElem_cons_zero, List.getElem_cons_succ]
            refine wpAny_take (i := 13) (v := ?_) rfl (by kernel_rfl) (by kernel_rfl) (by kernel_rfl) (fun _ _ _ h => h) (Or.inl ⟨by rfl, ?_⟩) ?_
            case refine_2 => (intro w; go_simp; try with_reducible rfl)
            try simp only [Act.put, List.setIfInBounds_toArray, List.set_cons_zero, List.set_cons_succ, List.getElem_toArray, List.getElem_cons_zero, List.getElem_cons_succ]
            refine wpAny_take (i := 15) (v := ?_) rfl (by kernel_rfl) (by kernel_rfl) (by kernel_rfl) (fun _ _ _ h => h) (Or.inl ⟨by rfl, ?_⟩) ?_
            case refine_2 => (intro w; go_simp; try with_reducible rfl)
            try simp only [Act.put, List.setIfInBounds_toArray, List.set_cons_zero, List.set_cons_succ, List.getElem_toArray, List.getElem_cons_zero, List.getElem_cons_succ]
            refine wpAny_ready (rs := [14, 16]) (by kernel_rfl) (by simp) ?_
            refine AllReady.cons rfl (fun K hK => ?_) (AllReady.cons rfl (fun K hK => ?_) AllReady.nil)
            · go_simp
              go_wp2_with (go_at_call 13; refine CG8.out.mono ?_; rintro en w9 ⟨rfl, rfl⟩)
              try simp only [Act.put, List.setIfInBounds_toArray, List.set_cons_zero, List.set_cons_succ, List.getElem_toArray, List.getElem_cons_zero, List.getElem_cons_succ]
              refine wpAny_ready (rs := [16]) (by kernel_rfl) (by simp) ?_
              refine AllReady.cons rfl (fun K hK => ?_) AllReady.nil
              go_simp
              go_wp2_with fail
              try simp only [Act.put, List.setIfInBounds_toArray, List.set_cons_zero, List.set_cons_succ, List.getElem_toArray, List.getElem_cons_zero, List.getElem_cons_succ]
              refine wpAny_take (i := 17) (v := ?_) rfl (by kernel_rfl) (by kernel_rfl) (by kernel_rfl) (fun _ _ _ h => h) (Or.inl ⟨by rfl, ?_⟩) ?_
              case refine_2 => (intro w; go_simp; try with_reducible rfl)
              try simp only [Act.put, List.setIfInBounds_toArray, List.set_cons_zero, List.set_cons_succ, List.getElem_toArray, List.getElem_cons_zero, List.getElem_cons_succ]
              refine wpAny_take (i := 18) (v := ?_) rfl (by kernel_rfl) (by kernel_rfl) (by kernel_rfl) (fun _ _ _ h => h) (Or.inl ⟨by rfl, ?_⟩) ?_
              case refine_2 => (intro w; go_simp; try with_reducible rfl)
              try simp only [Act.put, List.setIfInBounds_toArray, List.set_cons_zero, List.set_cons_succ, List.getElem_toArray, List.getElem_cons_zero, List.getElem_cons_succ]
              refine wpAny_take (i := 19) (v := ?_) rfl (by kernel_rfl) (by kernel_rfl) (by kernel_rfl) (fun _ _ _ h => h) (Or.inl ⟨by rfl, ?_⟩) ?_
              case refine_2 => (intro w; go_simp; try with_reducible rfl)
              try simp only [Act.put, List.setIfInBounds_toArray, List.set_cons_zero, List.set_cons_succ, List.getElem_toArray, List.getElem_cons_zero, List.getElem_cons_succ]
              refine wpAny_done (by kernel_rfl) ?_ _
              go_wp2_with fail
              go_meet
              exact ⟨rfl, HI8⟩
            · go_simp
              go_wp2_with fail
              try simp only [Act.put, List.setIfInBounds_toArray, List.set_cons_zero, List.set_cons_succ, List.getElem_toArray, List.getElem_cons_zero, List.getElem_cons_succ]
              refine wpAny_ready (rs := [14]) (by kernel_rfl) (by simp) ?_
              refine AllReady.cons rfl (fun K hK => ?_) AllReady.nil
              go_simp
              go_wp2_with (go_at_call 13; refine CG8.out.mono ?_; rintro en w9 ⟨rfl, rfl⟩)
              try simp only [Act.put, List.setIfInBounds_toArray, List.set_cons_zero, List.set_cons_succ, List.getElem_toArray, List.getElem_cons_zero, List.getElem_cons_succ]
              refine wpAny_take (i := 17) (v := ?_) rfl (by kernel_rfl) (by kernel_rfl) (by kernel_rfl) (fun _ _ _ h => h) (Or.inl ⟨by rfl, ?_⟩) ?_
              case refine_2 => (intro w; go_simp; try with_reducible rfl)
              try simp only [Act.put, List.setIfInBounds_toArray, List.set_cons_zero, List.set_cons_succ, List.getElem_toArray, List.getElem_cons_zero, List.getElem_cons_succ]
              refine wpAny_take (i := 18) (v := ?_) rfl (by kernel_rfl) (by kernel_rfl) (by kernel_rfl) (fun _ _ _ h => h) (Or.inl ⟨by rfl, ?_⟩) ?_
              case refine_2 => (intro w; go_simp; try with_reducible rfl)
              try simp only [Act.put, List.setIfInBounds_toArray, List.set_cons_zero, List.set_cons_succ, List.getElem_toArray, List.getElem_cons_zero, List.getElem_cons_succ]
              refine wpAny_take (i := 19) (v := ?_) rfl (by kernel_rfl) (by kernel_rfl) (by kernel_rfl) (fun _ _ _ h => h) (Or.inl ⟨by rfl, ?_⟩) ?_
              case refine_2 => (intro w; go_simp; try with_reducible rfl)
              try simp only [Act.put, List.setIfInBounds_toArray, List.set_cons_zero, List.set_cons_succ, List.getElem_toArray, List.getElem_cons_zero, List.getElem_cons_succ]
              refine wpAny_done (by kernel_rfl) ?_ _
              go_wp2_with fail
              go_meet
              exact ⟨rfl, HI8⟩
          | false =>
            obtain rfl := HI6.out.shutp
            refine wp_region_any (by kernel_rfl) ?_
            change wpAny _ _ _ _ _ _ _ (World.drew _)
            refine wpAny_take (i := 0) (v := ?_) rfl (by kernel_rfl) (by kernel_rfl) (by kernel_rfl) (fun _ _ _ h => h) (Or.inl ⟨by rfl, ?_⟩) ?_
            case refine_2 => (intro w; go_simp; try with_reducible rfl)
            try simp only [Act.put, List.setIfInBounds_toArray, List.set_cons_zero, List.set_cons_succ, List.getElem_toArray, List.getElem_cons_zero, List.getElem_cons_succ]
            refine wpAny_take (i := 1) (v := ?_) rfl (by kernel_rfl) (by kernel_rfl) (by kernel_rfl) (fun _ _ _ h => h) (Or.inl ⟨by rfl, ?_⟩) ?_
            case refine_2 => (intro w; go_simp; try with_reducible rfl)
            try simp only [Act.put, List.setIfInBounds_toArray, List.set_cons_zero, List.set_cons_succ, List.getElem_toArray, List.getElem_cons_zero, List.getElem_cons_succ]
            refine wpAny_take (i := 2) (v := ?_) rfl (by kernel_rfl) (by kernel_rfl) (by kernel_rfl) (fun _ _ _ h => h) (Or.inl ⟨by rfl, ?_⟩) ?_
            case refine_2 => (intro w; go_simp; try with_reducible rfl)
            try simp only [Act.put, List.setIfInBounds_toArray, List.set_cons_zero, List.set_cons_succ, List.getElem_toArray, List.getElem_cons_zero, List.getElem_cons_succ]
            refine wpAny_take (i := 3) (v := ?_) rfl (by kernel_rfl) (by kernel_rfl) (by kernel_rfl) (fun _ _ _ h => h) (Or.inl ⟨by rfl, ?_⟩) ?_
            case refine_2 => (intro w; go_simp; try with_reducible rfl)
            try simp only [Act.put, List.setIfInBounds_toArray, List.set_cons_zero, List.set_cons_succ, List.getElem_toArray, List.getElem_cons_zero, List.getElem_cons_succ]
            refine wpAny_take (i := 4) (v := ?_) rfl (by kernel_rfl) (by kernel_rfl) (by kernel_rfl) (fun _ _ _ h => h) (Or.inl ⟨by rfl, ?_⟩) ?_
            case refine_2 => (intro w; go_simp; try with_reducible rfl)
            try simp only [Act.put, List.setIfInBounds_toArray, List.set_cons_zero, List.set_cons_succ, List.getElem_toArray, List.getElem_cons_zero, List.getElem_cons_succ]
            refine wpAny_take (i := 5) (v := ?_) rfl (by kernel_rfl) (by kernel_rfl) (by kernel_rfl) (fun _ _ _ h => h) (Or.inl ⟨by rfl, ?_⟩) ?_
            case refine_2 => (intro w; go_simp; try with_reducible rfl)
            try simp only [Act.put, List.setIfInBounds_toArray, List.set_cons_zero, List.set_cons_succ, List.getElem_toArray, List.getElem_cons_zero, List.getElem_cons_succ]
            refine wpAny_ready (rs := [6]) (by kernel_rfl) (by simp) ?_
            refine AllReady.cons rfl (fun K hK => ?_) AllReady.nil
            go_simp
            go_wp2_with fail
            try simp only [Act.put, List.setIfInBounds_toArray, List.set_cons_zero, List.set_cons_succ, List.getElem_toArray, List.getElem_cons_zero, List.getElem_cons_succ]
            refine wpAny_ready (rs := [7]) (by kernel_rfl) (by simp) ?_
            refine AllReady.cons rfl (fun K hK => ?_) AllReady.nil
            go_simp
            go_wp2_with (go_at_call 30; refine (CI.out _ HI6.out.2.1).mono ?_; rintro en w8 ⟨rfl, hb8⟩; have HI8 := kept (HI6.out.next hb8).back; clear hb8)
            try simp only [Act.put, List.setIfInBounds_toArray, List.set_cons_zero, List.set_cons_succ, List.getElem_toArray, List.getElem_cons_zero, List.getElem_cons_succ]
            refine wpAny_take (i := 8) (v := ?_) rfl (by kernel_rfl) (by kernel_rfl) (by kernel_rfl) (fun _ _ _ h => h) (Or.inl ⟨by rfl, ?_⟩) ?_
            case refine_2 => (intro w; go_simp; try with_reducible rfl)
            try simp only [Act.put, List.setIfInBounds_toArray, List.set_cons_zero, List.set_cons_succ, List.getElem_toArray, List.getElem_cons_zero, List.getElem_cons_succ]
            refine wpAny_take (i := 9) (v := ?_) rfl (by kernel_rfl) (by kernel_rfl) (by kernel_rfl) (fun _ _ _ h => h) (Or.inl ⟨by rfl, ?_⟩) ?_
            case refine_2 => (intro w; go_simp; try with_reducible rfl)
            try simp only [Act.put, List.setIfInBounds_toArray, List.set_cons_zero, List.set_cons_succ, List.getElem_toArray, List.getElem_cons_zero, List.getElem_cons_succ]
            refine wpAny_take (i := 10) (v := ?_) rfl (by kernel_rfl) (by kernel_rfl) (by kernel_rfl) (fun _ _ _ h => h) (Or.inl ⟨by rfl, ?_⟩) ?_
            case refine_2 => (intro w; go_simp; try with_reducible rfl)
            try simp only [Act.put, List.setIfInBounds_toArray, List.set_cons_zero, List.set_cons_succ, List.getElem_toArray, List.getElem_cons_zero, List.getElem_cons_succ]
            refine wpAny_take (i := 11) (v := ?_) rfl (by kernel_rfl) (by kernel_rfl) (by kernel_rfl) (fun _ _ _ h => h) (Or.inl ⟨by rfl, ?_⟩) ?_
            case refine_2 => (intro w; go_simp; try with_reducible rfl)
            try simp only [Act.put, List.setIfInBounds_toArray, List.set_cons_zero, List.set_cons_succ, List.getElem_toArray, List.getElem_cons_zero, List.getElem_cons_succ]
            refine wpAny_take (i := 12) (v := ?_) rfl (by kernel_rfl) (by kernel_rfl) (by kernel_rfl) (fun _ _ _ h => h) (Or.inl ⟨by rfl, ?_⟩) ?_
            case refine_2 => (intro w; go_simp; try with_reducible rfl)
            try simp only [Act.put, List.setIfInBounds_toArray, List.set_cons_zero, List.set_cons_succ, List.getElem_toArray, List.getElem_cons_zero, List.getElem_cons_succ]
            refine wpAny_take (i := 13) (v := undef) rfl (by kernel_rfl) (by kernel_rfl) (by kernel_rfl) (fun _ _ _ h => h) (Or.inr ⟨by rfl, rfl⟩) ?_
            try simp only [Act.put, List.setIfInBounds_toArray, List.set_cons_zero, List.set_cons_succ, List.getElem_toArray, List.getElem_cons_zero, List.getElem_cons_succ]
            refine wpAny_take (i := 14) (v := undef) rfl (by kernel_rfl) (by kernel_rfl) (by kernel_rfl) (fun _ _ _ h => h) (Or.inr ⟨by rfl, rfl⟩) ?_
            try simp only [Act.put, List.setIfInBounds_toArray, List.set_cons_zero, List.set_cons_succ, List.getElem_toArray, List.getElem_cons_zero, List.getElem_cons_succ]
            refine wpAny_take (i := 15) (v := undef) rfl (by kernel_rfl) (by kernel_rfl) (by kernel_rfl) (fun _ _ _ h => h) (Or.inr ⟨by rfl, rfl⟩) ?_
            try simp only [Act.put, List.setIfInBounds_toArray, List.set_cons_zero, List.set_cons_succ, List.getElem_toArray, List.getElem_cons_zero, List.getElem_cons_succ]
            refine wpAny_take (i := 16) (v := undef) rfl (by kernel_rfl) (by kernel_rfl) (by kernel_rfl) (fun _ _ _ h => h) (Or.inr ⟨by rfl, rfl⟩) ?_
            try simp only [Act.put, List.setIfInBounds_toArray, List.set_cons_zero, List.set_cons_succ, List.getElem_toArray, List.getElem_cons_zero, List.getElem_cons_succ]
            refine wpAny_take (i := 17) (v := undef) rfl (by kernel_rfl) (by kernel_rfl) (by kernel_rfl) (fun _ _ _ h => h) (Or.inr ⟨by rfl, rfl⟩) ?_
            try simp only [Act.put, List.setIfInBounds_toArray, List.set_cons_zero, List.set_cons_succ, List.getElem_toArray, List.getElem_cons_zero, List.getElem_cons_succ]
            refine wpAny_take (i := 18) (v := ?_) rfl (by kernel_rfl) (by kernel_rfl) (by kernel_rfl) (fun _ _ _ h => h) (Or.inl ⟨by rfl, ?_⟩) ?_
            case refine_2 => (intro w; go_simp; try with_reducible rfl)
            try simp only [Act.put, List.setIfInBounds_toArray, List.set_cons_zero, List.set_cons_succ, List.getElem_toArray, List.getElem_cons_zero, List.getElem_cons_succ]
            refine wpAny_take (i := 19) (v := ?_) rfl (by kernel_rfl) (by kernel_rfl) (by kernel_rfl) (fun _ _ _ h => h) (Or.inl ⟨by rfl, ?_⟩) ?_
            case refine_2 => (intro w; go_simp; try with_reducible rfl)
            try simp only [Act.put, List.setIfInBounds_toArray, List.set_cons_zero, List.set_cons_succ, List.getElem_toArray, List.getElem_cons_zero, List.getElem_cons_succ]
            refine wpAny_done (by kernel_rfl) ?_ _
            go_wp2_with fail
            go_meet
            exact ⟨rfl, HI8⟩
        case rest =>
          obtain ⟨rfl, HF⟩ := hcut
          go_wp2_with fail
          go_roundw
          case rel => exact ⟨j + 1, _, _, _, _, _, by omega, by go_num, rfl, HF⟩
          case measure => simp [intOf]; omega
    · have hjn : ¬ (j : Int) < (ls.length : Int) := by omega
      have CW1 := kept (CW.out wr hin.out.1)
      have HB := kept hin.out.1
      clear hin CW
      go_wp2_with fail
      refine CW1.out.mono ?_
      rintro e w9 ⟨rfl, hb9⟩
      have HB9 := kept (HB.out.trans (hb9.mono HB.out.size))
      clear hb9
      go_wp2_with fail
      go_ret
      exact ⟨rfl, HB9.out⟩
end Go.Proofs.YtdlghabpnpbebaaDoor.Jrn
