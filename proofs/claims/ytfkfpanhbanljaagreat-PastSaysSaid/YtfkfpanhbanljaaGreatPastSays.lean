/- Layer 41 (past): the law PastSays. -/
import Derived.Test.YtfkfpanhbanljaaGreatPastSt
import Derived.Test.YtfkfpanhbanljaaGreatRPastList
import Derived.Test.YtfkfpanhbanljaaGreatEvSame
import Derived.Test.YtfkfpanhbanljaaGreatSetE
import Derived.Test.YtfkfpanhbanljaaGreatCardRef
import Derived.Deep.RegionHeld3
import Derived.Deep.RegionWith
import Derived.Deep.DeepCutAuto
namespace Go.Proofs.YtfkfpanhbanljaaGreat.Past
open Go.RowKit Go.Proofs.YtfkfpanhbanljaaGreat.Mem Go.Proofs.YtfkfpanhbanljaaGreat.Mask Go.Proofs.YtfkfpanhbanljaaGreat.View

def FactM.ArgS (w : World) (x : FactM) : Prop := Rd w w.heap.size x.A (WB x.m) ∧ AllW x.m ∧ x.e.kind < 256 ∧ x.e.cid < 18446744073709551616 ∧ x.e.field < 256
/-- facts few: each saw few words -/
theorem few_saw {ls : List FactM} (h : fewM ls = true) : ls.length ≤ 25 ∧ ∀ x ∈ ls, x.m.length ≤ 20 := by
  unfold fewM at h
  rw [Bool.and_eq_true, decide_eq_true_iff] at h
  refine ⟨h.1, fun x hx => ?_⟩
  have h4 := List.all_eq_true.1 h.2 x hx
  unfold fewP at h4
  rw [Bool.and_eq_true, decide_eq_true_iff] at h4
  exact h4.1
set_option maxRecDepth 100000 in
set_option maxHeartbeats 16000000 in
theorem psays_law (X B : Option Addr) (cx cb : Nat) (ls : List FactM) (b : List Nat) (k : Int) (w : World) (hr : factE.Rd w w.heap.size X ls) (hok : ∀ x ∈ ls, x.ArgS w) (hsz : ls.length ≤ 9223372036854775807) (hb : AllW b) (hrb : Rd w w.heap.size B (WB b)) (hlb : b.length ≤ 9223372036854775807) (hk : -9223372036854775808 ≤ k ∧ k ≤ 9223372036854775807) :
    Calls Tryz.prog 3 #[.slice X ls.length cx, .slice B b.length cb, .int .i64 k] w fun en w' => en = .returned (.bool true) ∧ Below w.heap.size w w' := by
  have CF := kept (few_any X _ cx ls w rfl hr hsz)
  have CW := kept (fun W => pworks_any W)
  by_cases hfm : fewM ls = true
  case neg =>
    rw [Bool.not_eq_true] at hfm
    rw [hfm] at CF
    clear hr hok hrb
    go_enter Tryz.func3, Tryz.ntmps3
    go_wp2_with fail
    refine CF.out.mono ?_
    rintro en w1 ⟨rfl, hb1⟩
    go_wp2_with fail
    refine (CW.out _).mono ?_
    rintro en w2 ⟨rfl, hb2⟩
    have HB2 := kept (bnx hb1 hb2)
    clear hb1 hb2
    go_wp2_with fail
    go_ret
    exact ⟨rfl, HB2.out⟩
  rw [hfm] at CF
  obtain ⟨hl25, hsaw⟩ := few_saw hfm
  clear hfm
  by_cases hb20 : b.length ≤ 20
  case neg =>
    have hb3 : (20 : Int) < (b.length : Int) := by omega
    clear hr hok hrb hsaw hb20
    go_enter Tryz.func3, Tryz.ntmps3
    go_wp2_with fail
    refine CF.out.mono ?_
    rintro en w1 ⟨rfl, hb1⟩
    go_wp2_with fail
    refine (CW.out _).mono ?_
    rintro en w2 ⟨rfl, hb2⟩
    have HB2 := kept (bnx hb1 hb2)
    clear hb1 hb2
    go_wp2_with fail
    go_ret
    exact ⟨rfl, HB2.out⟩
  have hb3 : ¬ (20 : Int) < (b.length : Int) := by omega
  have HSAW := kept hsaw
  have HOK := kept hok
  have HR := kept hr
  have HBB := kept hb
  have HRB := kept hrb
  clear hsaw hok hr hb hrb hsz hlb
  go_enter Tryz.func3, Tryz.ntmps3
  go_wp2_with fail
  refine CF.out.mono ?_
  rintro en w1 ⟨rfl, hb1⟩
  have CN := kept (new_any w1)
  have HB1 := kept hb1
  clear hb1 CF
  go_wp2_with fail
  refine CN.out.mono ?_
  rintro en w2 ⟨rfl, hP2, hb2⟩
  have HS0 : Kept (PSt w w2 w1.heap.size (fun k => k = w1.heap.size) [] [] none) := ⟨⟨hP2, fun k hk => by subst hk; exact HB1.out.size, ⟨Elem.Rd.nil factE, (fun f hf => by cases hf)⟩, (fun x hx => by cases hx), (fun f hf => by cases hf), rfl, (fun f hf => by cases hf), (fun f hf => by cases hf), bnx HB1.out hb2⟩⟩
  clear hP2 hb2 CN HB1 hb3
  generalize w1.heap.size = g at *
  go_wp2_with fail
  go_loopw [8, 9] (fun v iv wr => ∃ (i : Nat) (S : Nat → Prop) (fs rs : List FactM) (X' : Option Addr) (c' : Nat), i ≤ ls.length ∧ iv = .int .i64 (i : Int) ∧ v = .slice X' rs.length c' ∧ Kept (rs.length ≤ i) ∧ Kept (PSt w wr g S fs rs X')) (fun _ iv _ => ls.length - (intOf iv).toNat)
  case atStart => exact ⟨0, _, [], [], none, 0, Nat.zero_le _, rfl, rfl, ⟨Nat.le_refl _⟩, HS0⟩
  case round =>
    clear HS0
    obtain ⟨i, S, fs, rs, X', c', hi, rfl, rfl, HRL, HP⟩ := hrel
    rename World => wr
    by_cases hlt : i < ls.length
    · obtain ⟨x, hx⟩ : ∃ x, ls[i]? = some x := ⟨_, List.getElem?_eq_getElem hlt⟩
      have HBW := kept HP.out.below
      obtain ⟨bl, o, rfl, hbb, hc⟩ := (HR.out.next HBW.out).at_ hx
      have HXO := kept (HOK.out x (List.mem_of_getElem? hx))
      have HXS := kept (HSAW.out x (List.mem_of_getElem? hx))
      obtain ⟨⟨dev, ne, kind, cid, field, text, kA, kn, kc⟩, xA, xm, xc⟩ := x
      have HCC : Kept (∀ W, Below w.heap.size w W → W.cell? ⟨bl, o + i * 8, none⟩ = some (.int .u16 (dev : Int)) ∧ W.cell? ⟨bl, o + i * 8 + 1, none⟩ = some (.int .u64 (ne : Int)) ∧ W.cell? ⟨bl, o + i * 8 + 2, none⟩ = some (.int .u8 (kind : Int)) ∧ W.cell? ⟨bl, o + i * 8 + 3, none⟩ = some (.int .u64 (cid : Int)) ∧ W.cell? ⟨bl, o + i * 8 + 4, none⟩ = some (.int .u8 (field : Int)) ∧ W.cell? ⟨bl, o + i * 8 + 5, none⟩ = some (.string text) ∧ W.cell? ⟨bl, o + i * 8 + 6, none⟩ = some (.slice kA kn kc) ∧ W.cell? ⟨bl, o + i * 8 + 7, none⟩ = some (.slice xA xm.length xc)) := ⟨fun W hW => by
        obtain ⟨bl2, o2, e2, hbb2, hc2⟩ := HR.out.at_ hx
        injection e2 with e2
        injection e2 with e3 e4
        subst e3 e4
        have hd : ∀ (j : Nat) (v : Value), w.cell? ⟨bl, o + i * 8 + j, none⟩ = some v → W.cell? ⟨bl, o + i * 8 + j, none⟩ = some v := fun j v h => (hW.cell (p := ⟨bl, o + i * 8 + j, none⟩) hbb2).trans h
        exact ⟨hd 0 _ (hc2 0 _ rfl), hd 1 _ (hc2 1 _ rfl), hd 2 _ (hc2 2 _ rfl), hd 3 _ (hc2 3 _ rfl), hd 4 _ (hc2 4 _ rfl), hd 5 _ (hc2 5 _ rfl), hd 6 _ (hc2 6 _ rfl), hd 7 _ (hc2 7 _ rfl)⟩⟩
      have c0 : wr.cell? ⟨bl, o + i * 8, none⟩ = some (.int .u16 (dev : Int)) := hc 0 _ rfl
      have c1 : wr.cell? ⟨bl, o + i * 8 + 1, none⟩ = some (.int .u64 (ne : Int)) := hc 1 _ rfl
      have c2 : wr.cell? ⟨bl, o + i * 8 + 2, none⟩ = some (.int .u8 (kind : Int)) := hc 2 _ rfl
      have c3 : wr.cell? ⟨bl, o + i * 8 + 3, none⟩ = some (.int .u64 (cid : Int)) := hc 3 _ rfl
      have c4 : wr.cell? ⟨bl, o + i * 8 + 4, none⟩ = some (.int .u8 (field : Int)) := hc 4 _ rfl
      have c5 : wr.cell? ⟨bl, o + i * 8 + 5, none⟩ = some (.string text) := hc 5 _ rfl
      have c6 : wr.cell? ⟨bl, o + i * 8 + 6, none⟩ = some (.slice kA kn kc) := hc 6 _ rfl
      have c7 : wr.cell? ⟨bl, o + i * 8 + 7, none⟩ = some (.slice xA xm.length xc) := hc 7 _ rfl
      have hin : (i : Int) < (ls.length : Int) := by omega
      have hbd : Below wr.heap.size wr wr.drew := (Below.refl _ _).drew
      have HLEN := kept HP.out.len
      have hrl := HRL.out
      dsimp only [FactM.ArgS] at HXO
      clear hx hc
      obtain ⟨v1, v2, M, CA, CR⟩ : ∃ (v1 v2 : Int) (M : World → Prop),
          Kept (∀ W, Below wr.heap.size wr W → Calls Tryz.prog 7 #[.pointer (some ⟨g, 0, none⟩), .agg #[.int .u16 (dev : Int), .int .u64 (ne : Int), .int .u8 (kind : Int), .int .u64 (cid : Int), .int .u8 (field : Int), .string text, .slice kA kn kc], .slice xA xm.length xc] W fun en w' => en = .returned (.tuple #[.int .i64 v1, .int .i64 v2]) ∧ M w' ∧ Below w.heap.size w w') ∧
          Kept (∀ w3, M w3 → ∀ W, Below w3.heap.size w3 W → Calls Tryz.prog 8 #[.slice X' rs.length c', .agg #[.int .u16 (dev : Int), .int .u64 (ne : Int), .int .u8 (kind : Int), .int .u64 (cid : Int), .int .u8 (field : Int), .string text, .slice kA kn kc], .slice xA xm.length xc] W fun en w' => ∃ (X2 : Option Addr) (c2 : Nat) (rs2 fs2 : List FactM) (S2 : Nat → Prop), en = .returned (.tuple #[.slice X2 rs2.length c2, .int .i64 v1, .int .i64 v2]) ∧ Kept (rs2.length ≤ i + 1) ∧ Kept (PSt w w' g S2 fs2 rs2 X2)) := by
        have hxs : xm.length ≤ 20 := HXS.out
        by_cases hkd : kind = 1 ∨ kind = 2
        · refine ⟨(rs.length : Int), 0, fun w3 => ∃ (W : World) (S3 : Nat → Prop) (A3 : Option Addr) (c3 : Nat), PSt w W g S fs rs X' ∧ Pst w3 S3 g (addF fs ⟨dev, ne, kind, cid, field, text, kA, kn, kc⟩ xm A3 c3) ∧ Goes S W S3 w3, ⟨fun W hW => ?_⟩, ⟨fun w3 hM W hW => ?_⟩⟩
          · have h1 := HP.out.next hW
            have h2 := add_yes S g fs ⟨dev, ne, kind, cid, field, text, kA, kn, kc⟩ xA _ xc xm W h1.pst ⟨hkd, by rw [h1.len]; omega⟩ rfl HXO.out.2.1 (HXO.out.1.next h1.below) (by omega)
            rw [h1.len] at h2
            refine h2.mono fun en w' hh => ?_
            obtain ⟨e1, S3, A3, c3, h3, h4, -⟩ := hh
            exact ⟨e1, ⟨W, S3, A3, c3, h1, h3, h4⟩, (h1.goes h4).2.2.2.2⟩
          · obtain ⟨W0, S3, A3, c3, h1, h3, h4⟩ := hM
            obtain ⟨g1, g2, g3, g4, g5⟩ := h1.goes h4
            have h5 := radd_yes X' rs c' ⟨dev, ne, kind, cid, field, text, kA, kn, kc⟩ xA xm xc W (g1.next hW) hkd HXO.out.2.1 (HXO.out.1.next (bnx g5 hW)) (by omega)
            refine h5.mono fun en w' hh => ?_
            obtain ⟨X2, c2, A2, cA, e1, h6, h7, h8, h9⟩ := hh
            refine ⟨X2, c2, rs ++ [⟨⟨dev, ne, kind, cid, field, text, none, 0, 0⟩, A2, belowM xm rs.length, cA⟩], addF fs ⟨dev, ne, kind, cid, field, text, kA, kn, kc⟩ xm A3 c3, S3, by rw [e1, List.length_append]; rfl, ⟨by rw [List.length_append, List.length_singleton]; omega⟩, ⟨?_⟩⟩
            exact h1.both h3 h4 (bnx hW h9) h6 (fun x hx => Nat.le_trans hW.size (h7 x hx).1) (fun x hx => Nat.le_trans hW.size (h8 x hx).1) (fun x hx => (h7 x hx).2) (fun x hx => (h8 x hx).2) HXO.out.2.2.2.1 HXO.out.2.2.2.2
        · refine ⟨0, 1, fun w3 => PSt w w3 g S fs rs X', ⟨fun W hW => ?_⟩, ⟨fun w3 hM W hW => ?_⟩⟩
          · have h1 := HP.out.next hW
            refine (add_bad g ⟨dev, ne, kind, cid, field, text, kA, kn, kc⟩ xA xm.length xc W hkd).mono fun en w' hh => ?_
            exact ⟨hh.1, h1.next hh.2, (h1.next hh.2).below⟩
          · have h1 := PSt.next hM hW
            refine (radd_bad X' rs.length c' ⟨dev, ne, kind, cid, field, text, kA, kn, kc⟩ xA xm.length xc W hkd).mono fun en w' hh => ?_
            exact ⟨X', c', rs, fs, S, hh.1, ⟨by omega⟩, ⟨h1.next hh.2⟩⟩
      have HC : Kept (∀ W, Below w.heap.size w W → W.cell? ⟨bl, o + i * 8, none⟩ = some (.int .u16 (dev : Int)) ∧ W.cell? ⟨bl, o + i * 8 + 1, none⟩ = some (.int .u64 (ne : Int)) ∧ W.cell? ⟨bl, o + i * 8 + 2, none⟩ = some (.int .u8 (kind : Int)) ∧ W.cell? ⟨bl, o + i * 8 + 3, none⟩ = some (.int .u64 (cid : Int)) ∧ W.cell? ⟨bl, o + i * 8 + 4, none⟩ = some (.int .u8 (field : Int)) ∧ W.cell? ⟨bl, o + i * 8 + 5, none⟩ = some (.string text) ∧ W.cell? ⟨bl, o + i * 8 + 6, none⟩ = some (.slice kA kn kc) ∧ W.cell? ⟨bl, o + i * 8 + 7, none⟩ = some (.slice xA xm.length xc)) := HCC
      clear HXO HXS HRL HLEN HP hrl
      go_upto_region 8 with fail
      go_cut [10, 11] (fun a1 a2 wx => a1 = .int .i64 v1 ∧ a2 = .int .i64 v2 ∧ Kept (M wx ∧ Below w.heap.size w wx))
      case first =>
        clear CR HC HCC
        go_region_with (go_at_call 7; refine (CA.out _ (by assumption)).mono ?_; rintro en w3 ⟨rfl, HM, hb3⟩)
        all_goals
          go_wp2_with fail
          go_meet
          exact ⟨rfl, rfl, ⟨HM, hb3⟩⟩
      case rest =>
        obtain ⟨rfl, rfl, HMC⟩ := hcut
        clear c0 c1 c2 c3 c4 c5 c6 c7 hbd CA
        rename World => w3
        have CR3 := kept (CR.out w3 HMC.out.1)
        obtain ⟨c0, c1, c2, c3, c4, c5, c6, c7⟩ := HC.out w3 HMC.out.2
        have hbd : Below w3.heap.size w3 w3.drew := (Below.refl _ _).drew
        clear CR HC HCC HMC
        go_upto_region 9 with fail
        go_cut [12, 13, 14] (fun a1 a2 a3 wx => ∃ (X2 : Option Addr) (c2 : Nat) (rs2 fs2 : List FactM) (S2 : Nat → Prop), a1 = .slice X2 rs2.length c2 ∧ a2 = .int .i64 v1 ∧ a3 = .int .i64 v2 ∧ Kept (rs2.length ≤ i + 1) ∧ Kept (PSt w wx g S2 fs2 rs2 X2))
        case first =>
          go_region_with (go_at_call 8; refine (CR3.out _ (by assumption)).mono ?_; rintro en w4 ⟨X2, c2', rs2, fs2, S2, rfl, HRL2, HP2⟩)
          all_goals
            go_wp2_with fail
            go_meet
            exact ⟨X2, c2', rs2, fs2, S2, rfl, rfl, rfl, HRL2, HP2⟩
        case rest =>
          obtain ⟨X2, c2', rs2, fs2, S2, rfl, rfl, rfl, HRL2, HP2⟩ := hcut
          clear c0 c1 c2 c3 c4 c5 c6 c7 hbd CR3
          rename World => w4
          have CLN := kept (len_any (.pointer (some ⟨g, 0, none⟩)) fs2.length w4 HP2.out.pst.len)
          rw [HP2.out.len] at CLN
          go_wp2_with fail
          refine CLN.out.mono ?_
          rintro en w5 ⟨rfl, rfl⟩
          clear CLN
          go_wp2_with fail
          go_roundw
          case rel => exact ⟨i + 1, S2, fs2, rs2, X2, c2', by omega, by go_num, rfl, HRL2, HP2⟩
          case measure => simp [intOf]; omega
    · obtain rfl : i = ls.length := by omega
      have hrl : rs.length ≤ 25 := by have := HRL.out; omega
      have hfl : fs.length ≤ 25 := by have := HP.out.len; omega
      have HQ := kept HP.out.q
      have HEV := kept HP.out.evs
      have HTR := kept HP.out.tr
      have HPW : Kept (∀ W, Below wr.heap.size wr W → PSt w W g S fs rs X') := ⟨fun W hb => HP.out.next hb⟩
      have HLE : Kept (fs.length = rs.length) := ⟨HP.out.len⟩
      clear HP HR HOK HSAW HRL
      go_wp2_with fail
      go_loopw [15] (fun iv wq => ∃ j : Nat, j ≤ rs.length ∧ iv = .int .i64 (j : Int) ∧ Kept (Below wr.heap.size wr wq)) (fun iv _ => rs.length - (intOf iv).toNat)
      case atStart => exact ⟨0, Nat.zero_le _, rfl, ⟨Below.refl _ _⟩⟩
      case round =>
        obtain ⟨j, hj, rfl, HB⟩ := hrel
        rename World => wq
        by_cases hjl : j < rs.length
        · obtain ⟨r, hrj⟩ : ∃ r, rs[j]? = some r := ⟨_, List.getElem?_eq_getElem hjl⟩
          obtain ⟨f, hfj⟩ : ∃ f, fs[j]? = some f := ⟨_, List.getElem?_eq_getElem (by rw [HLE.out]; exact hjl)⟩
          have hgf : fs.getD j default = f := by simp [List.getD, hfj]
          have hgr : rs.getD j default = r := by simp [List.getD, hrj]
          have hqe := (q_get HQ.out j).1
          have hqm := (q_get HQ.out j).2
          rw [hgf, hgr] at hqe hqm
          have HPq := kept (HPW.out wq HB.out)
          have CE := event_in S g fs j f wq HPq.out.pst hfj
          rw [hqe] at CE
          have hjn : (j : Int) < (rs.length : Int) := by omega
          have hjn0 : (0 : Int) ≤ (j : Int) := by omega
          have HTF : Kept (joinN f.m [] = r.m) := ⟨by rw [join_nil (HPq.out.pst.2.2.2.1 f (List.mem_of_getElem? hfj)).2.2.1, HTR.out f (List.mem_of_getElem? hfj), hqm]⟩
          obtain ⟨bl, o, hXe, hbb, -, hrk⟩ := HPq.out.rd.spot hrj
          subst hXe
          have HCC : Kept (∀ W, Below wq.heap.size wq W → r.Rk W ∧ (W.cell? ⟨bl, o + j * 8, none⟩ = some (.int .u16 (r.e.dev : Int)) ∧ W.cell? ⟨bl, o + j * 8 + 1, none⟩ = some (.int .u64 (r.e.n : Int)) ∧ W.cell? ⟨bl, o + j * 8 + 2, none⟩ = some (.int .u8 (r.e.kind : Int)) ∧ W.cell? ⟨bl, o + j * 8 + 3, none⟩ = some (.int .u64 (r.e.cid : Int)) ∧
              W.cell? ⟨bl, o + j * 8 + 4, none⟩ = some (.int .u8 (r.e.field : Int)) ∧ W.cell? ⟨bl, o + j * 8 + 5, none⟩ = some (.string r.e.text) ∧ W.cell? ⟨bl, o + j * 8 + 6, none⟩ = some (.slice none 0 0) ∧ W.cell? ⟨bl, o + j * 8 + 7, none⟩ = some (.slice r.A r.m.length r.c))) := ⟨fun W hW => by
            obtain ⟨bl2, o2, e2, -, hc2, hk2⟩ := (HPq.out.next hW).rd.spot hrj
            injection e2 with e2
            injection e2 with e3 e4
            subst e3 e4
            exact ⟨hk2, hc2⟩⟩
          have CSW : Kept (∀ W, Below wq.heap.size wq W → Calls Tryz.prog 13 #[.pointer (some ⟨g, 0, none⟩), .int .i64 (j : Int)] W (GivesW W r.m)) := ⟨fun W hW => by
            have := saw_in S g fs j f W (HPq.out.next hW).pst hfj
            rwa [HTF.out] at this⟩
          have CO1 : Kept (∀ W, Below wq.heap.size wq W → Calls Tryz.prog 14 #[.pointer (some ⟨g, 0, none⟩), .int .i64 (j : Int), .int .i64 k] W fun e w' => e = .returned (.bool (outsM rs (j : Int) k)) ∧ Below W.heap.size W w') := ⟨fun W hW => by
            have := outs_any S g fs (j : Int) k W (HPq.out.next hW).pst ⟨by omega, by omega⟩ hk
            rwa [outs_q HQ.out] at this⟩
          have CO3 : Kept (∀ W, Below wq.heap.size wq W → Calls Tryz.prog 14 #[.pointer (some ⟨g, 0, none⟩), .int .i64 k, .int .i64 (j : Int)] W fun e w' => e = .returned (.bool (outsM rs k (j : Int))) ∧ Below W.heap.size W w') := ⟨fun W hW => by
            have := outs_any S g fs k (j : Int) W (HPq.out.next hW).pst hk ⟨by omega, by omega⟩
            rwa [outs_q HQ.out] at this⟩
          have CO2 : Kept (∀ W, Below wq.heap.size wq W → Calls Tryz.prog 15 #[.slice (some ⟨bl, o, none⟩) rs.length c', .int .i64 (j : Int), .int .i64 k] W fun e w' => e = .returned (.bool (outsM rs (j : Int) k)) ∧ Below W.heap.size W w') := ⟨fun W hW => routs_any _ rs c' (j : Int) k W (HPq.out.next hW).rd ⟨by omega, by omega⟩ hk⟩
          have CO4 : Kept (∀ W, Below wq.heap.size wq W → Calls Tryz.prog 15 #[.slice (some ⟨bl, o, none⟩) rs.length c', .int .i64 k, .int .i64 (j : Int)] W fun e w' => e = .returned (.bool (outsM rs k (j : Int))) ∧ Below W.heap.size W w') := ⟨fun W hW => routs_any _ rs c' k (j : Int) W (HPq.out.next hW).rd hk ⟨by omega, by omega⟩⟩
          generalize outsM rs (j : Int) k = q1 at *
          generalize outsM rs k (j : Int) = q2 at *
          obtain ⟨⟨dev, ne, kind, cid, field, text, kA, kn, kc⟩, rA, rm, rc⟩ := r
          obtain ⟨⟨e1, e2, e3⟩, -⟩ := hrk
          dsimp only at e1 e2 e3 CE HCC CSW
          subst e1 e2 e3
          have CSM : Kept (∀ W, Calls Tryz.prog 11 #[.agg #[.int .u16 (dev : Int), .int .u64 (ne : Int), .int .u8 (kind : Int), .int .u64 (cid : Int), .int .u8 (field : Int), .string text, .slice none 0 0], .agg #[.int .u16 (dev : Int), .int .u64 (ne : Int), .int .u8 (kind : Int), .int .u64 (cid : Int), .int .u8 (field : Int), .string text, .slice none 0 0]] W fun en w' => en = .returned (.bool true) ∧ Below W.heap.size W w') := ⟨fun W => esame_any ⟨dev, ne, kind, cid, field, text, none, 0, 0⟩ W ⟨rfl, rfl, rfl⟩⟩
          have CEQ : Kept (∀ W (A5 : Option Addr) (c5 : Nat), Rd W W.heap.size A5 (WB rm) → Below wq.heap.size wq W → Calls Tryz.prog 12 #[.slice A5 rm.length c5, .slice rA rm.length rc] W fun e w' => e = .returned (.bool true) ∧ Below W.heap.size W w') := ⟨fun W A5 c5 h5 hW => by
            have hk2 := (HCC.out W hW).1
            have := eq_any _ _ A5 rA _ _ c5 rc rm rm W rfl rfl h5 hk2.2.1 (by have := hk2.2.2.2; dsimp only at this; omega)
            rw [decide_eq_true rfl] at this
            exact this.mono fun e w' ⟨h1, q, h2⟩ => ⟨h1, by rw [h2]; exact below_draw _ _ q⟩⟩
          unfold EvM.val at CE
          dsimp only at CE
          have CE := kept CE
          clear hgf hgr hqe hqm HTF hrj hfj HPq
          go_wp2_with fail
          refine CE.out.mono ?_
          rintro en w3 ⟨rfl, hb3⟩
          have hbA : Below w3.heap.size w3 (w3.alloc (.cells #[.int .u16 (dev : Int), .int .u64 (ne : Int), .int .u8 (kind : Int), .int .u64 (cid : Int), .int .u8 (field : Int), .string text, .slice none 0 0] 38)) := (Below.refl _ _).alloc (Nat.le_refl _) _
          have HB5 := kept (bnx hb3 hbA)
          have HK5 := kept (Blk.new w3 [.int .u16 (dev : Int), .int .u64 (ne : Int), .int .u8 (kind : Int), .int .u64 (cid : Int), .int .u8 (field : Int), .string text, .slice none 0 0] 38)
          clear hb3 hbA CE
          go_upto_region 17 with fail
          generalize w3.alloc (.cells #[.int .u16 (dev : Int), .int .u64 (ne : Int), .int .u8 (kind : Int), .int .u64 (cid : Int), .int .u8 (field : Int), .string text, .slice none 0 0] 38) = w5 at *
          generalize w3.heap.size = gx at *
          have CSW5 := kept (fun W (h : Below w5.heap.size w5 W) => CSW.out W (bnx HB5.out h))
          have CO15 := kept (fun W (h : Below w5.heap.size w5 W) => CO1.out W (bnx HB5.out h))
          have CO25 := kept (fun W (h : Below w5.heap.size w5 W) => CO2.out W (bnx HB5.out h))
          have CO35 := kept (fun W (h : Below w5.heap.size w5 W) => CO3.out W (bnx HB5.out h))
          have CO45 := kept (fun W (h : Below w5.heap.size w5 W) => CO4.out W (bnx HB5.out h))
          have CEQ5 := kept (fun W A5 c5 h5 (h : Below w5.heap.size w5 W) => CEQ.out W A5 c5 h5 (bnx HB5.out h))
          have CSM5 := kept (fun W (_ : Below w5.heap.size w5 W) => CSM.out W)
          have HS5 : Kept (∀ W, Below w5.heap.size w5 W → W.cell? ⟨gx, 0, none⟩ = some (.int .u16 (dev : Int)) ∧ W.cell? ⟨gx, 1, none⟩ = some (.int .u64 (ne : Int)) ∧ W.cell? ⟨gx, 2, none⟩ = some (.int .u8 (kind : Int)) ∧ W.cell? ⟨gx, 3, none⟩ = some (.int .u64 (cid : Int)) ∧ W.cell? ⟨gx, 4, none⟩ = some (.int .u8 (field : Int)) ∧ W.cell? ⟨gx, 5, none⟩ = some (.string text) ∧ W.cell? ⟨gx, 6, none⟩ = some (.slice none 0 0) ∧ W.cell? ⟨bl, o + j * 8, none⟩ = some (.int .u16 (dev : Int)) ∧ W.cell? ⟨bl, o + j * 8 + 1, none⟩ = some (.int .u64 (ne : Int)) ∧ W.cell? ⟨bl, o + j * 8 + 2, none⟩ = some (.int .u8 (kind : Int)) ∧ W.cell? ⟨bl, o + j * 8 + 3, none⟩ = some (.int .u64 (cid : Int)) ∧ W.cell? ⟨bl, o + j * 8 + 4, none⟩ = some (.int .u8 (field : Int)) ∧ W.cell? ⟨bl, o + j * 8 + 5, none⟩ = some (.string text) ∧ W.cell? ⟨bl, o + j * 8 + 6, none⟩ = some (.slice none 0 0) ∧ W.cell? ⟨bl, o + j * 8 + 7, none⟩ = some (.slice rA rm.length rc)) := ⟨fun W h => by
            have h1 := HK5.out.next h
            have h2 := (HCC.out W (bnx HB5.out h)).2
            exact ⟨h1.cell (j := 0) rfl, h1.cell (j := 1) rfl, h1.cell (j := 2) rfl, h1.cell (j := 3) rfl, h1.cell (j := 4) rfl, h1.cell (j := 5) rfl, h1.cell (j := 6) rfl, h2⟩⟩
          have HBB5 := kept (bnx HB.out HB5.out)
          have hdd : ∀ d : Bool, (d != d) = false := by decide
          clear CSW CO1 CO2 CO3 CO4 CEQ CSM HCC HK5 HB5 HB
          go_cut [140] (fun a wx => a = .bool false ∧ Kept (Below w5.heap.size w5 wx))
          case first =>
            clear HPW HQ HEV HTR HLE HBB5 CW HBB HRB
            go_region_held3 (fun W => W.cell? ⟨gx, 0, none⟩ = some (.int .u16 (dev : Int)) ∧ W.cell? ⟨gx, 1, none⟩ = some (.int .u64 (ne : Int)) ∧ W.cell? ⟨gx, 2, none⟩ = some (.int .u8 (kind : Int)) ∧ W.cell? ⟨gx, 3, none⟩ = some (.int .u64 (cid : Int)) ∧ W.cell? ⟨gx, 4, none⟩ = some (.int .u8 (field : Int)) ∧ W.cell? ⟨gx, 5, none⟩ = some (.string text) ∧ W.cell? ⟨gx, 6, none⟩ = some (.slice none 0 0) ∧ W.cell? ⟨bl, o + j * 8, none⟩ = some (.int .u16 (dev : Int)) ∧ W.cell? ⟨bl, o + j * 8 + 1, none⟩ = some (.int .u64 (ne : Int)) ∧ W.cell? ⟨bl, o + j * 8 + 2, none⟩ = some (.int .u8 (kind : Int)) ∧ W.cell? ⟨bl, o + j * 8 + 3, none⟩ = some (.int .u64 (cid : Int)) ∧ W.cell? ⟨bl, o + j * 8 + 4, none⟩ = some (.int .u8 (field : Int)) ∧ W.cell? ⟨bl, o + j * 8 + 5, none⟩ = some (.string text) ∧ W.cell? ⟨bl, o + j * 8 + 6, none⟩ = some (.slice none 0 0) ∧ W.cell? ⟨bl, o + j * 8 + 7, none⟩ = some (.slice rA rm.length rc)) (exact HS5.out _ (by (repeat (first | with_reducible assumption | with_reducible refine below_new ?_ _ | with_reducible refine Below.drew ?_ | with_reducible exact Below.refl _ _)))) (first
              | (go_at_call 11; ((with_reducible refine (CSM5.out _ (by (repeat (first | with_reducible assumption | with_reducible refine below_new ?_ _ | with_reducible refine Below.drew ?_ | with_reducible exact Below.refl _ _)))).mono ?_); rintro e x1 ⟨rfl, hx1⟩; have hk1 : Below w5.heap.size w5 x1 := bnx (by (repeat (first | with_reducible assumption | with_reducible refine below_new ?_ _ | with_reducible refine Below.drew ?_ | with_reducible exact Below.refl _ _))) hx1))
              | (go_at_call 13; ((with_reducible refine (CSW5.out _ (by (repeat (first | with_reducible assumption | with_reducible refine below_new ?_ _ | with_reducible refine Below.drew ?_ | with_reducible exact Below.refl _ _)))).mono ?_); rintro e x1 ⟨A5, c5, rfl, ho5, hc5, hx1⟩; have HO5 := kept ho5.rd; have hk1 : Below w5.heap.size w5 x1 := bnx (by (repeat (first | with_reducible assumption | with_reducible refine below_new ?_ _ | with_reducible refine Below.drew ?_ | with_reducible exact Below.refl _ _))) hx1; clear ho5 hc5 hx1))
              | (go_at_call 12; ((with_reducible refine (CEQ5.out _ _ _ (HO5.out.next (by (repeat (first | with_reducible assumption | with_reducible refine below_new ?_ _ | with_reducible refine Below.drew ?_ | with_reducible exact Below.refl _ _)))) (by (repeat (first | with_reducible assumption | with_reducible refine below_new ?_ _ | with_reducible refine Below.drew ?_ | with_reducible exact Below.refl _ _)))).mono ?_); rintro e x1 ⟨rfl, hx1⟩; have hk1 : Below w5.heap.size w5 x1 := bnx (by (repeat (first | with_reducible assumption | with_reducible refine below_new ?_ _ | with_reducible refine Below.drew ?_ | with_reducible exact Below.refl _ _))) hx1))
              | (go_at_call 14; ((with_reducible refine (CO15.out _ (by (repeat (first | with_reducible assumption | with_reducible refine below_new ?_ _ | with_reducible refine Below.drew ?_ | with_reducible exact Below.refl _ _)))).mono ?_); rintro e x1 ⟨rfl, hx1⟩; have hk1 : Below w5.heap.size w5 x1 := bnx (by (repeat (first | with_reducible assumption | with_reducible refine below_new ?_ _ | with_reducible refine Below.drew ?_ | with_reducible exact Below.refl _ _))) hx1))
              | (go_at_call 14; ((with_reducible refine (CO35.out _ (by (repeat (first | with_reducible assumption | with_reducible refine below_new ?_ _ | with_reducible refine Below.drew ?_ | with_reducible exact Below.refl _ _)))).mono ?_); rintro e x1 ⟨rfl, hx1⟩; have hk1 : Below w5.heap.size w5 x1 := bnx (by (repeat (first | with_reducible assumption | with_reducible refine below_new ?_ _ | with_reducible refine Below.drew ?_ | with_reducible exact Below.refl _ _))) hx1))
              | (go_at_call 15; ((with_reducible refine (CO25.out _ (by (repeat (first | with_reducible assumption | with_reducible refine below_new ?_ _ | with_reducible refine Below.drew ?_ | with_reducible exact Below.refl _ _)))).mono ?_); rintro e x1 ⟨rfl, hx1⟩; have hk1 : Below w5.heap.size w5 x1 := bnx (by (repeat (first | with_reducible assumption | with_reducible refine below_new ?_ _ | with_reducible refine Below.drew ?_ | with_reducible exact Below.refl _ _))) hx1))
              | (go_at_call 15; ((with_reducible refine (CO45.out _ (by (repeat (first | with_reducible assumption | with_reducible refine below_new ?_ _ | with_reducible refine Below.drew ?_ | with_reducible exact Below.refl _ _)))).mono ?_); rintro e x1 ⟨rfl, hx1⟩; have hk1 : Below w5.heap.size w5 x1 := bnx (by (repeat (first | with_reducible assumption | with_reducible refine below_new ?_ _ | with_reducible refine Below.drew ?_ | with_reducible exact Below.refl _ _))) hx1)))
            all_goals
              go_wp2_with fail
              go_meet
              exact ⟨by first | rfl | simp, ⟨(by (repeat (first | with_reducible assumption | with_reducible refine below_new ?_ _ | with_reducible refine Below.drew ?_ | with_reducible exact Below.refl _ _)))⟩⟩
          case rest =>
            obtain ⟨rfl, HCW⟩ := hcut
            have HB9 := kept (bnx HBB5.out HCW.out)
            clear HCW HBB5 HS5 CSW5 CO15 CO25 CO35 CO45 CEQ5 CSM5
            go_wp2_with fail
            go_roundw
            case rel => exact ⟨j + 1, by omega, by go_num, HB9⟩
            case measure => simp [intOf]; omega
        · obtain rfl : j = rs.length := by omega
          have HPq := kept (HPW.out wq HB.out)
          have HBQ := kept HPq.out.below
          have hf1 : fs.length ≤ 1024 := by omega
          have hr1 : rs.length ≤ 1024 := by omega
          have HL : Kept (liveM fs b = liveM rs b) := ⟨live_q HQ.out hf1 b⟩
          have HVE : Kept (evsM fs (liveM fs b) = evsM rs (liveM rs b)) := ⟨by rw [HL.out]; exact evs_q HQ.out _⟩
          have HRE : Kept (∀ f ∈ rs, f.e.cid < 18446744073709551616 ∧ f.e.field < 256) := ⟨fun f hf => by
            have h1 : FactM.q f ∈ fs.map FactM.q := by rw [HQ.out]; exact List.mem_map_of_mem hf
            obtain ⟨f2, h2, h3⟩ := List.mem_map.1 h1
            have h4 : f2.e = f.e := congrArg Prod.fst h3
            rw [← h4]; exact HEV.out f2 h2⟩
          have CL : Kept (∀ W, Below wq.heap.size wq W → Calls Tryz.prog 16 #[.pointer (some ⟨g, 0, none⟩), .slice B b.length cb] W (GivesW W (liveM rs b))) := ⟨fun W hW => by
            have := live_any S g fs B b.length cb b W (HPq.out.next hW).pst rfl HBB.out (HRB.out.next (HPq.out.next hW).below) (by omega)
            rwa [HL.out] at this⟩
          have CM : Kept (∀ W, Below wq.heap.size wq W → Calls Tryz.prog 17 #[.slice X' rs.length c', .slice B b.length cb] W (GivesW W (liveM rs b))) := ⟨fun W hW => by
            have := rlive_any X' rs c' B b cb W (HPq.out.next hW).rd HBB.out (HRB.out.next (HPq.out.next hW).below) hrl
            rwa [rlive_live hr1] at this⟩
          have CV : Kept (∀ W, Below wq.heap.size wq W → Calls Tryz.prog 19 #[.pointer (some ⟨g, 0, none⟩), .slice B b.length cb] W (GivesV W (viewV (evsM rs (liveM rs b))))) := ⟨fun W hW => by
            have := plist_any S g fs B b.length cb b W (HPq.out.next hW).pst rfl HBB.out (HRB.out.next (HPq.out.next hW).below) (by omega) hfl (fun f hf => (HEV.out f hf).2) (fun f hf => (HEV.out f hf).1)
            rwa [HVE.out] at this⟩
          have CU : Kept (∀ W, Below wq.heap.size wq W → Calls Tryz.prog 20 #[.slice X' rs.length c', .slice B b.length cb] W (GivesV W (viewV (evsM rs (liveM rs b))))) := ⟨fun W hW => rplist_any X' rs c' B b cb W (HPq.out.next hW).rd HBB.out (HRB.out.next (HPq.out.next hW).below) hrl (fun f hf => (HRE.out f hf).2) (fun f hf => (HRE.out f hf).1)⟩
          have HLL : Kept ((liveM rs b).length ≤ 16) := ⟨(live_all rs b).2⟩
          have HVL : Kept ((viewV (evsM rs (liveM rs b))).length ≤ 25) := ⟨by
            unfold viewV
            rw [List.length_map]
            exact Nat.le_trans (cids_length _) (Nat.le_trans (evs_length hr1 b) hrl)⟩
          have hkr : (0 ≤ k ∧ k < (rs.length : Int)) ∨ k < 0 ∨ (rs.length : Int) ≤ k := by omega
          have CEI : Kept (∀ i : Nat, k = (i : Int) → i < rs.length → ∃ e : EvM, e.kA = none ∧ e.kn = 0 ∧ e.kc = 0 ∧ Calls Tryz.prog 10 #[.pointer (some ⟨g, 0, none⟩), .int .i64 k] wq fun en w' => en = .returned (.tuple #[e.val, .bool true]) ∧ Below wq.heap.size wq w') := ⟨fun i hi hl => by
            obtain ⟨f, hf⟩ : ∃ f, fs[i]? = some f := ⟨_, List.getElem?_eq_getElem (by rw [HLE.out]; exact hl)⟩
            have h1 := (HPq.out.pst.2.2.2.1 f (List.mem_of_getElem? hf)).1
            have h2 := event_in S g fs i f wq HPq.out.pst hf
            rw [← hi] at h2
            exact ⟨f.e, h1.1, h1.2.1, h1.2.2, h2⟩⟩
          have CEO : Kept (¬ (0 ≤ k ∧ k < (rs.length : Int)) → Calls Tryz.prog 10 #[.pointer (some ⟨g, 0, none⟩), .int .i64 k] wq fun e w' => e = .returned (.tuple #[.agg #[.int .u16 0, .int .u64 0, .int .u8 0, .int .u64 0, .int .u8 0, .string ⟨#[]⟩, .slice none 0 0], .bool false]) ∧ Below wq.heap.size wq w') := ⟨fun hn => event_out S g fs k wq HPq.out.pst (by rw [HLE.out]; exact hn)⟩
          clear HPq HPW HQ HEV HTR HLE HL HVE HRE HBB HRB HB hf1 hr1
          generalize viewV (evsM rs (liveM rs b)) = vv at *
          generalize liveM rs b = L at *
          rcases hkr with ⟨hk0, hk1⟩ | hk0 | hk1
          · obtain ⟨⟨dev, ne, kind, cid, field, text, kA, kn, kc⟩, e1, e2, e3, CE⟩ := CEI.out k.toNat (by omega) (by omega)
            dsimp only at e1 e2 e3
            subst e1 e2 e3
            unfold EvM.val at CE
            dsimp only at CE
            have CE := kept CE
            clear CEI CEO
            go_wp2_with fail
            refine CE.out.mono ?_
            rintro en w3 ⟨rfl, hb3⟩
            have hbA : Below w3.heap.size w3 (w3.alloc (.cells #[.int .u16 (dev : Int), .int .u64 (ne : Int), .int .u8 (kind : Int), .int .u64 (cid : Int), .int .u8 (field : Int), .string text, .slice none 0 0] 38)) := (Below.refl _ _).alloc (Nat.le_refl _) _
            have HB5 := kept (bnx hb3 hbA)
            clear hb3 hbA CE
            go_upto_region 20 with fail
            generalize w3.alloc (.cells #[.int .u16 (dev : Int), .int .u64 (ne : Int), .int .u8 (kind : Int), .int .u64 (cid : Int), .int .u8 (field : Int), .string text, .slice none 0 0] 38) = w5 at *
            have CL5 := kept (CL.out w5 HB5.out)
            clear CL
            go_wp2_with fail
            refine CL5.out.mono ?_
            rintro en w6 ⟨A6, c6, rfl, ho6, hc6, hb6⟩
            have HB6 := kept (bnx HB5.out hb6)
            have HR6 := kept ho6.rd
            have CM6 := kept (CM.out w6 HB6.out)
            clear ho6 hc6 hb6 CL5 HB5 CM
            go_wp2_with fail
            refine CM6.out.mono ?_
            rintro en w7 ⟨A7, c7, rfl, ho7, hc7, hb7⟩
            have HB7 := kept (bnx HB6.out hb7)
            have CQ := eq_any _ _ A6 A7 _ _ c6 c7 L L w7 rfl rfl (HR6.out.next hb7) ho7.rd (by have := HLL.out; omega)
            rw [decide_eq_true rfl] at CQ
            have CQ := kept CQ
            clear ho7 hc7 hb7 CM6 HB6 HR6
            go_wp2_with fail
            refine CQ.out.mono ?_
            rintro en w8 ⟨rfl, nd, rfl⟩
            have HB8 : Kept (Below wq.heap.size wq (w7.drewN nd)) := ⟨bnx HB7.out (below_draw _ w7 nd)⟩
            clear CQ HB7
            generalize w7.drewN nd = w8 at *
            have CV8 := kept (CV.out w8 HB8.out)
            clear CV
            go_wp2_with fail
            refine CV8.out.mono ?_
            rintro en w9 ⟨A9, c9, ys, rfl, hp9, hrow9, hb9⟩
            have HB9 := kept (bnx HB8.out hb9)
            have HP9 := kept hp9
            have HR9 := kept hrow9.rd
            have CU9 := kept (CU.out w9 HB9.out)
            clear hp9 hrow9 hb9 CV8 HB8 CU
            go_wp2_with fail
            refine CU9.out.mono ?_
            rintro en w10 ⟨A10, c10, zs, rfl, hp10, hrow10, hb10⟩
            have HB10 := kept (bnx HB9.out hb10)
            have HPE : Kept (ys.map Card.CardM.p = zs.map Card.CardM.p) := ⟨HP9.out.trans hp10.symm⟩
            have hys : ys.length ≤ 25 := by
              have := congrArg List.length HP9.out
              rw [List.length_map] at this
              rw [this]; exact HVL.out
            have CALL := Card.rall_any A9 A10 ys.length zs.length c9 c10 ys zs w10 rfl rfl (Card.RdCards.next HR9.out hb10) hrow10.rd (by omega)
            rw [decide_eq_true HPE.out] at CALL
            have CALL := kept CALL
            clear hp10 hrow10 hb10 CU9 HB9 HP9 HR9 HPE hys
            go_wp2_with fail
            refine CALL.out.mono ?_
            rintro en w11 ⟨rfl, hb11⟩
            have HB11 := kept (bnx HB10.out hb11)
            clear hb11 CALL HB10
            go_wp2_with fail
            refine (CW.out _).mono ?_
            rintro en w12 ⟨rfl, hb12⟩
            have HB12 := kept (bnx HBQ.out (bnx HB11.out hb12))
            clear hb12 HB11
            go_wp2_with fail
            go_ret
            exact ⟨by first | rfl | (simp; omega) | simp [*], HB12.out⟩
          · have CE := kept (CEO.out (by omega))
            have hk2 : ¬ (0 : Int) ≤ k := by omega
            clear CEI CEO
            go_wp2_with fail
            refine CE.out.mono ?_
            rintro en w3 ⟨rfl, hb3⟩
            have hbA : Below w3.heap.size w3 (w3.alloc (.cells #[.int .u16 0, .int .u64 0, .int .u8 0, .int .u64 0, .int .u8 0, .string ⟨#[]⟩, .slice none 0 0] 38)) := (Below.refl _ _).alloc (Nat.le_refl _) _
            have HB5 := kept (bnx hb3 hbA)
            clear hb3 hbA CE
            go_upto_region 20 with fail
            generalize w3.alloc (.cells #[.int .u16 0, .int .u64 0, .int .u8 0, .int .u64 0, .int .u8 0, .string ⟨#[]⟩, .slice none 0 0] 38) = w5 at *
            have CL5 := kept (CL.out w5 HB5.out)
            clear CL
            go_wp2_with fail
            refine CL5.out.mono ?_
            rintro en w6 ⟨A6, c6, rfl, ho6, hc6, hb6⟩
            have HB6 := kept (bnx HB5.out hb6)
            have HR6 := kept ho6.rd
            have CM6 := kept (CM.out w6 HB6.out)
            clear ho6 hc6 hb6 CL5 HB5 CM
            go_wp2_with fail
            refine CM6.out.mono ?_
            rintro en w7 ⟨A7, c7, rfl, ho7, hc7, hb7⟩
            have HB7 := kept (bnx HB6.out hb7)
            have CQ := eq_any _ _ A6 A7 _ _ c6 c7 L L w7 rfl rfl (HR6.out.next hb7) ho7.rd (by have := HLL.out; omega)
            rw [decide_eq_true rfl] at CQ
            have CQ := kept CQ
            clear ho7 hc7 hb7 CM6 HB6 HR6
            go_wp2_with fail
            refine CQ.out.mono ?_
            rintro en w8 ⟨rfl, nd, rfl⟩
            have HB8 : Kept (Below wq.heap.size wq (w7.drewN nd)) := ⟨bnx HB7.out (below_draw _ w7 nd)⟩
            clear CQ HB7
            generalize w7.drewN nd = w8 at *
            have CV8 := kept (CV.out w8 HB8.out)
            clear CV
            go_wp2_with fail
            refine CV8.out.mono ?_
            rintro en w9 ⟨A9, c9, ys, rfl, hp9, hrow9, hb9⟩
            have HB9 := kept (bnx HB8.out hb9)
            have HP9 := kept hp9
            have HR9 := kept hrow9.rd
            have CU9 := kept (CU.out w9 HB9.out)
            clear hp9 hrow9 hb9 CV8 HB8 CU
            go_wp2_with fail
            refine CU9.out.mono ?_
            rintro en w10 ⟨A10, c10, zs, rfl, hp10, hrow10, hb10⟩
            have HB10 := kept (bnx HB9.out hb10)
            have HPE : Kept (ys.map Card.CardM.p = zs.map Card.CardM.p) := ⟨HP9.out.trans hp10.symm⟩
            have hys : ys.length ≤ 25 := by
              have := congrArg List.length HP9.out
              rw [List.length_map] at this
              rw [this]; exact HVL.out
            have CALL := Card.rall_any A9 A10 ys.length zs.length c9 c10 ys zs w10 rfl rfl (Card.RdCards.next HR9.out hb10) hrow10.rd (by omega)
            rw [decide_eq_true HPE.out] at CALL
            have CALL := kept CALL
            clear hp10 hrow10 hb10 CU9 HB9 HP9 HR9 HPE hys
            go_wp2_with fail
            refine CALL.out.mono ?_
            rintro en w11 ⟨rfl, hb11⟩
            have HB11 := kept (bnx HB10.out hb11)
            clear hb11 CALL HB10
            go_wp2_with fail
            refine (CW.out _).mono ?_
            rintro en w12 ⟨rfl, hb12⟩
            have HB12 := kept (bnx HBQ.out (bnx HB11.out hb12))
            clear hb12 HB11
            go_wp2_with fail
            go_ret
            exact ⟨by first | rfl | (simp; omega) | simp [*], HB12.out⟩
          · have CE := kept (CEO.out (by omega))
            have hk2 : ¬ k < (rs.length : Int) := by omega
            have hk3 : (0 : Int) ≤ k := by omega
            clear CEI CEO
            go_wp2_with fail
            refine CE.out.mono ?_
            rintro en w3 ⟨rfl, hb3⟩
            have hbA : Below w3.heap.size w3 (w3.alloc (.cells #[.int .u16 0, .int .u64 0, .int .u8 0, .int .u64 0, .int .u8 0, .string ⟨#[]⟩, .slice none 0 0] 38)) := (Below.refl _ _).alloc (Nat.le_refl _) _
            have HB5 := kept (bnx hb3 hbA)
            clear hb3 hbA CE
            go_upto_region 20 with fail
            generalize w3.alloc (.cells #[.int .u16 0, .int .u64 0, .int .u8 0, .int .u64 0, .int .u8 0, .string ⟨#[]⟩, .slice none 0 0] 38) = w5 at *
            have CL5 := kept (CL.out w5 HB5.out)
            clear CL
            go_wp2_with fail
            refine CL5.out.mono ?_
            rintro en w6 ⟨A6, c6, rfl, ho6, hc6, hb6⟩
            have HB6 := kept (bnx HB5.out hb6)
            have HR6 := kept ho6.rd
            have CM6 := kept (CM.out w6 HB6.out)
            clear ho6 hc6 hb6 CL5 HB5 CM
            go_wp2_with fail
            refine CM6.out.mono ?_
            rintro en w7 ⟨A7, c7, rfl, ho7, hc7, hb7⟩
            have HB7 := kept (bnx HB6.out hb7)
            have CQ := eq_any _ _ A6 A7 _ _ c6 c7 L L w7 rfl rfl (HR6.out.next hb7) ho7.rd (by have := HLL.out; omega)
            rw [decide_eq_true rfl] at CQ
            have CQ := kept CQ
            clear ho7 hc7 hb7 CM6 HB6 HR6
            go_wp2_with fail
            refine CQ.out.mono ?_
            rintro en w8 ⟨rfl, nd, rfl⟩
            have HB8 : Kept (Below wq.heap.size wq (w7.drewN nd)) := ⟨bnx HB7.out (below_draw _ w7 nd)⟩
            clear CQ HB7
            generalize w7.drewN nd = w8 at *
            have CV8 := kept (CV.out w8 HB8.out)
            clear CV
            go_wp2_with fail
            refine CV8.out.mono ?_
            rintro en w9 ⟨A9, c9, ys, rfl, hp9, hrow9, hb9⟩
            have HB9 := kept (bnx HB8.out hb9)
            have HP9 := kept hp9
            have HR9 := kept hrow9.rd
            have CU9 := kept (CU.out w9 HB9.out)
            clear hp9 hrow9 hb9 CV8 HB8 CU
            go_wp2_with fail
            refine CU9.out.mono ?_
            rintro en w10 ⟨A10, c10, zs, rfl, hp10, hrow10, hb10⟩
            have HB10 := kept (bnx HB9.out hb10)
            have HPE : Kept (ys.map Card.CardM.p = zs.map Card.CardM.p) := ⟨HP9.out.trans hp10.symm⟩
            have hys : ys.length ≤ 25 := by
              have := congrArg List.length HP9.out
              rw [List.length_map] at this
              rw [this]; exact HVL.out
            have CALL := Card.rall_any A9 A10 ys.length zs.length c9 c10 ys zs w10 rfl rfl (Card.RdCards.next HR9.out hb10) hrow10.rd (by omega)
            rw [decide_eq_true HPE.out] at CALL
            have CALL := kept CALL
            clear hp10 hrow10 hb10 CU9 HB9 HP9 HR9 HPE hys
            go_wp2_with fail
            refine CALL.out.mono ?_
            rintro en w11 ⟨rfl, hb11⟩
            have HB11 := kept (bnx HB10.out hb11)
            clear hb11 CALL HB10
            go_wp2_with fail
            refine (CW.out _).mono ?_
            rintro en w12 ⟨rfl, hb12⟩
            have HB12 := kept (bnx HBQ.out (bnx HB11.out hb12))
            clear hb12 HB11
            go_wp2_with fail
            go_ret
            exact ⟨by first | rfl | (simp; omega) | simp [*], HB12.out⟩
end Go.Proofs.YtfkfpanhbanljaaGreat.Past
