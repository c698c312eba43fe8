/- Layer 41 (past): what a set shows, the document's. -/
import Derived.Test.YtfkfpanhbanljaaGreatSetY
import Derived.Test.YtfkfpanhbanljaaGreatSetX
import Derived.Test.YtfkfpanhbanljaaGreatSetW
namespace Go.Proofs.YtfkfpanhbanljaaGreat.View
open Go.RowKit Go.Proofs.YtfkfpanhbanljaaGreat.Mem Go.Proofs.YtfkfpanhbanljaaGreat.Mask Go.Proofs.YtfkfpanhbanljaaGreat.Card Go.Proofs.YtfkfpanhbanljaaGreat.Past Go.Proofs.YtfkfpanhbanljaaGreat.Reg

set_option maxRecDepth 100000 in
set_option maxHeartbeats 4000000 in
theorem rplist_any (X : Option Addr) (rs : List FactM) (c : Nat) (A : Option Addr) (m : List Nat) (cm : Nat) (w : World) (h : RdF w X rs) (hw : AllW m) (hr : Rd w w.heap.size A (WB m)) (hl : rs.length ≤ 25) (hev : ∀ f ∈ rs, f.e.field < 256) (hec : ∀ f ∈ rs, f.e.cid < 18446744073709551616) :
    Calls Tryz.prog 20 #[.slice X rs.length c, .slice A m.length cm] w (GivesV w (viewV (evsM rs (liveM rs m)))) := by
  have hf2 : rs.length ≤ 1024 := by omega
  have CL := rlive_any X rs c A m cm w h hw hr hl
  rw [rlive_live hf2] at CL
  have CL := kept CL
  have HEF : Kept (∀ e ∈ evsM rs (liveM rs m), e.field < 256) := ⟨fun e he => by obtain ⟨f, h1, rfl⟩ := evs_mem hf2 he; exact hev f h1⟩
  have HEC : Kept (∀ e ∈ evsM rs (liveM rs m), e.cid < 18446744073709551616) := ⟨fun e he => by obtain ⟨f, h1, rfl⟩ := evs_mem hf2 he; exact hec f h1⟩
  have HEL : Kept ((evsM rs (liveM rs m)).length ≤ 25) := ⟨Nat.le_trans (evs_length hf2 m) hl⟩
  have HED := kept (revs_evs hf2 m)
  have HLA := kept (live_all rs m)
  have H := kept h
  clear h hw hr hev hec
  generalize liveM rs m = lv at *
  generalize evsM rs lv = ev at *
  go_enter Tryz.func20, Tryz.ntmps20
  go_wp2_with fail
  refine CL.out.mono ?_
  rintro e w1 ⟨B1, c1, rfl, ho1, hc1, hb1⟩
  have HB1 := kept hb1
  have HRL := kept ho1.rd
  clear ho1 CL hb1 hc1
  have H0 : Kept (evE.Own w1 w1.heap.size 38 (.slice none 0 0) [] ∧ Below w1.heap.size w1 w1) := ⟨Elem.Own.nilv _ _ _ _, Below.refl _ _⟩
  go_wp2_with fail
  go_loopw [5, 7] (fun v i wr => ∃ (k : Nat) (D : Option Addr) (cc : Nat) (r : List EvM), k ≤ rs.length ∧ i = .int .i64 (k : Int) ∧ v = .slice D r.length cc ∧ Kept (r.length ≤ k) ∧ Kept (r = revsTo rs lv k) ∧ Kept (evE.Own wr w1.heap.size 38 (.slice D r.length cc) r ∧ Below w1.heap.size w1 wr)) (fun _ i _ => rs.length - (intOf i).toNat)
  case atStart => exact ⟨0, none, 0, [], Nat.zero_le _, rfl, rfl, ⟨Nat.le_refl _⟩, ⟨rfl⟩, H0⟩
  case round =>
    clear H0
    obtain ⟨k, D, cc, r, hk, rfl, rfl, HRB, HRE, HO⟩ := hrel
    rename World => wr
    by_cases hlt : k < rs.length
    · obtain ⟨f, hf3⟩ : ∃ f, rs[k]? = some f := ⟨_, List.getElem?_eq_getElem hlt⟩
      have HBW := kept (bnx HB1.out HO.out.2)
      obtain ⟨bl, o, rfl, hbl, ⟨a0, a1, a2, a3, a4, a5, a6, a7⟩, hak⟩ := (H.out.next HBW.out).spot hf3
      have HNX := kept (revs_next rs lv k)
      have hgd : (rs.getD k default).e = f.e := by simp [List.getD, hf3]
      rw [hgd, ← HRE.out] at HNX
      have CH := rhas_any B1 lv.length c1 lv (k : Int) wr rfl HLA.out.1 (HRL.out.next HO.out.2) (by omega) (by omega)
      have hI : hasI lv (k : Int) = hasN lv k := by simp [hasI]
      rw [hI] at CH
      have CH := kept CH
      have hkn : (k : Int) < (rs.length : Int) := by omega
      have hkn0 : (0 : Int) ≤ (k : Int) := by omega
      obtain ⟨⟨dev, ne, kind, cid, field, text, kA, kn, kc⟩, fA, fm, fc⟩ := f
      obtain ⟨⟨e1, e2, e3⟩, -⟩ := hak
      dsimp only at e1 e2 e3 a0 a1 a2 a3 a4 a5 a6 a7 HNX
      subst e1 e2 e3
      clear hf3 hgd hI HRE
      generalize hasN lv k = hh at *
      cases hh with
      | true =>
        have hbA : Below wr.heap.size wr (wr.alloc (.cells #[.int .u16 (dev : Int), .int .u64 (ne : Int), .int .u8 (kind : Int), .int .u64 (cid : Int), .int .u8 (field : Int), .string text, .slice none 0 0] 38)) := (Below.refl _ _).alloc (Nat.le_refl _) _
        have HO3 := kept (HO.out.1.next hbA)
        have HB3 := kept (bnx HO.out.2 hbA)
        have hrn : evE.Rd (wr.alloc (.cells #[.int .u16 (dev : Int), .int .u64 (ne : Int), .int .u8 (kind : Int), .int .u64 (cid : Int), .int .u8 (field : Int), .string text, .slice none 0 0] 38)) (wr.heap.size + 1) (some ⟨wr.heap.size, 0, none⟩) [⟨dev, ne, kind, cid, field, text, none, 0, 0⟩] := Mem.Rd.new wr [.int .u16 (dev : Int), .int .u64 (ne : Int), .int .u8 (kind : Int), .int .u64 (cid : Int), .int .u8 (field : Int), .string text, .slice none 0 0] 38
        have hz : (r.length + [(⟨dev, ne, kind, cid, field, text, none, 0, 0⟩ : EvM)].length) * 80 ≤ 140737488355328 := by have := HRB.out; rw [List.length_singleton]; omega
        have hbase := HB3.out.size
        clear hbA HO HBW
        go_wp2_with fail
        refine CH.out.mono ?_
        rintro e w3 ⟨rfl, rfl⟩
        go_wp2_with (at_builtin; refine wpl_appE _ evE rfl (.tmp 20) (.tmp 26) 60 rfl w1.heap.size 38 Tryz.underlying60 ev_infoV rfl _ r rfl HO3.out _ _ _ _ [⟨dev, ne, kind, cid, field, text, none, 0, 0⟩] rfl rfl hrn hz (by decide) hbase ?_; intro A9 c9 w9 r9 hr9 hown9 hb9)
        have HRL9 : Kept (r9.length ≤ k + 1) := ⟨by have := HRB.out; rw [hr9.out, List.length_append, List.length_singleton]; omega⟩
        have HRE9 : Kept (r9 = revsTo rs lv (k + 1)) := ⟨by rw [HNX.out, hr9.out]; simp⟩
        have HO9 := kept (And.intro hown9 (HB3.out.trans hb9))
        clear hr9 hown9 hb9 HRB HNX HO3 HB3
        go_roundw
        case rel => exact ⟨k + 1, A9, c9, r9, by omega, by go_num, rfl, HRL9, HRE9, HO9⟩
        case measure => simp [intOf]; omega
      | false =>
        have HRE9 : Kept (r = revsTo rs lv (k + 1)) := ⟨by rw [HNX.out]; simp⟩
        have HRL9 : Kept (r.length ≤ k + 1) := ⟨Nat.le_succ_of_le HRB.out⟩
        clear HRB HNX HBW
        go_wp2_with fail
        refine CH.out.mono ?_
        rintro e w3 ⟨rfl, rfl⟩
        go_wp2_with fail
        go_roundw
        case rel => exact ⟨k + 1, D, cc, r, by omega, by go_num, rfl, HRL9, HRE9, HO⟩
        case measure => simp [intOf]; omega
    · obtain rfl : k = rs.length := by omega
      have HRR : Kept (r = ev) := ⟨HRE.out.trans HED.out⟩
      obtain rfl := HRR.out
      have CV := kept (rvlist_any D r cc wr HO.out.1.rd HEL.out HEF.out HEC.out)
      have HB := kept (bnx HB1.out HO.out.2)
      clear HO HRB HRE HED HRR
      go_wp2_with fail
      refine CV.out.mono ?_
      rintro e w5 ⟨A5, c5, ys, rfl, hp, hrow, hb5⟩
      have HE : Kept (ys.map CardM.p = viewV r ∧ RowV w5 w.heap.size A5 c5 ys ∧ Below w.heap.size w w5) := ⟨hp, ⟨hrow.1.mono HB.out.size, fun y hy => (hrow.2 y hy).mono HB.out.size⟩, bnx HB.out hb5⟩
      clear hp hrow hb5 CV
      go_wp2_with fail
      go_ret
      exact ⟨A5, c5, ys, rfl, HE.out.1, HE.out.2.1, HE.out.2.2⟩
end Go.Proofs.YtfkfpanhbanljaaGreat.View
