/- The laws of layer 37 (act): works, ActWrites, ActReads, ActBack. -/
import Derived.Test.YtmfclekjojninaaActSame
import Derived.Deep.RegionHeld3
import Derived.Deep.DrawnRows
import Derived.Deep.RegionWith
namespace Go.Proofs.Ytmfclekjojninaa.Act
open Go.RowKit Go.Proofs.Ytmfclekjojninaa.Mem Go.Proofs.Ytmfclekjojninaa.Card Go.Proofs.Ytmfclekjojninaa.Pack Go.Proofs.Ytmfclekjojninaa.Num Go.Proofs.Ytmfclekjojninaa.Shift

theorem equal_any (w : World) (B B' : Nat) (A A' : Option Addr) (n m c c' : Nat) (a b : List Nat) (hn : n = a.length) (hm : m = b.length) (ha : AllB a) (hb : AllB b) (h1 : Rd w B A (BB a)) (h2 : Rd w B' A' (BB b)) :
    Calls Try.prog 31 #[.slice A n c, .slice A' m c'] w fun e w' => e = .returned (.bool (decide (a = b))) ∧ w = w' := by
  subst hn hm
  have s1 := run_str w B A _ c a rfl h1
  have s2 := run_str w B' A' _ c' b rfl h2
  have s3 := str_eq ha hb
  go_enter Try.func31, Try.ntmps31
  go_wp2
  go_ret
  exact ⟨rfl, rfl⟩
def takeA : ActM := ⟨9, 0, 0, 0, ⟨#[]⟩, -1, 0, 0⟩
theorem takeA_enc : encM [takeA] = ([1, 1, 9, 1, 1], 0) := by
  have hg : good takeA = true := by decide +kernel
  have hb : encB [takeA] = [1, 1, 9, 1, 1] := by decide +kernel
  unfold encM
  simp [hg, hb]
theorem takeA_ok : takeA.Ok := ⟨by decide, by decide, by decide, by decide, by decide, by decide, by decide, by decide⟩
set_option maxRecDepth 100000 in
theorem works_any (w : World) : Calls Try.prog 28 #[] w fun e w' => e = .returned (.bool true) ∧ Below w.heap.size w w' := by
  have hr := act_one w takeA
  have hb1 := (Below.refl w.heap.size w).alloc (Nat.le_refl _) (.cells takeA.cells.toArray 62)
  have C1 := kept (encode_any _ 1 1 [takeA] (w.alloc (.cells takeA.cells.toArray 62)) rfl (by simpa using hr) (fun x hx => by rcases List.mem_singleton.1 hx with rfl; exact takeA_ok) (by simp))
  rw [takeA_enc] at C1
  have HB := kept hb1
  clear hr hb1
  unfold ActM.cells takeA at C1 HB
  simp only [Int.ofNat_eq_natCast, Int.natCast_zero] at C1 HB
  go_enter Try.func28, Try.ntmps28
  go_wp2_with fail
  refine C1.out.mono ?_
  rintro e w2 ⟨A2, c2, rfl, ho, hc, hb2⟩
  have hb3 := below_next HB.out hb2
  have r3 := ho.rd.alloc (Nat.le_refl _) (.cells #[.int .u8 1, .int .u8 1, .int .u8 9, .int .u8 1, .int .u8 1] 5)
  have r4 : Rd (w2.alloc (.cells #[.int .u8 1, .int .u8 1, .int .u8 9, .int .u8 1, .int .u8 1] 5)) (w2.heap.size + 1) (some ⟨w2.heap.size, 0, none⟩) (BB [1, 1, 9, 1, 1]) := Rd.new w2 [.int .u8 1, .int .u8 1, .int .u8 9, .int .u8 1, .int .u8 1] 5
  have hall : AllB [1, 1, 9, 1, 1] := fun x hx => by simp at hx; omega
  have C4 := kept (equal_any _ _ _ A2 _ _ 5 c2 5 _ _ rfl rfl hall hall r3 r4)
  have HF := kept (below_new hb3 (.cells #[.int .u8 1, .int .u8 1, .int .u8 9, .int .u8 1, .int .u8 1] 5))
  clear r3 r4 ho hb2 hb3
  go_wp2_with fail
  refine C4.out.mono ?_
  rintro e w4 ⟨rfl, rfl⟩
  go_wp2
  go_ret
  exact ⟨rfl, HF.out⟩
set_option maxRecDepth 100000 in
set_option maxHeartbeats 4000000 in
theorem writes_law (B : Option Addr) (d : Nat) (ls : List ActM) (w : World) (r2 : actE.Rd w w.heap.size B ls) (has : ∀ x ∈ ls, x.Ok) (hsz : ls.length ≤ 9223372036854775807) :
    Calls Try.prog 6 #[.slice B ls.length d] w fun e w' => e = .returned (.bool true) ∧ Below w.heap.size w w' := by
  have HAS := kept has
  clear has
  go_enter Try.func6, Try.ntmps6
  go_wp2
  go_loopw [3] (fun i wr => ∃ k : Nat, k ≤ ls.length ∧ i = .int .i64 (k : Int) ∧ Below w.heap.size w wr) (fun i _ => ls.length - (intOf i).toNat)
  case atStart => exact ⟨0, Nat.zero_le _, rfl, Below.refl _ _⟩
  case round =>
    obtain ⟨k, hk, rfl, hb⟩ := hrel
    by_cases hlt : k < ls.length
    · obtain ⟨x, hx⟩ : ∃ x, ls[k]? = some x := ⟨_, List.getElem?_eq_getElem hlt⟩
      have hxo := HAS.out x (List.mem_of_getElem? hx)
      obtain ⟨b, o, rfl, hbb, c0, c1, c2, c3, c4, c5, c6, c7⟩ := act_cells (r2.next hb) hx
      have C1 : Kept (∀ W, Below wr.heap.size wr W → Calls Try.prog 26 #[x.val] W fun e w' => e = .returned (.bool (good x)) ∧ Below wr.heap.size wr w') := ⟨fun W hW => (good_any x W hxo).mono fun e w' h => ⟨h.1, below_next hW h.2⟩⟩
      have C2 : Kept (∀ W, Below wr.heap.size wr W → Calls Try.prog 27 #[x.val] W fun e w' => e = .returned (.bool (good x)) ∧ Below wr.heap.size wr w') := ⟨fun W hW => (xgood_any x W hxo).mono fun e w' h => ⟨h.1, below_next hW h.2⟩⟩
      have HSK : Kept (∀ W, Below wr.heap.size wr W → (W.cell? ⟨b, o + k * 8, none⟩ = some (.int .u8 (x.k : Int)) ∧ W.cell? ⟨b, o + k * 8 + 1, none⟩ = some (.int .u8 (x.who : Int)) ∧ W.cell? ⟨b, o + k * 8 + 2, none⟩ = some (.int .u64 (x.cid : Int)) ∧ W.cell? ⟨b, o + k * 8 + 3, none⟩ = some (.int .u8 (x.f : Int)) ∧
        W.cell? ⟨b, o + k * 8 + 4, none⟩ = some (.string x.t) ∧ W.cell? ⟨b, o + k * 8 + 5, none⟩ = some (.int .i64 x.p) ∧ W.cell? ⟨b, o + k * 8 + 6, none⟩ = some (.int .i64 x.a) ∧ W.cell? ⟨b, o + k * 8 + 7, none⟩ = some (.int .u32 (x.m : Int)))) := ⟨fun W hW => by
          have hc : ∀ j, W.cell? ⟨b, j, none⟩ = wr.cell? ⟨b, j, none⟩ := fun j => hW.cell (p := ⟨b, j, none⟩) hbb
          simp only [hc]
          exact ⟨c0, c1, c2, c3, c4, c5, c6, c7⟩⟩
      unfold ActM.val at C1 C2
      have hi0 : (0 : Int) ≤ (k : Int) := by omega
      have hi1 : (k : Int) < (ls.length : Int) := by omega
      have HB := kept hb
      generalize good x = gb at *
      clear hx hxo hb
      cases gb
      all_goals
        go_wp2_with fail
        go_region_held3 (fun W => W.cell? ⟨b, o + k * 8, none⟩ = some (.int .u8 (x.k : Int)) ∧ W.cell? ⟨b, o + k * 8 + 1, none⟩ = some (.int .u8 (x.who : Int)) ∧ W.cell? ⟨b, o + k * 8 + 2, none⟩ = some (.int .u64 (x.cid : Int)) ∧ W.cell? ⟨b, o + k * 8 + 3, none⟩ = some (.int .u8 (x.f : Int)) ∧
          W.cell? ⟨b, o + k * 8 + 4, none⟩ = some (.string x.t) ∧ W.cell? ⟨b, o + k * 8 + 5, none⟩ = some (.int .i64 x.p) ∧ W.cell? ⟨b, o + k * 8 + 6, none⟩ = some (.int .i64 x.a) ∧ W.cell? ⟨b, o + k * 8 + 7, none⟩ = some (.int .u32 (x.m : Int))) (go_keep) (first
          | (go_at_call 26; refine (C1.out _ ?_).mono ?_; (first | exact hbq | exact Below.refl _ _ | exact (Below.refl _ _).drew); rintro e w' ⟨rfl, hbq⟩; have hs := HSK.out _ hbq)
          | (go_at_call 27; refine (C2.out _ ?_).mono ?_; (first | exact hbq | exact Below.refl _ _ | exact (Below.refl _ _).drew); rintro e w' ⟨rfl, hbq⟩; have hs := HSK.out _ hbq))
        all_goals
          go_wp2
          go_roundw
          case rel => exact ⟨k + 1, by omega, by go_num, below_next HB.out hbq⟩
          case measure => simp [intOf]; omega
    · by_cases hlong : 1100 < ls.length
      · have C := kept (works_any wr)
        go_wp2_with fail
        refine C.out.mono ?_
        rintro e w2 ⟨rfl, hb2⟩
        go_wp2
        go_ret
        exact ⟨rfl, below_next hb hb2⟩
      · have C1 := kept (encode_any B _ d ls wr rfl (r2.next hb) HAS.out hsz)
        have C2 := kept (fun W hW => rencode_any B _ d ls W rfl ((r2.next hb).next hW) HAS.out hsz)
        have hal : AllB (encM ls).1 := by
          unfold encM
          split
          · exact fun x hx => by cases hx
          · split
            · exact encB_all HAS.out
            · exact fun x hx => by cases hx
        have HAL := kept hal
        generalize encM ls = em at *
        obtain ⟨el, ee⟩ := em
        have HB := kept hb
        clear hb hal
        go_wp2_with fail
        refine C1.out.mono ?_
        rintro e w2 ⟨A2, c2, rfl, ho2, hc2, hb2⟩
        have C2' := kept (C2.out _ hb2)
        have HB2 := kept (below_next HB.out hb2)
        have HR2 := kept ho2.rd
        clear ho2 hb2 C2 C1
        go_wp2_with fail
        refine C2'.out.mono ?_
        rintro e w3 ⟨A3, c3, rfl, ho3, hc3, hb3⟩
        have C4 := kept (equal_any w3 _ _ A2 A3 _ _ c2 c3 el el rfl rfl HAL.out HAL.out (HR2.out.next hb3) ho3.rd)
        have HB3 := kept (below_next HB2.out hb3)
        have C5 := kept (works_any w3)
        clear ho3 hb3 C2'
        go_wp2_with fail
        refine C4.out.mono ?_
        rintro e w4 ⟨rfl, rfl⟩
        go_wp2_with fail
        refine C5.out.mono ?_
        rintro e w5 ⟨rfl, hb5⟩
        go_wp2
        go_ret
        exact ⟨rfl, below_next HB3.out hb5⟩
theorem dec_fit {b : List Nat} (hb : AllB b) (hl : b.length ≤ 140737488355328) : (∀ x ∈ (decM b).1, x.Ok) ∧ (decM b).1.length ≤ 1024 := ⟨fun x hx => ((dec_ok hb hl).1 x hx).1, (dec_ok hb hl).2⟩
set_option maxRecDepth 100000 in
set_option maxHeartbeats 4000000 in
theorem reads_law (A : Option Addr) (c : Nat) (l : List Nat) (w : World) (hl : AllB l) (hr : Rd w w.heap.size A (BB l)) (hc : l.length ≤ c) (hcc : c ≤ 140737488351232) :
    Calls Try.prog 7 #[.slice A l.length c] w fun e w' => e = .returned (.bool true) ∧ Below w.heap.size w w' := by
  by_cases hlong : 2000 < l.length
  · have C := kept (works_any w)
    go_enter Try.func7, Try.ntmps7
    go_wp2_with fail
    refine C.out.mono ?_
    rintro e w2 ⟨rfl, hb2⟩
    go_wp2
    go_ret
    exact ⟨rfl, hb2⟩
  · have C1 := kept (decode_any A _ c l w rfl hl hr (by omega))
    have C2 := kept (fun W hW => rdecode_any A _ c l W rfl hl (hr.next hW) hc (by omega))
    obtain ⟨hok, hln⟩ := dec_fit hl (by omega)
    have HOK := kept hok
    generalize decM l = dm at *
    obtain ⟨ml, me⟩ := dm
    dsimp only at hln
    have HL := kept hln
    clear hr hok hln
    go_enter Try.func7, Try.ntmps7
    go_wp2_with fail
    refine C1.out.mono ?_
    rintro e w2 ⟨A2, c2, rfl, ho2, hc2, hb2⟩
    have C2' := kept (C2.out _ hb2)
    have HB2 := kept hb2
    have HR2 := kept ho2.rd
    clear ho2 hb2 C2 C1
    go_wp2_with fail
    refine C2'.out.mono ?_
    rintro e w3 ⟨A3, c3, rfl, ho3, hc3, hb3⟩
    have C4 := kept (same_any A2 A3 _ _ c2 c3 ml ml w3 rfl rfl (HR2.out.next hb3) ho3.rd (by have := HL.out; omega) (by have := HL.out; omega) HOK.out HOK.out)
    rw [decide_eq_true rfl] at C4
    have HB3 := kept (below_next HB2.out hb3)
    clear ho3 hb3 C2'
    go_wp2_with fail
    refine C4.out.mono ?_
    rintro e w4 ⟨rfl, q, rfl⟩
    have C5 := kept (works_any (w3.drewN q))
    go_wp2_with fail
    refine C5.out.mono ?_
    rintro e w5 ⟨rfl, hb5⟩
    go_wp2
    go_ret
    exact ⟨rfl, below_next (HB3.out.trans (below_draw _ _ _)) hb5⟩
set_option maxRecDepth 100000 in
set_option maxHeartbeats 4000000 in
theorem back_law (B A : Option Addr) (d c : Nat) (ls : List ActM) (l : List Nat) (w : World) (r2 : actE.Rd w w.heap.size B ls) (has : ∀ x ∈ ls, x.Ok) (hsz : ls.length ≤ 9223372036854775807) (hl : AllB l) (hr : Rd w w.heap.size A (BB l)) (hc : l.length ≤ c) (hcc : c ≤ 140737488351232) :
    Calls Try.prog 8 #[.slice B ls.length d, .slice A l.length c] w fun e w' => e = .returned (.bool true) ∧ Below w.heap.size w w' := by
  by_cases hlong : 1100 < ls.length ∨ 2000 < l.length
  · have C := kept (works_any w)
    by_cases h1 : 1100 < ls.length
    · clear hlong
      go_enter Try.func8, Try.ntmps8
      go_wp2_with fail
      refine C.out.mono ?_
      rintro e w2 ⟨rfl, hb2⟩
      go_wp2
      go_ret
      exact ⟨rfl, hb2⟩
    · have h2 : 2000 < l.length := by omega
      clear hlong
      go_enter Try.func8, Try.ntmps8
      go_wp2_with fail
      refine C.out.mono ?_
      rintro e w2 ⟨rfl, hb2⟩
      go_wp2
      go_ret
      exact ⟨rfl, hb2⟩
  · have hs1 : ls.length ≤ 1100 := by omega
    have hs2 : l.length ≤ 2000 := by omega
    clear hlong
    have C1 := kept (encode_any B _ d ls w rfl r2 has hsz)
    have HR := kept hr
    have HR2 := kept r2
    have HAS := kept has
    clear hr r2 has
    go_enter Try.func8, Try.ntmps8
    go_wp2_with fail
    refine C1.out.mono ?_
    rintro e w2 ⟨A2, c2, rfl, ho2, hc2, hb2⟩
    have HO2 := kept ho2.rd
    have HB2 := kept hb2
    clear ho2 hb2 C1
    go_upto_if 28 with fail
    go_cut [5, 6] (fun _ _ wx => Below w.heap.size w wx)
    case first =>
      by_cases he : (encM ls).2 = 0
      · obtain ⟨hl1, hgd, hen⟩ : ls.length ≤ 1024 ∧ (∀ x ∈ ls, good x = true) ∧ encM ls = (encB ls, 0) := by
          unfold encM at he ⊢
          split at he
          · cases he
          · rename_i h1
            split at he
            · rename_i h2
              rw [if_neg h1, if_pos h2]
              exact ⟨by omega, List.all_eq_true.1 h2, rfl⟩
            · cases he
        have HDE := kept (dec_enc (fun x hx => ⟨HAS.out x hx, hgd x hx⟩) hl1)
        have hel := encB_length hgd
        have HAB := kept (encB_all HAS.out)
        rw [hen] at HO2 hc2 ⊢
        dsimp only at HO2 hc2 ⊢
        have CD := kept (decode_any A2 _ c2 (encB ls) w2 rfl HAB.out HO2.out (by omega))
        rw [HDE.out] at CD
        clear he hgd hen
        go_wp2_with fail
        refine CD.out.mono ?_
        rintro e w3 ⟨A3, c3, rfl, ho3, hc3, hb3⟩
        have HB3 := kept (below_next HB2.out hb3)
        have CS := kept (same_any B A3 _ _ d c3 ls ls w3 rfl rfl (HR2.out.next HB3.out) ho3.rd (by omega) (by omega) HAS.out HAS.out)
        rw [decide_eq_true rfl] at CS
        clear ho3 hb3 CD
        go_wp2_with fail
        refine CS.out.mono ?_
        rintro e w4 ⟨rfl, q, rfl⟩
        go_wp2
        go_meet
        exact HB3.out.trans (below_draw _ _ _)
      · have hb : (((encM ls).2 : Int) == 0) = false := by rw [beq_eq_false_iff_ne]; omega
        generalize encM ls = em at *
        clear he
        go_wp2
        go_meet
        exact HB2.out
    have HB := kept hcut
    have HRW := kept (HR.out.next hcut)
    have C1 := kept (decode_any A _ c l wc rfl hl HRW.out (by omega))
    obtain ⟨hok, hln⟩ := dec_fit hl (by omega)
    have HED := kept (fun h => enc_dec hl (by omega) h)
    have HOK := kept hok
    clear hcut hok
    generalize decM l = dm at *
    obtain ⟨ml, me⟩ := dm
    dsimp only at hln HED
    clear HO2 HB2 HR
    go_wp2_with fail
    refine C1.out.mono ?_
    rintro e w3 ⟨A3, c3, rfl, ho3, hc3, hb3⟩
    have HO3 := kept ho3.rd
    have HB3 := kept (below_next HB.out hb3)
    have HRW3 := kept (HRW.out.next hb3)
    clear ho3 hb3 C1
    dsimp only at hc3
    go_upto_if 48 with fail
    go_cut [9, 10] (fun _ _ wx => Below w.heap.size w wx)
    case first =>
      by_cases he : me = 0
      · obtain ⟨hl1, hgd, hen⟩ := HED.out he
        subst he
        have hee : encM ml = (l, 0) := by rw [← hen]; exact enc_good (by omega) (fun x hx => (hgd x hx).2)
        have CE := kept (encode_any A3 _ c3 ml w3 rfl HO3.out HOK.out (by omega))
        rw [hee] at CE
        clear hgd hen hee
        go_wp2_with fail
        refine CE.out.mono ?_
        rintro e w4 ⟨A4, c4, rfl, ho4, hc4, hb4⟩
        have HB4 := kept (below_next HB3.out hb4)
        have CQ := kept (equal_any w4 _ _ A4 A _ _ c4 c l l rfl rfl hl hl ho4.rd (HRW3.out.next hb4))
        rw [decide_eq_true rfl] at CQ
        clear ho4 hb4 CE
        go_wp2_with fail
        refine CQ.out.mono ?_
        rintro e w5 ⟨rfl, rfl⟩
        go_wp2
        go_meet
        exact HB4.out
      · have hb : ((me : Int) == 0) = false := by rw [beq_eq_false_iff_ne]; omega
        clear he
        go_wp2
        go_meet
        exact HB3.out
    have HBF := kept hcut
    have C5 := kept (works_any wc)
    clear hcut
    go_wp2_with fail
    refine C5.out.mono ?_
    rintro e w5 ⟨rfl, hb5⟩
    go_wp2
    go_ret
    exact ⟨rfl, below_next HBF.out hb5⟩
end Go.Proofs.Ytmfclekjojninaa.Act
