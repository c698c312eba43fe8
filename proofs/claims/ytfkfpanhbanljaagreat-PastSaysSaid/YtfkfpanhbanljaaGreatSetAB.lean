import Derived.Test.YtfkfpanhbanljaaGreatSetU
import Derived.Test.YtfkfpanhbanljaaGreatAppTwo
import Derived.Deep.QuietTactic
import Derived.BigQuiet
import Derived.Deep.DeepCutAuto
import Derived.Deep.RegionLaw
/- Layer 14 (reg): the line that values make, the program's and the document's. -/
namespace Go.Proofs.YtfkfpanhbanljaaGreat.Reg
open Go.RowKit Go.Proofs.YtfkfpanhbanljaaGreat.Mem Go.Proofs.YtfkfpanhbanljaaGreat.Card Go.Proofs.YtfkfpanhbanljaaGreat.LaidS

def showM (f : Nat) (l : List ValM) : Nat × ByteArray × List ByteArray := if l.isEmpty then (0, ⟨#[]⟩, []) else (f, (winM l).t, moreM l)
/-- a call gives a line -/
def ShowG (w : World) (p : Nat × ByteArray × List ByteArray) (e : Ending) (w' : World) : Prop := ∃ y : LineM, e = .returned y.val ∧ y.p = p ∧ y.Ok w' w'.heap.size ∧ Below w.heap.size w w'
theorem more_le (l : List ValM) : (moreM l).length ≤ l.length := Nat.le_trans (List.length_filter_le _ _) (Nat.le_trans (texts_length _) (Nat.le_of_eq (txt_length l)))
def lZ : List Value := [.int .u8 0, .string ⟨#[]⟩, .slice none 0 0]
set_option maxRecDepth 100000 in
theorem show_any (f : Nat) (A : Option Addr) (l : List ValM) (c : Nat) (w : World) (hf : f < 256) (hr : valE.Rd w w.heap.size A l) (hsz : l.length ≤ 1000000000) :
    Calls Tryz.prog 57 #[.int .u8 (f : Int), .slice A l.length c] w (ShowG w (showM f l)) := by
  have hb0 : Below w.heap.size w (w.alloc (.cells lZ.toArray 92)) := (Below.refl _ _).alloc (Nat.le_refl _) _
  have HK0 : Kept (Blk (w.alloc (.cells lZ.toArray 92)) w.heap.size lZ 92) := ⟨Blk.new w lZ _⟩
  have CW := kept (winner_any A l c _ (hr.next hb0) (by omega))
  have CT := kept (fun (W : World) (hb : Below w.heap.size w W) => texts_any' A l c W (hr.next hb) hsz)
  have HML := kept (more_le l)
  have HS1 : Kept (l.isEmpty = true → showM f l = (0, ⟨#[]⟩, [])) := ⟨fun h => by unfold showM; rw [h]; rfl⟩
  have HS2 : Kept (l.isEmpty = false → showM f l = (f, (winM l).t, moreM l)) := ⟨fun h => by unfold showM; rw [h]; rfl⟩
  have HMM : Kept (moreM l = noT (winM l).t (textsT (txt l))) := ⟨rfl⟩
  have HTL : Kept ((textsT (txt l)).length ≤ 1000000000) := ⟨by have := texts_length (txt l); rw [txt_length] at this; omega⟩
  have HB0 := kept hb0
  clear hr hb0
  generalize l.length = n at *
  generalize l.isEmpty = em at *
  obtain ⟨⟨md, mn, mt⟩, hm⟩ : ∃ m, winM l = m := ⟨_, rfl⟩
  rw [hm] at CW HS2 HMM
  unfold ValM.val at CW
  dsimp only at CW HS2 HMM
  clear hm
  go_enter Tryz.func57, Tryz.ntmps57
  go_wp2_with fail
  refine CW.out.mono ?_
  rintro e w1 ⟨rfl, hb1⟩
  have HB1 := kept (HB0.out.trans (hb1.mono HB0.out.size))
  have HK1 := kept (HK0.out.next hb1)
  clear hb1 CW HK0 HB0
  cases em with
  | true =>
    have HS := kept (HS1.out rfl)
    have hk2 := (HK1.out.alloc (.cells #[.int .u16 (md : Int), .int .u64 (mn : Int), .string mt] 99))
    have HB2 := kept (HB1.out.alloc HB1.out.size (.cells #[.int .u16 (md : Int), .int .u64 (mn : Int), .string mt] 99))
    clear HS1 HS2 HMM CT HTL HML
    go_wp2_with (refine wpl_storeB rfl _ _ _ rfl w.heap.size lZ rfl rfl _ _ hk2 rfl rfl rfl ?_; intro w3 hk3 hu3; have HK3 := kept hk3; have HB3 := kept (HB2.out.trans (hu3.below HB2.out.size fun i _ e => by omega)); clear hk3 hu3)
    exact bodyPost_ret (res_cell_one rfl _ w.heap.size _ lZ _ rfl HK3.out rfl rfl rfl) rfl ⟨⟨0, ⟨#[]⟩, none, [], 0⟩, rfl, HS.out.symm, ⟨Rd.nil, by decide, Nat.le_refl _, Nat.zero_le _⟩, HB3.out⟩
  | false =>
    have HS := kept (HS2.out rfl)
    have hb2 := HB1.out.alloc HB1.out.size (.cells #[.int .u16 (md : Int), .int .u64 (mn : Int), .string mt] 99)
    have HKV : Kept (Blk (w1.alloc (.cells #[.int .u16 (md : Int), .int .u64 (mn : Int), .string mt] 99)) w1.heap.size [.int .u16 (md : Int), .int .u64 (mn : Int), .string mt] 99) := ⟨Blk.new w1 _ _⟩
    have HK2 := kept (HK1.out.alloc (.cells #[.int .u16 (md : Int), .int .u64 (mn : Int), .string mt] 99))
    have CT2 := kept (CT.out _ hb2)
    have HB2 := kept hb2
    clear hb2 CT HK1 HS1 HS2
    go_wp2_with fail
    refine CT2.out.mono ?_
    rintro e w3 ⟨A3, c3, rfl, ho3, -, hb3⟩
    have HKV3 := kept (HKV.out.next hb3)
    have HK3 := kept (HK2.out.next hb3)
    have HB3 := kept (HB2.out.trans (hb3.mono HB2.out.size))
    have hgv := HKV.out.lt
    have hcv : w3.cell? ⟨w1.heap.size, 2, none⟩ = some (.string mt) := HKV3.out.cell (j := 2) rfl
    have CD := kept (sdel_any _ A3 c3 _ mt w1.heap.size w3 ho3 hcv hgv hb3.size HTL.out)
    rw [← HMM.out] at CD
    have HZ3 := kept (And.intro hb3.size (And.intro hgv HK2.out.lt))
    clear ho3 hb3 CT2 HKV HK2 HMM hgv
    go_wp2_with fail
    refine CD.out.mono ?_
    rintro e w4 ⟨A4, c4, rfl, ho4, hb4⟩
    have HO4 := kept ho4
    have hk4 : Blk w4 w.heap.size lZ 92 := HK3.out.below hb4 HZ3.out.2.2
    have hkv4 := HKV3.out.below hb4 HZ3.out.2.1
    have hcv4 : w4.cell? ⟨w1.heap.size, 2, none⟩ = some (.string mt) := hkv4.cell (j := 2) rfl
    have HB4 := kept (HB3.out.trans (hb4.mono (by have h1 := HZ3.out.2.2; have h2 := HB2.out.size; omega)))
    clear ho4 hb4 CD hcv hkv4
    go_wp2_with (refine wpl_storeB rfl _ _ _ rfl w.heap.size [.int .u8 (f : Int), .string mt, .slice A4 (moreM l).length c4] rfl rfl _ _ hk4 rfl rfl rfl ?_; intro w5 hk5 hu5; have HK5 := kept hk5; have HU5 := kept hu5; clear hk5 hu5)
    refine bodyPost_ret (res_cell_one rfl _ w.heap.size _ [.int .u8 (f : Int), .string mt, .slice A4 (moreM l).length c4] _ rfl HK5.out rfl rfl rfl) rfl ⟨⟨f, mt, A4, moreM l, c4⟩, rfl, HS.out.symm, ⟨?_, hf, HO4.out.cap, by have := HML.out; show (moreM l).length ≤ 8796093022208; omega⟩, HB4.out.trans (HU5.out.below HB4.out.size fun i _ e => by omega)⟩
    refine (Rd.updN (strE_rd.1 HO4.out.rd) HU5.out (Nat.le_refl _) fun x hx hn e => ?_).more HU5.out.size
    have h1 := (HO4.out.under x.block (by rw [hx]; rfl)).1
    have h2 := HZ3.out.2.2
    omega
theorem noT_snoc (s : ByteArray) {l : List ByteArray} {j : Nat} {x : ByteArray} (h : l[j]? = some x) : noT s (l.take (j + 1)) = noT s (l.take j) ++ (if isT s x then [] else [x]) := by
  unfold noT
  rw [filter_snoc (fun x => !(isT s x)) h]
  cases isT s x <;> rfl
/-- the document's loop: the line in block g, what stands beside, since w2 -/
def ShSt (w2 W : World) (g f : Nat) (t : ByteArray) (A : Option Addr) (rs : List ByteArray) (c : Nat) : Prop :=
  Upd (fun k => k = g) w2 W ∧ g < w2.heap.size ∧ Blk W g [.int .u8 (f : Int), .string t, .slice A rs.length c] 92 ∧ strE.Own W w2.heap.size 9 (.slice A rs.length c) rs
theorem ShSt.drewN {w2 W : World} {g f : Nat} {t : ByteArray} {A : Option Addr} {rs : List ByteArray} {c : Nat} (h : ShSt w2 W g f t A rs c) (q : Nat) : ShSt w2 (W.drewN q) g f t A rs c := ⟨h.1.drewN q, h.2.1, h.2.2.1, h.2.2.2⟩
theorem ShSt.more {w2 W W3 : World} {g f : Nat} {t : ByteArray} {A A3 : Option Addr} {rs r3 : List ByteArray} {c c3 : Nat} (h : ShSt w2 W g f t A rs c) (ho : strE.Own W3 W.heap.size 9 (.slice A3 r3.length c3) r3) (hb : Below W.heap.size W W3) :
    ShSt w2 (W3.setCell ⟨g, 2, none⟩ (.slice A3 r3.length c3)) g f t A3 r3 c3 := by
  obtain ⟨h1, h2, h3, h4⟩ := h
  have hu : Upd (fun k => k = g) w2 W3 := h1.next hb
  refine ⟨hu.setCell (p := ⟨g, 2, none⟩) (.inl rfl) _, h2, (h3.next hb).set 2 _, ?_⟩
  have h5 : strE.Own W3 w2.heap.size 9 (.slice A3 r3.length c3) r3 := ho.mono h1.size
  exact OwnK.low h5 (p := ⟨g, 2, none⟩) h2 _
set_option maxRecDepth 100000 in
set_option maxHeartbeats 2000000 in
theorem rshow_any (f : Nat) (A : Option Addr) (l : List ValM) (c : Nat) (w : World) (hf : f < 256) (hr : valE.Rd w w.heap.size A l) (hsz : l.length ≤ 1000000000) :
    Calls Tryz.prog 59 #[.int .u8 (f : Int), .slice A l.length c] w (ShowG w (showM f l)) := by
  have hb0 : Below w.heap.size w (w.alloc (.cells lZ.toArray 92)) := (Below.refl _ _).alloc (Nat.le_refl _) _
  have HK0 : Kept (Blk (w.alloc (.cells lZ.toArray 92)) w.heap.size lZ 92) := ⟨Blk.new w lZ _⟩
  have CW := kept (rwinner_any A l c _ (hr.next hb0) (by omega))
  have CT := kept (fun (W : World) (hb : Below w.heap.size w W) => rtexts_any A l c W (hr.next hb) hsz)
  have HML := kept (more_le l)
  have HS1 : Kept (l.isEmpty = true → showM f l = (0, ⟨#[]⟩, [])) := ⟨fun h => by unfold showM; rw [h]; rfl⟩
  have HS2 : Kept (l.isEmpty = false → showM f l = (f, (winM l).t, moreM l)) := ⟨fun h => by unfold showM; rw [h]; rfl⟩
  have HMM : Kept (moreM l = noT (winM l).t (textsT (txt l))) := ⟨rfl⟩
  have HTL : Kept ((textsT (txt l)).length ≤ 1000000000) := ⟨by have := texts_length (txt l); rw [txt_length] at this; omega⟩
  have HB0 := kept hb0
  clear hr hb0
  generalize l.length = n at *
  generalize l.isEmpty = em at *
  obtain ⟨⟨md, mn, mt⟩, hm⟩ : ∃ m, winM l = m := ⟨_, rfl⟩
  rw [hm] at CW HS2 HMM
  unfold ValM.val at CW
  dsimp only at CW HS2 HMM
  clear hm
  go_enter Tryz.func59, Tryz.ntmps59
  go_wp2_with fail
  refine CW.out.mono ?_
  rintro e w1 ⟨rfl, hb1⟩
  have HB1 := kept (HB0.out.trans (hb1.mono HB0.out.size))
  have HK1 := kept (HK0.out.next hb1)
  clear hb1 CW HK0 HB0
  cases em with
  | true =>
    have HS := kept (HS1.out rfl)
    have hk2 := (HK1.out.alloc (.cells #[.int .u16 (md : Int), .int .u64 (mn : Int), .string mt] 99))
    have HB2 := kept (HB1.out.alloc HB1.out.size (.cells #[.int .u16 (md : Int), .int .u64 (mn : Int), .string mt] 99))
    clear HS1 HS2 HMM CT HTL HML
    go_wp2_with (refine wpl_storeB rfl _ _ _ rfl w.heap.size lZ rfl rfl _ _ hk2 rfl rfl rfl ?_; intro w3 hk3 hu3; have HK3 := kept hk3; have HB3 := kept (HB2.out.trans (hu3.below HB2.out.size fun i _ e => by omega)); clear hk3 hu3)
    exact bodyPost_ret (res_cell_one rfl _ w.heap.size _ lZ _ rfl HK3.out rfl rfl rfl) rfl ⟨⟨0, ⟨#[]⟩, none, [], 0⟩, rfl, HS.out.symm, ⟨Rd.nil, by decide, Nat.le_refl _, Nat.zero_le _⟩, HB3.out⟩
  | false =>
    have HS := kept (HS2.out rfl)
    have hb2 := (HB1.out.alloc HB1.out.size (.cells #[.int .u16 (md : Int), .int .u64 (mn : Int), .string mt] 99)).alloc (by have := HB1.out.size; simp; omega) (.cells #[.int .u8 (f : Int), .string mt, .slice none 0 0] 92)
    have HKV : Kept (Blk ((w1.alloc (.cells #[.int .u16 (md : Int), .int .u64 (mn : Int), .string mt] 99)).alloc (.cells #[.int .u8 (f : Int), .string mt, .slice none 0 0] 92)) w1.heap.size [.int .u16 (md : Int), .int .u64 (mn : Int), .string mt] 99) := ⟨(Blk.new w1 _ _).alloc _⟩
    have HKX : Kept (Blk ((w1.alloc (.cells #[.int .u16 (md : Int), .int .u64 (mn : Int), .string mt] 99)).alloc (.cells #[.int .u8 (f : Int), .string mt, .slice none 0 0] 92)) (w1.heap.size + 1) [.int .u8 (f : Int), .string mt, .slice none 0 0] 92) := ⟨Blk.newAt _ _ _ (by simp)⟩
    have HK2 := kept ((HK1.out.alloc (.cells #[.int .u16 (md : Int), .int .u64 (mn : Int), .string mt] 99)).alloc (.cells #[.int .u8 (f : Int), .string mt, .slice none 0 0] 92))
    have CT2 := kept (CT.out _ hb2)
    have HB2 := kept hb2
    have HZ1 := kept HK1.out.lt
    clear hb2 CT HK1 HS1 HS2
    go_wp2_with fail
    refine CT2.out.mono ?_
    rintro e w3 ⟨A3, c3, rfl, ho3, -, hb3⟩
    have HST : Kept (ShSt w3 w3 (w1.heap.size + 1) f mt none [] 0) := ⟨Upd.refl _ _, Nat.lt_of_lt_of_le HKX.out.lt hb3.size, HKX.out.next hb3, Elem.Own.nilv _ _ _ _⟩
    have HKV3 := kept (HKV.out.next hb3)
    have HK3 := kept (HK2.out.next hb3)
    have HB3 := kept (HB2.out.trans (hb3.mono HB2.out.size))
    have HT3 := kept ho3.rd
    have HT4 : Kept (∀ x, A3 = some x → x.block ≠ w1.heap.size + 1) := ⟨fun x hx e => by
      have h1 := (ho3.under x.block (by rw [hx]; rfl)).1
      have h2 := HKX.out.lt
      omega⟩
    generalize textsT (txt l) = ts at *
    generalize w1.heap.size = gv at *
    have htl := HTL.out
    clear ho3 hb3 CT2 HKV HKX HK2 HB2 HB1
    go_wp2_with fail
    go_loopw [9] (fun i wr => ∃ (j : Nat) (rs : List ByteArray) (A' : Option Addr) (c' : Nat), j ≤ ts.length ∧ i = .int .i64 (j : Int) ∧ rs.length ≤ j ∧ Kept (rs = noT mt (ts.take j) ∧ ShSt w3 wr (gv + 1) f mt A' rs c')) (fun i _ => ts.length - (intOf i).toNat)
    case atStart => exact ⟨0, [], none, 0, Nat.zero_le _, rfl, Nat.zero_le _, ⟨rfl, HST.out⟩⟩
    case round =>
      obtain ⟨j, rs, A', c', hj, rfl, hrl, hin⟩ := hrel
      by_cases hlt : j < ts.length
      · obtain ⟨x, hx⟩ : ∃ x, ts[j]? = some x := ⟨_, List.getElem?_eq_getElem hlt⟩
        have hr3 : strE.Rd wr w3.heap.size A3 ts := HT3.out.updN hin.out.2.1 (Nat.le_refl _) fun x hx _ e => HT4.out x hx e
        obtain ⟨b, o, rfl, hbb, c0⟩ := strE_get hr3 hx
        have cv : wr.cell? ⟨gv, 2, none⟩ = some (.string mt) := (HKV3.out.upd hin.out.2.1 (by omega)).cell (j := 2) rfl
        have cx : wr.cell? ⟨gv + 1, 2, none⟩ = some (.slice A' rs.length c') := hin.out.2.2.2.1.cell (j := 2) rfl
        have hjn : (j : Int) < (ts.length : Int) := by omega
        have HSN := kept (noT_snoc mt hx)
        rw [← hin.out.1] at HSN
        have HIN := kept hin.out.2
        have HTD : Kept (isT mt x = (x.toList == mt.toList)) := ⟨rfl⟩
        clear hx hr3 hin
        cases ht : isT mt x with
        | true =>
          have he : (x.toList == mt.toList) = true := by rw [← HTD.out]; exact ht
          have HN : Kept (rs = noT mt (ts.take (j + 1))) := ⟨by rw [HSN.out, ht]; simp⟩
          clear HSN HTD ht
          go_wp2_with fail
          go_quiet (fail)
          go_wp2_with fail
          go_roundw
          case rel => exact ⟨j + 1, rs, A', c', by omega, by go_num, by omega, ⟨HN.out, HIN.out.drewN _⟩⟩
          case measure => simp [intOf]; omega
        | false =>
          have he : (x.toList == mt.toList) = false := by rw [← HTD.out]; exact ht
          have HN : Kept (rs ++ [x] = noT mt (ts.take (j + 1))) := ⟨by rw [HSN.out, ht]; rfl⟩
          clear HSN HTD ht
          go_wp2_with fail
          go_quiet (fail)
          go_upto_region 10 with fail
          have HIQ := kept (HIN.out.drewN nq)
          have c0q : (wr.drewN nq).cell? ⟨b, o + j, none⟩ = some (.string x) := c0
          have cxq : (wr.drewN nq).cell? ⟨gv + 1, 2, none⟩ = some (.slice A' rs.length c') := cx
          have hbq : b < (wr.drewN nq).heap.size := Nat.lt_of_lt_of_le hbb HIN.out.1.size
          clear c0 cx cv HIN
          generalize wr.drewN nq = wq at *
          have hgq : gv + 1 < wq.heap.size := HIQ.out.2.2.1.lt
          have HSB : Kept (∀ W, Below wq.heap.size wq W → W.cell? ⟨b, o + j, none⟩ = some (.string x) ∧ W.cell? ⟨gv + 1, 2, none⟩ = some (.slice A' rs.length c') ∧ W.frozen? ⟨gv + 1, 2, none⟩ = false) :=
            ⟨fun W hb => ⟨(hb.cell (p := ⟨b, o + j, none⟩) hbq).trans c0q, (hb.cell (p := ⟨gv + 1, 2, none⟩) hgq).trans cxq, (hb.frozen (p := ⟨gv + 1, 2, none⟩) hgq).trans (HIQ.out.2.2.1.frozen 2)⟩⟩
          have hR0 : strE.Rd wq wq.heap.size A' rs := HIQ.out.2.2.2.rd
          have O1 := kept (two_o1 strE 9 wq)
          have O2 := kept (two_o2 strE 9 wq (.cells #[.string x] 9))
          have O3 := kept (two_o3 strE 9 wq (.cells #[.string x] 9))
          have R1 := kept (hR0.alloc (Nat.le_refl _) (.cells #[] 9))
          have R2 := kept ((hR0.alloc (Nat.le_refl _) (.cells #[] 9)).alloc (by simp) (.cells #[.string x] 9))
          have R3 := kept ((hR0.alloc (Nat.le_refl _) (.cells #[.string x] 9)).alloc (by simp) (.cells #[] 9))
          have bw0 := Below.refl wq.heap.size wq
          obtain ⟨s1, s1', -⟩ := HSB.out _ (bw0.alloc (Nat.le_refl _) (.cells #[] 9))
          obtain ⟨s2, s2', -⟩ := HSB.out _ (bw0.alloc (Nat.le_refl _) (.cells #[.string x] 9))
          obtain ⟨s3, s3', -⟩ := HSB.out _ ((bw0.alloc (Nat.le_refl _) (.cells #[] 9)).alloc (by simp) (.cells #[.string x] 9))
          obtain ⟨s4, s4', -⟩ := HSB.out _ ((bw0.alloc (Nat.le_refl _) (.cells #[.string x] 9)).alloc (by simp) (.cells #[] 9))
          have hz : (([] : List ByteArray).length + rs.length) * 16 ≤ 140737488355328 := by simp only [List.length_nil]; omega
          have HZ2 : Kept (∀ r2 : List ByteArray, Kept (r2 = [] ++ rs) → (r2.length + [x].length) * 16 ≤ 140737488355328) := ⟨fun r2 h => by rw [h.out, List.nil_append, List.length_singleton]; omega⟩
          clear hR0 bw0
          go_region_law (first
              | (refine step_appEU _ strE (by rfl) (.tmp 37) (.tmp 39) 90 (by rfl) wq.heap.size 9 Tryz.underlying90 str_info (by rfl) _ [] (by rfl) O1.out _ A' _ c' rs (by rfl) rfl R1.out hz (by decide) (by simp) ?_; intro A2 c2 w2 r2 hr2 hown2 hu2 hx2; obtain ⟨HB2, HBA, HOG, HRG, HSA⟩ := two_1 (E := strE) x hown2 hu2; clear hown2 hu2 hx2; have hz2 := HZ2.out r2 hr2; obtain ⟨d2, d2', d2''⟩ := HSB.out w2 HB2)
              | (refine step_appEU _ strE (by rfl) (.tmp 37) (.tmp 39) 90 (by rfl) wq.heap.size 9 Tryz.underlying90 str_info (by rfl) _ [] (by rfl) O2.out _ A' _ c' rs (by rfl) rfl R2.out hz (by decide) (by simp; omega) ?_; intro A2 c2 w2 r2 hr2 hown2 hu2 hx2; obtain ⟨HB2, HRG⟩ := two_2 (E := strE) x hu2; have HBA := HB2; have HOG := hown2; have HSA := HB2.size; clear hu2 hx2; have hz2 := HZ2.out r2 hr2; obtain ⟨d2, d2', d2''⟩ := HSB.out w2 HB2)
              | (refine step_appEU _ strE (by rfl) (.tmp 37) (.tmp 39) 90 (by rfl) wq.heap.size 9 Tryz.underlying90 str_info (by rfl) _ [] (by rfl) O3.out _ A' _ c' rs (by rfl) rfl R3.out hz (by decide) (by simp; omega) ?_; intro A2 c2 w2 r2 hr2 hown2 hu2 hx2; obtain ⟨HB2, HRG⟩ := two_3 (E := strE) x hu2; have HBA := HB2; have HOG := hown2; have HSA := HB2.size; clear hu2 hx2; have hz2 := HZ2.out r2 hr2; obtain ⟨d2, d2', d2''⟩ := HSB.out w2 HB2)
              | (refine step_appEU _ strE (by rfl) (.tmp 40) (.tmp 45) 90 (by rfl) wq.heap.size 9 Tryz.underlying90 str_info (by rfl) _ r2 (by rfl) HOG _ _ _ _ [x] (by rfl) rfl HRG hz2 (by decide) HSA ?_; intro A5 c5 w5 r5 hr5 hown5 hu5 hx5; have HB5 : Below wq.heap.size wq w5 := two_below HBA HOG hu5; obtain ⟨d5, d5', d5''⟩ := HSB.out w5 HB5; have hown5b := hown5; clear hu5 hx5))
          all_goals
            have hr6 : r5 = rs ++ [x] := by rw [hr5.out, hr2.out]; simp
            have hl5 : r5.length ≤ rs.length + 1 := by rw [hr6]; simp
            have HN5 : Kept (r5 = noT mt (ts.take (j + 1)) ∧ ShSt w3 (w5.setCell ⟨gv + 1, 2, none⟩ (.slice A5 r5.length c5)) (gv + 1) f mt A5 r5 c5) := ⟨by rw [hr6, HN.out], HIQ.out.more hown5b HB5⟩
            clear hr6 hr5 hr2
            go_wp2_with fail
          all_goals go_roundw
          all_goals first | exact ⟨j + 1, r5, A5, c5, by omega, by go_num, by omega, HN5⟩ | (simp [intOf]; omega)
      · have hjn : ¬ (j : Int) < (ts.length : Int) := by omega
        have HRS : Kept (rs = moreM l) := ⟨by rw [hin.out.1, List.take_of_length_le (by omega), HMM.out]⟩
        obtain ⟨hu, hg, hkx, hown⟩ := hin.out.2
        have HOW := kept hown
        have hz1 := HZ1.out
        have hkl : Blk wr w.heap.size lZ 92 := HK3.out.upd hu (by omega)
        have hkx' : Blk wr (gv + 1) [.int .u8 (f : Int), .string mt, .slice A' rs.length c'] 92 := hkx
        have HBW := kept (HB3.out.trans (hu.below HB3.out.size fun i _ e => by omega))
        have HZ2 := kept (Nat.lt_of_lt_of_le HK3.out.lt (Nat.le_refl _))
        clear hu hg hkx hown hin
        go_wp2_with (first | (refine wpl_loadB rfl _ _ rfl (gv + 1) rfl _ _ hkx' _ rfl rfl rfl ?_) | (refine wpl_storeB rfl _ _ _ rfl w.heap.size [.int .u8 (f : Int), .string mt, .slice A' rs.length c'] rfl rfl _ _ hkl rfl rfl rfl ?_; intro w5 hk5 hu5; have HK5 := kept hk5; have HU5 := kept hu5; clear hk5 hu5))
        refine bodyPost_ret (res_cell_one rfl _ w.heap.size _ [.int .u8 (f : Int), .string mt, .slice A' rs.length c'] _ rfl HK5.out rfl rfl rfl) rfl ⟨⟨f, mt, A', rs, c'⟩, rfl, by rw [HS.out]; show (f, mt, rs) = _; rw [HRS.out], ⟨?_, hf, HOW.out.cap, by show rs.length ≤ 8796093022208; omega⟩, HBW.out.trans (HU5.out.below HBW.out.size fun i _ e => by omega)⟩
        refine (Rd.updN (strE_rd.1 HOW.out.rd) HU5.out (Nat.le_refl _) fun x hx hn e => ?_).more HU5.out.size
        have h1 := (HOW.out.under x.block (by rw [hx]; rfl)).1
        have h2 := HZ2.out
        omega
end Go.Proofs.YtfkfpanhbanljaaGreat.Reg

/- Layer 19 (view): a line that values make, whose row beside is the call's own. Printed by tools/genvs.py. -/
namespace Go.Proofs.YtfkfpanhbanljaaGreat.Reg
open Go.RowKit Go.Proofs.YtfkfpanhbanljaaGreat.Mem Go.Proofs.YtfkfpanhbanljaaGreat.Card Go.Proofs.YtfkfpanhbanljaaGreat.LaidS

/-- a call gives a line of its own -/
def ShowO (w : World) (p : Nat × ByteArray × List ByteArray) (e : Ending) (w' : World) : Prop := ∃ y : LineM, e = .returned y.val ∧ y.p = p ∧ (y.f < 256 ∧ y.m.length ≤ 8796093022208 ∧ strE.Own w' w.heap.size 9 (.slice y.A y.m.length y.c) y.m) ∧ Below w.heap.size w w'
set_option maxRecDepth 100000 in
theorem vshow_any (f : Nat) (A : Option Addr) (l : List ValM) (c : Nat) (w : World) (hf : f < 256) (hr : valE.Rd w w.heap.size A l) (hsz : l.length ≤ 1000000000) :
    Calls Tryz.prog 57 #[.int .u8 (f : Int), .slice A l.length c] w (ShowO w (showM f l)) := by
  have hb0 : Below w.heap.size w (w.alloc (.cells lZ.toArray 92)) := (Below.refl _ _).alloc (Nat.le_refl _) _
  have HK0 : Kept (Blk (w.alloc (.cells lZ.toArray 92)) w.heap.size lZ 92) := ⟨Blk.new w lZ _⟩
  have CW := kept (winner_any A l c _ (hr.next hb0) (by omega))
  have CT := kept (fun (W : World) (hb : Below w.heap.size w W) => texts_any' A l c W (hr.next hb) hsz)
  have HML := kept (more_le l)
  have HS1 : Kept (l.isEmpty = true → showM f l = (0, ⟨#[]⟩, [])) := ⟨fun h => by unfold showM; rw [h]; rfl⟩
  have HS2 : Kept (l.isEmpty = false → showM f l = (f, (winM l).t, moreM l)) := ⟨fun h => by unfold showM; rw [h]; rfl⟩
  have HMM : Kept (moreM l = noT (winM l).t (textsT (txt l))) := ⟨rfl⟩
  have HTL : Kept ((textsT (txt l)).length ≤ 1000000000) := ⟨by have := texts_length (txt l); rw [txt_length] at this; omega⟩
  have HB0 := kept hb0
  clear hr hb0
  generalize l.length = n at *
  generalize l.isEmpty = em at *
  obtain ⟨⟨md, mn, mt⟩, hm⟩ : ∃ m, winM l = m := ⟨_, rfl⟩
  rw [hm] at CW HS2 HMM
  unfold ValM.val at CW
  dsimp only at CW HS2 HMM
  clear hm
  go_enter Tryz.func57, Tryz.ntmps57
  go_wp2_with fail
  refine CW.out.mono ?_
  rintro e w1 ⟨rfl, hb1⟩
  have HB1 := kept (HB0.out.trans (hb1.mono HB0.out.size))
  have HK1 := kept (HK0.out.next hb1)
  clear hb1 CW HK0 HB0
  cases em with
  | true =>
    have HS := kept (HS1.out rfl)
    have hk2 := (HK1.out.alloc (.cells #[.int .u16 (md : Int), .int .u64 (mn : Int), .string mt] 99))
    have HB2 := kept (HB1.out.alloc HB1.out.size (.cells #[.int .u16 (md : Int), .int .u64 (mn : Int), .string mt] 99))
    clear HS1 HS2 HMM CT HTL HML
    go_wp2_with (refine wpl_storeB rfl _ _ _ rfl w.heap.size lZ rfl rfl _ _ hk2 rfl rfl rfl ?_; intro w3 hk3 hu3; have HK3 := kept hk3; have HB3 := kept (HB2.out.trans (hu3.below HB2.out.size fun i _ e => by omega)); clear hk3 hu3)
    exact bodyPost_ret (res_cell_one rfl _ w.heap.size _ lZ _ rfl HK3.out rfl rfl rfl) rfl ⟨⟨0, ⟨#[]⟩, none, [], 0⟩, rfl, HS.out.symm, ⟨by decide, Nat.zero_le _, Elem.Own.nilv _ _ _ _⟩, HB3.out⟩
  | false =>
    have HS := kept (HS2.out rfl)
    have hb2 := HB1.out.alloc HB1.out.size (.cells #[.int .u16 (md : Int), .int .u64 (mn : Int), .string mt] 99)
    have HKV : Kept (Blk (w1.alloc (.cells #[.int .u16 (md : Int), .int .u64 (mn : Int), .string mt] 99)) w1.heap.size [.int .u16 (md : Int), .int .u64 (mn : Int), .string mt] 99) := ⟨Blk.new w1 _ _⟩
    have HK2 := kept (HK1.out.alloc (.cells #[.int .u16 (md : Int), .int .u64 (mn : Int), .string mt] 99))
    have CT2 := kept (CT.out _ hb2)
    have HB2 := kept hb2
    clear hb2 CT HK1 HS1 HS2
    go_wp2_with fail
    refine CT2.out.mono ?_
    rintro e w3 ⟨A3, c3, rfl, ho3, -, hb3⟩
    have HKV3 := kept (HKV.out.next hb3)
    have HK3 := kept (HK2.out.next hb3)
    have HB3 := kept (HB2.out.trans (hb3.mono HB2.out.size))
    have hgv := HKV.out.lt
    have hcv : w3.cell? ⟨w1.heap.size, 2, none⟩ = some (.string mt) := HKV3.out.cell (j := 2) rfl
    have CD := kept (sdel_any _ A3 c3 _ mt w1.heap.size w3 ho3 hcv hgv hb3.size HTL.out)
    rw [← HMM.out] at CD
    have HZ3 := kept (And.intro hb3.size (And.intro hgv HK2.out.lt))
    clear ho3 hb3 CT2 HKV HK2 HMM hgv
    go_wp2_with fail
    refine CD.out.mono ?_
    rintro e w4 ⟨A4, c4, rfl, ho4, hb4⟩
    have HO4 := kept ho4
    have hk4 : Blk w4 w.heap.size lZ 92 := HK3.out.below hb4 HZ3.out.2.2
    have hkv4 := HKV3.out.below hb4 HZ3.out.2.1
    have hcv4 : w4.cell? ⟨w1.heap.size, 2, none⟩ = some (.string mt) := hkv4.cell (j := 2) rfl
    have HB4 := kept (HB3.out.trans (hb4.mono (by have h1 := HZ3.out.2.2; have h2 := HB2.out.size; omega)))
    clear ho4 hb4 CD hcv hkv4
    go_wp2_with (refine wpl_storeB rfl _ _ _ rfl w.heap.size [.int .u8 (f : Int), .string mt, .slice A4 (moreM l).length c4] rfl rfl _ _ hk4 rfl rfl rfl ?_; intro w5 hk5 hu5; have HK5 := kept hk5; have HU5 := kept hu5; clear hk5 hu5)
    refine bodyPost_ret (res_cell_one rfl _ w.heap.size _ [.int .u8 (f : Int), .string mt, .slice A4 (moreM l).length c4] _ rfl HK5.out rfl rfl rfl) rfl ⟨⟨f, mt, A4, moreM l, c4⟩, rfl, HS.out.symm, ⟨hf, by have := HML.out; show (moreM l).length ≤ 8796093022208; omega, ?_⟩, HB4.out.trans (HU5.out.below HB4.out.size fun i _ e => by omega)⟩
    have ho5 := HO4.out.upd HU5.out fun k hk e => by
      have h1 := (HO4.out.under k hk).1
      have h2 := HZ3.out.2.2
      have h3 := HZ3.out.2.1
      omega
    exact ho5.mono (by have h2 := HZ3.out.2.2; have h3 := HB2.out.size; omega)
set_option maxRecDepth 100000 in
set_option maxHeartbeats 2000000 in
theorem vrshow_any (f : Nat) (A : Option Addr) (l : List ValM) (c : Nat) (w : World) (hf : f < 256) (hr : valE.Rd w w.heap.size A l) (hsz : l.length ≤ 1000000000) :
    Calls Tryz.prog 59 #[.int .u8 (f : Int), .slice A l.length c] w (ShowO w (showM f l)) := by
  have hb0 : Below w.heap.size w (w.alloc (.cells lZ.toArray 92)) := (Below.refl _ _).alloc (Nat.le_refl _) _
  have HK0 : Kept (Blk (w.alloc (.cells lZ.toArray 92)) w.heap.size lZ 92) := ⟨Blk.new w lZ _⟩
  have CW := kept (rwinner_any A l c _ (hr.next hb0) (by omega))
  have CT := kept (fun (W : World) (hb : Below w.heap.size w W) => rtexts_any A l c W (hr.next hb) hsz)
  have HML := kept (more_le l)
  have HS1 : Kept (l.isEmpty = true → showM f l = (0, ⟨#[]⟩, [])) := ⟨fun h => by unfold showM; rw [h]; rfl⟩
  have HS2 : Kept (l.isEmpty = false → showM f l = (f, (winM l).t, moreM l)) := ⟨fun h => by unfold showM; rw [h]; rfl⟩
  have HMM : Kept (moreM l = noT (winM l).t (textsT (txt l))) := ⟨rfl⟩
  have HTL : Kept ((textsT (txt l)).length ≤ 1000000000) := ⟨by have := texts_length (txt l); rw [txt_length] at this; omega⟩
  have HB0 := kept hb0
  clear hr hb0
  generalize l.length = n at *
  generalize l.isEmpty = em at *
  obtain ⟨⟨md, mn, mt⟩, hm⟩ : ∃ m, winM l = m := ⟨_, rfl⟩
  rw [hm] at CW HS2 HMM
  unfold ValM.val at CW
  dsimp only at CW HS2 HMM
  clear hm
  go_enter Tryz.func59, Tryz.ntmps59
  go_wp2_with fail
  refine CW.out.mono ?_
  rintro e w1 ⟨rfl, hb1⟩
  have HB1 := kept (HB0.out.trans (hb1.mono HB0.out.size))
  have HK1 := kept (HK0.out.next hb1)
  clear hb1 CW HK0 HB0
  cases em with
  | true =>
    have HS := kept (HS1.out rfl)
    have hk2 := (HK1.out.alloc (.cells #[.int .u16 (md : Int), .int .u64 (mn : Int), .string mt] 99))
    have HB2 := kept (HB1.out.alloc HB1.out.size (.cells #[.int .u16 (md : Int), .int .u64 (mn : Int), .string mt] 99))
    clear HS1 HS2 HMM CT HTL HML
    go_wp2_with (refine wpl_storeB rfl _ _ _ rfl w.heap.size lZ rfl rfl _ _ hk2 rfl rfl rfl ?_; intro w3 hk3 hu3; have HK3 := kept hk3; have HB3 := kept (HB2.out.trans (hu3.below HB2.out.size fun i _ e => by omega)); clear hk3 hu3)
    exact bodyPost_ret (res_cell_one rfl _ w.heap.size _ lZ _ rfl HK3.out rfl rfl rfl) rfl ⟨⟨0, ⟨#[]⟩, none, [], 0⟩, rfl, HS.out.symm, ⟨by decide, Nat.zero_le _, Elem.Own.nilv _ _ _ _⟩, HB3.out⟩
  | false =>
    have HS := kept (HS2.out rfl)
    have hb2 := (HB1.out.alloc HB1.out.size (.cells #[.int .u16 (md : Int), .int .u64 (mn : Int), .string mt] 99)).alloc (by have := HB1.out.size; simp; omega) (.cells #[.int .u8 (f : Int), .string mt, .slice none 0 0] 92)
    have HKV : Kept (Blk ((w1.alloc (.cells #[.int .u16 (md : Int), .int .u64 (mn : Int), .string mt] 99)).alloc (.cells #[.int .u8 (f : Int), .string mt, .slice none 0 0] 92)) w1.heap.size [.int .u16 (md : Int), .int .u64 (mn : Int), .string mt] 99) := ⟨(Blk.new w1 _ _).alloc _⟩
    have HKX : Kept (Blk ((w1.alloc (.cells #[.int .u16 (md : Int), .int .u64 (mn : Int), .string mt] 99)).alloc (.cells #[.int .u8 (f : Int), .string mt, .slice none 0 0] 92)) (w1.heap.size + 1) [.int .u8 (f : Int), .string mt, .slice none 0 0] 92) := ⟨Blk.newAt _ _ _ (by simp)⟩
    have HK2 := kept ((HK1.out.alloc (.cells #[.int .u16 (md : Int), .int .u64 (mn : Int), .string mt] 99)).alloc (.cells #[.int .u8 (f : Int), .string mt, .slice none 0 0] 92))
    have CT2 := kept (CT.out _ hb2)
    have HB2 := kept hb2
    have HZ1 := kept HK1.out.lt
    clear hb2 CT HK1 HS1 HS2
    go_wp2_with fail
    refine CT2.out.mono ?_
    rintro e w3 ⟨A3, c3, rfl, ho3, -, hb3⟩
    have HST : Kept (ShSt w3 w3 (w1.heap.size + 1) f mt none [] 0) := ⟨Upd.refl _ _, Nat.lt_of_lt_of_le HKX.out.lt hb3.size, HKX.out.next hb3, Elem.Own.nilv _ _ _ _⟩
    have HKV3 := kept (HKV.out.next hb3)
    have HK3 := kept (HK2.out.next hb3)
    have HB3 := kept (HB2.out.trans (hb3.mono HB2.out.size))
    have HT3 := kept ho3.rd
    have HT4 : Kept (∀ x, A3 = some x → x.block ≠ w1.heap.size + 1) := ⟨fun x hx e => by
      have h1 := (ho3.under x.block (by rw [hx]; rfl)).1
      have h2 := HKX.out.lt
      omega⟩
    generalize textsT (txt l) = ts at *
    generalize w1.heap.size = gv at *
    have htl := HTL.out
    clear ho3 hb3 CT2 HKV HKX HK2 HB2 HB1
    go_wp2_with fail
    go_loopw [9] (fun i wr => ∃ (j : Nat) (rs : List ByteArray) (A' : Option Addr) (c' : Nat), j ≤ ts.length ∧ i = .int .i64 (j : Int) ∧ rs.length ≤ j ∧ Kept (rs = noT mt (ts.take j) ∧ ShSt w3 wr (gv + 1) f mt A' rs c')) (fun i _ => ts.length - (intOf i).toNat)
    case atStart => exact ⟨0, [], none, 0, Nat.zero_le _, rfl, Nat.zero_le _, ⟨rfl, HST.out⟩⟩
    case round =>
      obtain ⟨j, rs, A', c', hj, rfl, hrl, hin⟩ := hrel
      by_cases hlt : j < ts.length
      · obtain ⟨x, hx⟩ : ∃ x, ts[j]? = some x := ⟨_, List.getElem?_eq_getElem hlt⟩
        have hr3 : strE.Rd wr w3.heap.size A3 ts := HT3.out.updN hin.out.2.1 (Nat.le_refl _) fun x hx _ e => HT4.out x hx e
        obtain ⟨b, o, rfl, hbb, c0⟩ := strE_get hr3 hx
        have cv : wr.cell? ⟨gv, 2, none⟩ = some (.string mt) := (HKV3.out.upd hin.out.2.1 (by omega)).cell (j := 2) rfl
        have cx : wr.cell? ⟨gv + 1, 2, none⟩ = some (.slice A' rs.length c') := hin.out.2.2.2.1.cell (j := 2) rfl
        have hjn : (j : Int) < (ts.length : Int) := by omega
        have HSN := kept (noT_snoc mt hx)
        rw [← hin.out.1] at HSN
        have HIN := kept hin.out.2
        have HTD : Kept (isT mt x = (x.toList == mt.toList)) := ⟨rfl⟩
        clear hx hr3 hin
        cases ht : isT mt x with
        | true =>
          have he : (x.toList == mt.toList) = true := by rw [← HTD.out]; exact ht
          have HN : Kept (rs = noT mt (ts.take (j + 1))) := ⟨by rw [HSN.out, ht]; simp⟩
          clear HSN HTD ht
          go_wp2_with fail
          go_quiet (fail)
          go_wp2_with fail
          go_roundw
          case rel => exact ⟨j + 1, rs, A', c', by omega, by go_num, by omega, ⟨HN.out, HIN.out.drewN _⟩⟩
          case measure => simp [intOf]; omega
        | false =>
          have he : (x.toList == mt.toList) = false := by rw [← HTD.out]; exact ht
          have HN : Kept (rs ++ [x] = noT mt (ts.take (j + 1))) := ⟨by rw [HSN.out, ht]; rfl⟩
          clear HSN HTD ht
          go_wp2_with fail
          go_quiet (fail)
          go_upto_region 10 with fail
          have HIQ := kept (HIN.out.drewN nq)
          have c0q : (wr.drewN nq).cell? ⟨b, o + j, none⟩ = some (.string x) := c0
          have cxq : (wr.drewN nq).cell? ⟨gv + 1, 2, none⟩ = some (.slice A' rs.length c') := cx
          have hbq : b < (wr.drewN nq).heap.size := Nat.lt_of_lt_of_le hbb HIN.out.1.size
          clear c0 cx cv HIN
          generalize wr.drewN nq = wq at *
          have hgq : gv + 1 < wq.heap.size := HIQ.out.2.2.1.lt
          have HSB : Kept (∀ W, Below wq.heap.size wq W → W.cell? ⟨b, o + j, none⟩ = some (.string x) ∧ W.cell? ⟨gv + 1, 2, none⟩ = some (.slice A' rs.length c') ∧ W.frozen? ⟨gv + 1, 2, none⟩ = false) :=
            ⟨fun W hb => ⟨(hb.cell (p := ⟨b, o + j, none⟩) hbq).trans c0q, (hb.cell (p := ⟨gv + 1, 2, none⟩) hgq).trans cxq, (hb.frozen (p := ⟨gv + 1, 2, none⟩) hgq).trans (HIQ.out.2.2.1.frozen 2)⟩⟩
          have hR0 : strE.Rd wq wq.heap.size A' rs := HIQ.out.2.2.2.rd
          have O1 := kept (two_o1 strE 9 wq)
          have O2 := kept (two_o2 strE 9 wq (.cells #[.string x] 9))
          have O3 := kept (two_o3 strE 9 wq (.cells #[.string x] 9))
          have R1 := kept (hR0.alloc (Nat.le_refl _) (.cells #[] 9))
          have R2 := kept ((hR0.alloc (Nat.le_refl _) (.cells #[] 9)).alloc (by simp) (.cells #[.string x] 9))
          have R3 := kept ((hR0.alloc (Nat.le_refl _) (.cells #[.string x] 9)).alloc (by simp) (.cells #[] 9))
          have bw0 := Below.refl wq.heap.size wq
          obtain ⟨s1, s1', -⟩ := HSB.out _ (bw0.alloc (Nat.le_refl _) (.cells #[] 9))
          obtain ⟨s2, s2', -⟩ := HSB.out _ (bw0.alloc (Nat.le_refl _) (.cells #[.string x] 9))
          obtain ⟨s3, s3', -⟩ := HSB.out _ ((bw0.alloc (Nat.le_refl _) (.cells #[] 9)).alloc (by simp) (.cells #[.string x] 9))
          obtain ⟨s4, s4', -⟩ := HSB.out _ ((bw0.alloc (Nat.le_refl _) (.cells #[.string x] 9)).alloc (by simp) (.cells #[] 9))
          have hz : (([] : List ByteArray).length + rs.length) * 16 ≤ 140737488355328 := by simp only [List.length_nil]; omega
          have HZ2 : Kept (∀ r2 : List ByteArray, Kept (r2 = [] ++ rs) → (r2.length + [x].length) * 16 ≤ 140737488355328) := ⟨fun r2 h => by rw [h.out, List.nil_append, List.length_singleton]; omega⟩
          clear hR0 bw0
          go_region_law (first
              | (refine step_appEU _ strE (by rfl) (.tmp 37) (.tmp 39) 90 (by rfl) wq.heap.size 9 Tryz.underlying90 str_info (by rfl) _ [] (by rfl) O1.out _ A' _ c' rs (by rfl) rfl R1.out hz (by decide) (by simp) ?_; intro A2 c2 w2 r2 hr2 hown2 hu2 hx2; obtain ⟨HB2, HBA, HOG, HRG, HSA⟩ := two_1 (E := strE) x hown2 hu2; clear hown2 hu2 hx2; have hz2 := HZ2.out r2 hr2; obtain ⟨d2, d2', d2''⟩ := HSB.out w2 HB2)
              | (refine step_appEU _ strE (by rfl) (.tmp 37) (.tmp 39) 90 (by rfl) wq.heap.size 9 Tryz.underlying90 str_info (by rfl) _ [] (by rfl) O2.out _ A' _ c' rs (by rfl) rfl R2.out hz (by decide) (by simp; omega) ?_; intro A2 c2 w2 r2 hr2 hown2 hu2 hx2; obtain ⟨HB2, HRG⟩ := two_2 (E := strE) x hu2; have HBA := HB2; have HOG := hown2; have HSA := HB2.size; clear hu2 hx2; have hz2 := HZ2.out r2 hr2; obtain ⟨d2, d2', d2''⟩ := HSB.out w2 HB2)
              | (refine step_appEU _ strE (by rfl) (.tmp 37) (.tmp 39) 90 (by rfl) wq.heap.size 9 Tryz.underlying90 str_info (by rfl) _ [] (by rfl) O3.out _ A' _ c' rs (by rfl) rfl R3.out hz (by decide) (by simp; omega) ?_; intro A2 c2 w2 r2 hr2 hown2 hu2 hx2; obtain ⟨HB2, HRG⟩ := two_3 (E := strE) x hu2; have HBA := HB2; have HOG := hown2; have HSA := HB2.size; clear hu2 hx2; have hz2 := HZ2.out r2 hr2; obtain ⟨d2, d2', d2''⟩ := HSB.out w2 HB2)
              | (refine step_appEU _ strE (by rfl) (.tmp 40) (.tmp 45) 90 (by rfl) wq.heap.size 9 Tryz.underlying90 str_info (by rfl) _ r2 (by rfl) HOG _ _ _ _ [x] (by rfl) rfl HRG hz2 (by decide) HSA ?_; intro A5 c5 w5 r5 hr5 hown5 hu5 hx5; have HB5 : Below wq.heap.size wq w5 := two_below HBA HOG hu5; obtain ⟨d5, d5', d5''⟩ := HSB.out w5 HB5; have hown5b := hown5; clear hu5 hx5))
          all_goals
            have hr6 : r5 = rs ++ [x] := by rw [hr5.out, hr2.out]; simp
            have hl5 : r5.length ≤ rs.length + 1 := by rw [hr6]; simp
            have HN5 : Kept (r5 = noT mt (ts.take (j + 1)) ∧ ShSt w3 (w5.setCell ⟨gv + 1, 2, none⟩ (.slice A5 r5.length c5)) (gv + 1) f mt A5 r5 c5) := ⟨by rw [hr6, HN.out], HIQ.out.more hown5b HB5⟩
            clear hr6 hr5 hr2
            go_wp2_with fail
          all_goals go_roundw
          all_goals first | exact ⟨j + 1, r5, A5, c5, by omega, by go_num, by omega, HN5⟩ | (simp [intOf]; omega)
      · have hjn : ¬ (j : Int) < (ts.length : Int) := by omega
        have HRS : Kept (rs = moreM l) := ⟨by rw [hin.out.1, List.take_of_length_le (by omega), HMM.out]⟩
        obtain ⟨hu, hg, hkx, hown⟩ := hin.out.2
        have HOW := kept hown
        have hz1 := HZ1.out
        have hkl : Blk wr w.heap.size lZ 92 := HK3.out.upd hu (by omega)
        have hkx' : Blk wr (gv + 1) [.int .u8 (f : Int), .string mt, .slice A' rs.length c'] 92 := hkx
        have HBW := kept (HB3.out.trans (hu.below HB3.out.size fun i _ e => by omega))
        have HZ2 := kept (Nat.lt_of_lt_of_le HK3.out.lt (Nat.le_refl _))
        clear hu hg hkx hown hin
        go_wp2_with (first | (refine wpl_loadB rfl _ _ rfl (gv + 1) rfl _ _ hkx' _ rfl rfl rfl ?_) | (refine wpl_storeB rfl _ _ _ rfl w.heap.size [.int .u8 (f : Int), .string mt, .slice A' rs.length c'] rfl rfl _ _ hkl rfl rfl rfl ?_; intro w5 hk5 hu5; have HK5 := kept hk5; have HU5 := kept hu5; clear hk5 hu5))
        refine bodyPost_ret (res_cell_one rfl _ w.heap.size _ [.int .u8 (f : Int), .string mt, .slice A' rs.length c'] _ rfl HK5.out rfl rfl rfl) rfl ⟨⟨f, mt, A', rs, c'⟩, rfl, by rw [HS.out]; show (f, mt, rs) = _; rw [HRS.out], ⟨hf, by show rs.length ≤ 8796093022208; omega, ?_⟩, HBW.out.trans (HU5.out.below HBW.out.size fun i _ e => by omega)⟩
        have ho5 := HOW.out.upd HU5.out fun k hk e => by
          have h1 := (HOW.out.under k hk).1
          have h2 := HZ2.out
          omega
        exact ho5.mono (Nat.le_of_lt HZ2.out)
end Go.Proofs.YtfkfpanhbanljaaGreat.Reg
