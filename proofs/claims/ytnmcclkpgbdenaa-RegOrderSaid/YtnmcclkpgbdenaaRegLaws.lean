/- Layer 14 (reg): the laws RegShows, RegOrder. -/
import Derived.Test.YtnmcclkpgbdenaaRegShow
import Derived.KernelRfl
namespace Go.Proofs.Ytnmcclkpgbdenaa.Reg
open Go.RowKit Go.Proofs.Ytnmcclkpgbdenaa.Mem Go.Proofs.Ytnmcclkpgbdenaa.Card Go.Proofs.Ytnmcclkpgbdenaa.LaidS

def exV : List ValM := [⟨1, 2, ⟨#[97]⟩⟩, ⟨2, 2, ⟨#[98]⟩⟩, ⟨1, 1, ⟨#[97]⟩⟩]
theorem ex_show : showM 3 exV = (3, ⟨#[98]⟩, [⟨#[97]⟩]) := by
  have h : moreM exV = noT (winM exV).t (putAll (txt exV)) := by rw [← texts_eq]; rfl
  have h2 : showM 3 exV = (3, (winM exV).t, moreM exV) := rfl
  rw [h2, h]
  exact of_decide_eq_true (by kernel_rfl)
theorem lines_one {w : World} {g : Nat} {y : LineM} {B : Nat} (hk : Blk w g y.cells 41) (hg : g < B) (hok : y.Ok w B) : RdLines w B (some ⟨g, 0, none⟩) [y] := by
  refine ⟨fun _ => ⟨g, 0, rfl, hg, fun j u hu => ?_⟩, fun x hx => by rw [List.mem_singleton.1 hx]; exact hok⟩
  rw [Nat.zero_add]
  refine hk.cell ?_
  have e : LB [y] = y.cells := by unfold LB; rw [List.flatMap_singleton]
  rwa [e] at hu
set_option maxRecDepth 100000 in
theorem works_any (w : World) : Calls Try.prog 19 #[] w fun e w' => e = .returned (.bool true) ∧ Below w.heap.size w w' := by
  have hb0 : Below w.heap.size w (w.alloc (.cells (valE.cells exV).toArray 48)) := (Below.refl _ _).alloc (Nat.le_refl _) _
  have hr0 : valE.Rd (w.alloc (.cells (valE.cells exV).toArray 48)) (w.alloc (.cells (valE.cells exV).toArray 48)).heap.size (some ⟨w.heap.size, 0, none⟩) exV := (Rd.new w (valE.cells exV) 48).more (by simp)
  have CS := kept (show_any 3 (some ⟨w.heap.size, 0, none⟩) exV 3 _ (by decide) hr0 (by decide))
  rw [ex_show] at CS
  have HB0 := kept hb0
  clear hr0 hb0
  go_enter Try.func19, Try.ntmps19
  go_wp2_with fail
  refine CS.out.mono ?_
  rintro e w1 ⟨⟨yf, yt, yA, ym, yc⟩, rfl, hp, hok, hb1⟩
  obtain ⟨rfl, rfl, rfl⟩ : yf = 3 ∧ yt = ⟨#[98]⟩ ∧ ym = [⟨#[97]⟩] := by
    simp only [LineM.p, Prod.mk.injEq] at hp
    exact hp
  have HB1 := kept (HB0.out.trans (hb1.mono HB0.out.size))
  have hb2 : Below w1.heap.size w1 ((w1.alloc (.cells #[.int .u8 3, .string ⟨#[98]⟩, .slice yA 1 yc] 41)).alloc (.cells #[.string ⟨#[97]⟩] 9)) := ((Below.refl _ _).alloc (Nat.le_refl _) _).alloc (by simp) _
  have CT := kept (texts_any _ _ yA (some ⟨w1.heap.size + 1, 0, none⟩) 1 1 yc 1 [⟨#[97]⟩] [⟨#[97]⟩] ((w1.alloc (.cells #[.int .u8 3, .string ⟨#[98]⟩, .slice yA 1 yc] 41)).alloc (.cells #[.string ⟨#[97]⟩] 9)) rfl rfl (hok.1.next hb2) (Rd.newAt (B := w1.heap.size + 2) _ [.string ⟨#[97]⟩] 9 (by simp) (by omega)) (by decide))
  rw [decide_eq_true rfl] at CT
  have HB2 := kept (HB1.out.trans (hb2.mono HB1.out.size))
  clear hp hok hb1 hb2 CS HB0
  unfold LineM.val
  dsimp only
  go_wp2_with fail
  refine CT.out.mono ?_
  rintro e w2 ⟨rfl, q, rfl⟩
  have HB3 := kept (HB2.out.trans (below_draw w.heap.size _ q))
  go_wp2_with fail
  go_ret
  exact ⟨rfl, HB3.out⟩
set_option maxRecDepth 100000 in
set_option maxHeartbeats 1000000 in
theorem shows_law (f : Nat) (A : Option Addr) (l : List ValM) (c : Nat) (w : World) (hf : f < 256) (hr : valE.Rd w w.heap.size A l) :
    Calls Try.prog 5 #[.int .u8 (f : Int), .slice A l.length c] w fun e w' => e = .returned (.bool true) ∧ Below w.heap.size w w' := by
  have CW := kept (fun W => works_any W)
  by_cases hbig : 100 < l.length
  · clear hr
    generalize l.length = N at *
    go_enter Try.func5, Try.ntmps5
    go_wp2_with fail
    refine (CW.out _).mono ?_
    rintro en w2 ⟨rfl, hb2⟩
    go_wp2
    go_ret
    exact ⟨rfl, hb2⟩
  have h100 : l.length ≤ 100 := by omega
  have C1 := kept (winner_any A l c w hr (by omega))
  have C2 := kept (fun (W : World) (hb : Below w.heap.size w W) => rwinner_any A l c W (hr.next hb) (by omega))
  have C3 := kept (fun (W : World) (hb : Below w.heap.size w W) => texts_any' A l c W (hr.next hb) (by omega))
  have C4 := kept (fun (W : World) (hb : Below w.heap.size w W) => rtexts_any A l c W (hr.next hb) (by omega))
  have C5 := kept (fun (W : World) (hb : Below w.heap.size w W) => show_any f A l c W hf (hr.next hb) (by omega))
  have C6 := kept (fun (W : World) (hb : Below w.heap.size w W) => rshow_any f A l c W hf (hr.next hb) (by omega))
  have hl := kept (texts_length (txt l))
  clear hr hbig
  generalize showM f l = p at *
  generalize textsT (txt l) = ts at *
  generalize winM l = m at *
  generalize (!l.isEmpty) = u at *
  rw [txt_length] at hl
  generalize l.length = N at *
  obtain ⟨md, mn, mt⟩ := m
  unfold ValM.val at C1 C2
  dsimp only at C1 C2
  go_enter Try.func5, Try.ntmps5
  go_wp2_with fail
  refine C1.out.mono ?_
  rintro e w1 ⟨rfl, hb1⟩
  have hb2 := hb1.alloc hb1.size (.cells #[.int .u16 (md : Int), .int .u64 (mn : Int), .string mt] 48)
  have C2' := kept (C2.out _ hb2)
  have HB2 := kept hb2
  clear hb1 hb2 C1 C2
  go_wp2_with fail
  refine C2'.out.mono ?_
  rintro e w3 ⟨rfl, hb3⟩
  have hb4 := (HB2.out.trans (hb3.mono HB2.out.size)).alloc (Nat.le_trans HB2.out.size hb3.size) (.cells #[.int .u16 (md : Int), .int .u64 (mn : Int), .string mt] 48)
  have z0 : w3.cell? ⟨w1.heap.size, 0, none⟩ = some (.int .u16 (md : Int)) := ((Blk.new w1 [.int .u16 (md : Int), .int .u64 (mn : Int), .string mt] 48).next hb3).cell (j := 0) rfl
  have z1 : w3.cell? ⟨w1.heap.size, 1, none⟩ = some (.int .u64 (mn : Int)) := ((Blk.new w1 [.int .u16 (md : Int), .int .u64 (mn : Int), .string mt] 48).next hb3).cell (j := 1) rfl
  have z2 : w3.cell? ⟨w1.heap.size, 2, none⟩ = some (.string mt) := ((Blk.new w1 [.int .u16 (md : Int), .int .u64 (mn : Int), .string mt] 48).next hb3).cell (j := 2) rfl
  have hzl : w1.heap.size < w3.heap.size := ((Blk.new w1 [.int .u16 (md : Int), .int .u64 (mn : Int), .string mt] 48).next hb3).lt
  have C3' := kept (C3.out _ hb4)
  have HB4 := kept hb4
  clear hb3 hb4 C2' C3 HB2
  go_wp2_with fail
  refine C3'.out.mono ?_
  rintro e w5 ⟨A5, c5, rfl, ho5, -, hb5⟩
  have hb5w := HB4.out.trans (hb5.mono HB4.out.size)
  have C4' := kept (C4.out _ hb5w)
  have HR5 := kept ho5.rd
  have HB5 := kept hb5w
  clear ho5 hb5 hb5w C3' C4 HB4 z0 z1 z2 hzl
  go_wp2_with fail
  refine C4'.out.mono ?_
  rintro e w6 ⟨A6, c6, rfl, ho6, -, hb6⟩
  have CT := kept (texts_any _ _ A5 A6 _ _ c5 c6 ts ts w6 rfl rfl (strE_rd.1 (HR5.out.next hb6)) (strE_rd.1 ho6.rd) (by have := hl.out; omega))
  rw [decide_eq_true rfl] at CT
  have HB6 := kept (HB5.out.trans (hb6.mono HB5.out.size))
  clear ho6 hb6 C4' HR5 HB5
  go_wp2_with fail
  refine CT.out.mono ?_
  rintro e w7 ⟨rfl, q, rfl⟩
  have hb7 := HB6.out.trans (below_draw w.heap.size w6 q)
  have C5' := kept (C5.out _ hb7)
  have HB7 := kept hb7
  clear hb7 CT C5 HB6
  generalize w6.drewN q = w7 at *
  go_wp2_with fail
  refine C5'.out.mono ?_
  rintro e w8 ⟨y, rfl, hy, hok8, hb8⟩
  have hb9 := (HB7.out.trans (hb8.mono HB7.out.size)).alloc (Nat.le_trans HB7.out.size hb8.size) (.cells y.cells.toArray 41)
  have C6' := kept (C6.out _ hb9)
  have HB9 := kept hb9
  have HY := kept (And.intro hy hok8)
  obtain ⟨yf, yt, yA, ym, yc⟩ := y
  clear hy hok8 hb8 hb9 C5' C6 HB7
  unfold LineM.val
  dsimp only
  go_wp2_with fail
  refine C6'.out.mono ?_
  rintro e w10 ⟨z, rfl, hz, hok10, hb10⟩
  have hkx : Blk (w8.alloc (.cells (⟨yf, yt, yA, ym, yc⟩ : LineM).cells.toArray 41)) w8.heap.size (⟨yf, yt, yA, ym, yc⟩ : LineM).cells 41 := Blk.new w8 _ _
  have hbA : Below w8.heap.size w8 (w8.alloc (.cells (⟨yf, yt, yA, ym, yc⟩ : LineM).cells.toArray 41)) := (Below.refl _ _).alloc (Nat.le_refl _) _
  have hbB : Below w10.heap.size w10 (w10.alloc (.cells z.cells.toArray 41)) := (Below.refl _ _).alloc (Nat.le_refl _) _
  have hky := (hkx.next hb10).next hbB
  have hoky := ((HY.out.2.next hbA).next hb10).next hbB
  have hkz : Blk (w10.alloc (.cells z.cells.toArray 41)) w10.heap.size z.cells 41 := Blk.new w10 _ _
  have CL := kept (rlines_any (some ⟨w8.heap.size, 0, none⟩) (some ⟨w10.heap.size, 0, none⟩) 1 1 1 1 [⟨yf, yt, yA, ym, yc⟩] [z] _ rfl rfl (lines_one hky hky.lt hoky) (lines_one hkz hkz.lt (hok10.next hbB)) (by simp))
  have e : ([(⟨yf, yt, yA, ym, yc⟩ : LineM)].map LineM.p = [z].map LineM.p) := by simp only [List.map_cons, List.map_nil]; rw [HY.out.1, hz]
  rw [decide_eq_true e] at CL
  have HB10 := kept ((HB9.out.trans (hb10.mono HB9.out.size)).alloc (Nat.le_trans HB9.out.size hb10.size) (.cells z.cells.toArray 41))
  obtain ⟨zf, zt, zA, zm, zc⟩ := z
  clear hz hok10 hb10 hkx hbA hbB hky hoky hkz e C6' HB9 HY
  unfold LineM.val
  dsimp only
  go_wp2_with fail
  refine CL.out.mono ?_
  rintro e w11 ⟨rfl, q2, rfl⟩
  have HB11 := kept (HB10.out.trans (below_draw w.heap.size _ q2))
  clear CL HB10
  go_wp2_with fail
  refine (CW.out _).mono ?_
  rintro e w12 ⟨rfl, hb12⟩
  have HB12 := kept (HB11.out.trans (hb12.mono HB11.out.size))
  clear hb12
  go_wp2_with fail
  go_ret
  exact ⟨rfl, HB12.out⟩
end Go.Proofs.Ytnmcclkpgbdenaa.Reg
