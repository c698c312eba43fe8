/- Layer 50 (change): what is unlike in two cards: the program's walk. -/
import Derived.Test.YtnmcclkpgbdenaaChgGood
import Derived.Deep.CutBlock
import Derived.Deep.DeepCutAuto
namespace Go.Proofs.Ytnmcclkpgbdenaa.Chg
open Go.RowKit Go.Proofs.Ytnmcclkpgbdenaa.Mem Go.Proofs.Ytnmcclkpgbdenaa.Card

def acc (g : Nat → List PCh) : Nat → List PCh
  | 0 => []
  | n + 1 => acc g n ++ g (n + 1)
def linesA (a b : CardM) (f : Nat) : List PCh := match lineOf f b.ls with
  | none => []
  | some y => if (lineOf f a.ls).map LineM.p = some y.p then [] else [(3, (a.cid, []), y.p)]
def linesB (a b : CardM) (f : Nat) : List PCh := if (lineOf f a.ls).isSome && !(lineOf f b.ls).isSome then [(4, (a.cid, []), (f, ⟨#[]⟩, []))] else []
def linesM (a b : CardM) : List PCh := acc (linesA a b) 5 ++ acc (linesB a b) 5
theorem same_any (x y : LineM) (w : World) (hx : x.Ok w w.heap.size) (hy : y.Ok w w.heap.size) :
    Calls Try.prog 74 #[x.val, y.val] w fun e w' => e = .returned (.bool (decide (x.p = y.p))) ∧ Below w.heap.size w w' := by
  obtain ⟨hx1, hx2, hx3, hx4⟩ := hx
  obtain ⟨hy1, hy2, hy3, hy4⟩ := hy
  have HT := kept (fun (W : World) (hb : Below w.heap.size w W) => sequal_any w.heap.size w.heap.size x.A y.A x.m.length y.m.length x.c y.c x.m y.m W rfl rfl (hx1.below hb) (hy1.below hb) (by omega))
  have hi := int_beq x.f y.f
  have hs := str_beq x.t y.t
  have HP := kept (line_p (x := x) (y := y))
  unfold LineM.val
  by_cases h1 : x.f = y.f
  · rw [decide_eq_true h1] at hi
    by_cases h2 : x.t = y.t
    · rw [decide_eq_true h2] at hs
      have HF : Kept (decide (x.p = y.p) = decide (x.m = y.m)) := ⟨by
        by_cases h3 : x.m = y.m
        · rw [decide_eq_true h3, decide_eq_true (HP.out.2 ⟨h1, h2, h3⟩)]
        · rw [decide_eq_false h3, decide_eq_false (fun e => h3 (HP.out.1 e).2.2)]⟩
      clear hx1 hy1 h1 h2 HP
      go_enter Try.func74, Try.ntmps74
      go_wp2_with fail
      refine (HT.out _ (((Below.refl _ _).alloc (Nat.le_refl _) _).alloc (by simp) _)).mono ?_
      rintro e w' ⟨rfl, q, rfl⟩
      go_wp2
      go_ret
      exact ⟨ret_bool HF.out.symm, below_drewN (((Below.refl _ _).alloc (Nat.le_refl _) _).alloc (by simp) _) q⟩
    · rw [decide_eq_false h2] at hs
      have HF : Kept (decide (x.p = y.p) = false) := ⟨decide_eq_false (fun e => h2 (HP.out.1 e).2.1)⟩
      clear hx1 hy1 h1 h2 HP HT
      go_enter Try.func74, Try.ntmps74
      go_wp2
      go_ret
      exact ⟨ret_bool HF.out.symm, ((Below.refl _ _).alloc (Nat.le_refl _) _).alloc (by simp) _⟩
  · rw [decide_eq_false h1] at hi
    have HF : Kept (decide (x.p = y.p) = false) := ⟨decide_eq_false (fun e => h1 (HP.out.1 e).1)⟩
    clear hx1 hy1 h1 HP HT
    go_enter Try.func74, Try.ntmps74
    go_wp2
    go_ret
    exact ⟨ret_bool HF.out.symm, ((Below.refl _ _).alloc (Nat.le_refl _) _).alloc (by simp) _⟩
/-- a call gives changes of its own -/
def GivesCh (w : World) (ps : List PCh) (e : Ending) (w' : World) : Prop :=
  ∃ A c cs, e = .returned (.slice A (List.length cs) c) ∧ cs.map ChM.p = ps ∧ ChsOwn w' w.heap.size A c cs ∧ Below w.heap.size w w'
/-- the two cards in their boxes, and what is told so far -/
def LnSt (w W : World) (a b : CardM) (A : Option Addr) (c : Nat) (cs : List ChM) : Prop :=
  Below w.heap.size w W ∧ Blk W w.heap.size a.cells 38 ∧ Blk W (w.heap.size + 1) b.cells 38 ∧ ChsOwn W (w.heap.size + 2) A c cs
section
variable {w W W' : World} {a b : CardM} {A A2 : Option Addr} {c c2 : Nat} {cs r2 news : List ChM}
theorem LnSt.start (w : World) (a b : CardM) : LnSt w ((w.alloc (.cells a.cells.toArray 38)).alloc (.cells b.cells.toArray 38)) a b none 0 [] :=
  ⟨((Below.refl _ _).alloc (Nat.le_refl _) _).alloc (by simp) _, (Blk.new w a.cells _).alloc _, Blk.newAt _ b.cells _ (by simp), ChsOwn.nil _ _⟩
theorem LnSt.next (h : LnSt w W a b A c cs) (hb : Below W.heap.size W W') : LnSt w W' a b A c cs := ⟨h.1.trans (hb.mono h.1.size), h.2.1.next hb, h.2.2.1.next hb, h.2.2.2.next hb⟩
theorem LnSt.app (h : LnSt w W a b A c cs) (hn : ∀ x ∈ news, ChM.Own W (w.heap.size + 2) x) (hr : r2 = cs ++ news) (ho : chE.Own W' (w.heap.size + 2) 79 (.slice A2 r2.length c2) r2)
    (hu : ∀ S : Nat → Prop, (∀ k, (Value.slice A cs.length c).ownBlock = some k → S k) → Upd S W W') : LnSt w W' a b A2 c2 r2 := by
  have hu' := hu (fun k => (Value.slice A cs.length c).ownBlock = some k) fun _ h => h
  have hlt : ∀ k, (Value.slice A cs.length c).ownBlock = some k → w.heap.size + 2 ≤ k := fun k hk => (OwnK.under h.2.2.2.1 k hk).1
  refine ⟨h.1.trans (hu'.below h.1.size fun i _ e => by have := hlt i e; omega), h.2.1.upd hu' fun e => by have := hlt _ e; omega, h.2.2.1.upd hu' fun e => by have := hlt _ e; omega, chs_app h.2.2.2 hn hr ho hu⟩
end
theorem acc_snoc (g : Nat → List PCh) {f : Nat} (h : 1 ≤ f) : acc g f = acc g (f - 1) ++ g f := by
  obtain ⟨n, rfl⟩ : ∃ n, f = n + 1 := ⟨f - 1, by omega⟩
  rfl
set_option maxRecDepth 100000 in
set_option maxHeartbeats 2000000 in
theorem lines_any (a b : CardM) (w : World) (ha : a.Ok w w.heap.size) (hb : b.Ok w w.heap.size) : Calls Try.prog 42 #[a.val, b.val] w (GivesCh w (linesM a b)) := by
  have HA := kept (fun (W : World) (hB : Below w.heap.size w W) (f : Nat) => line_any a f W (ha.next hB))
  have HB := kept (fun (W : World) (hB : Below w.heap.size w W) (f : Nat) => line_any b f W (hb.next hB))
  have HST := kept (LnSt.start w a b)
  have HLA : Kept (∀ f, linesA a b f = (match lineOf f b.ls with
    | none => []
    | some y => if (lineOf f a.ls).map LineM.p = some y.p then [] else [(3, (a.cid, []), y.p)])) := ⟨fun _ => rfl⟩
  have HLB : Kept (∀ f, linesB a b f = if (lineOf f a.ls).isSome && !(lineOf f b.ls).isSome then [(4, (a.cid, []), (f, ⟨#[]⟩, []))] else []) := ⟨fun _ => rfl⟩
  have HLM : Kept (linesM a b = acc (linesA a b) 5 ++ acc (linesB a b) 5) := ⟨rfl⟩
  have hcid := ha.1
  clear ha hb
  generalize linesM a b = LM at *
  generalize linesA a b = LA at *
  generalize linesB a b = LB' at *
  obtain ⟨acid, aX, als, ac⟩ := a
  obtain ⟨bcid, bX, bls, bc⟩ := b
  unfold CardM.val at HA HB ⊢
  dsimp only at HA HB HLA HLB hcid ⊢
  go_enter Try.func42, Try.ntmps42
  go_wp2_with fail
  go_loopw [5, 6] (fun s i wr => ∃ (f : Nat) (cs : List ChM) (A : Option Addr) (c : Nat), 1 ≤ f ∧ f ≤ 6 ∧ i = .int .u8 (f : Int) ∧ s = .slice A cs.length c ∧ cs.length < f ∧ Kept (cs.map ChM.p = acc LA (f - 1) ∧ LnSt w wr ⟨acid, aX, als, ac⟩ ⟨bcid, bX, bls, bc⟩ A c cs)) (fun _ i _ => 6 - (intOf i).toNat)
  case atStart => exact ⟨1, [], none, 0, Nat.le_refl _, by omega, rfl, rfl, by simp, ⟨rfl, HST.out⟩⟩
  case round =>
    obtain ⟨f, cs, A, c, hf1, hf6, rfl, rfl, hcl, hin⟩ := hrel
    by_cases hlt : f ≤ 5
    · have hfn : (f : Int) ≤ 5 := by omega
      have H1 := kept hin.out.2
      have HCS := kept hin.out.1
      have HLf := kept (HLA.out f)
      have hac := kept (acc_snoc LA hf1)
      have q0 : wr.cell? ⟨w.heap.size, 0, none⟩ = some (.int .u64 (acid : Int)) := H1.out.2.1.cell (j := 0) rfl
      have q1 : wr.cell? ⟨w.heap.size, 1, none⟩ = some (.slice aX als.length ac) := H1.out.2.1.cell (j := 1) rfl
      have CA := kept (HA.out wr H1.out.1 f)
      obtain ⟨oa, hoa⟩ : ∃ o, lineOf f als = o := ⟨_, rfl⟩
      obtain ⟨ob, hob⟩ : ∃ o, lineOf f bls = o := ⟨_, rfl⟩
      rw [hoa] at CA
      rw [hoa, hob] at HLf
      clear hin
      go_wp2_with fail
      refine CA.out.mono ?_
      rintro e w2 ⟨⟨yf1, yt1, yA1, ym1, yc1⟩, rfl, hy1, hyf1, hym1, hyo1, hb2⟩
      dsimp only at hyf1 hym1 hyo1
      have hb2' := hb2.alloc hb2.size (.cells #[.int .u8 (yf1 : Int), .string yt1, .slice yA1 ym1.length yc1] 41)
      have H2 := kept (H1.out.next hb2')
      have HK1 := kept (Blk.new w2 [.int .u8 (yf1 : Int), .string yt1, .slice yA1 ym1.length yc1] 41)
      have HO1 : Kept (LineM.Own (w2.alloc (.cells #[.int .u8 (yf1 : Int), .string yt1, .slice yA1 ym1.length yc1] 41)) wr.heap.size ⟨yf1, yt1, yA1, ym1, yc1⟩) := ⟨⟨hyf1, hym1, hyo1.alloc _⟩⟩
      have q2 : (w2.alloc (.cells #[.int .u8 (yf1 : Int), .string yt1, .slice yA1 ym1.length yc1] 41)).cell? ⟨w.heap.size + 1, 0, none⟩ = some (.int .u64 (bcid : Int)) := H2.out.2.2.1.cell (j := 0) rfl
      have q3 : (w2.alloc (.cells #[.int .u8 (yf1 : Int), .string yt1, .slice yA1 ym1.length yc1] 41)).cell? ⟨w.heap.size + 1, 1, none⟩ = some (.slice bX bls.length bc) := H2.out.2.2.1.cell (j := 1) rfl
      have CB := kept (HB.out _ H2.out.1 f)
      rw [hob] at CB
      clear hyf1 hym1 hyo1 hb2 hb2' q0 q1 CA
      unfold LineM.val
      dsimp only
      go_wp2_with fail
      refine CB.out.mono ?_
      rintro e w3 ⟨⟨yf2, yt2, yA2, ym2, yc2⟩, rfl, hy2, hyf2, hym2, hyo2, hb3⟩
      dsimp only at hyf2 hym2 hyo2
      have hb3' := hb3.alloc hb3.size (.cells #[.int .u8 (yf2 : Int), .string yt2, .slice yA2 ym2.length yc2] 41)
      have H3 := kept (H2.out.next hb3')
      have HL1 := kept (HK1.out.next hb3')
      have HL2 := kept (Blk.new w3 [.int .u8 (yf2 : Int), .string yt2, .slice yA2 ym2.length yc2] 41)
      have HO1' := kept (HO1.out.next hb3')
      have HO2 : Kept (LineM.Own (w3.alloc (.cells #[.int .u8 (yf2 : Int), .string yt2, .slice yA2 ym2.length yc2] 41)) (w.heap.size + 2) ⟨yf2, yt2, yA2, ym2, yc2⟩) := ⟨LineM.Own.mono (b' := w.heap.size + 2) ⟨hyf2, hym2, hyo2.alloc _⟩ (by have h1 := H2.out.2.2.1.lt; omega)⟩
      have HY := kept (And.intro hy1 hy2)
      clear hyf2 hym2 hyo2 hb3 hb3' q2 q3 CB HK1 HO1 H2 hy1 hy2
      unfold LineM.val
      dsimp only
      have HW := H3
      have z20 : (w3.alloc (.cells #[.int .u8 (yf2 : Int), .string yt2, .slice yA2 ym2.length yc2] 41)).cell? ⟨w3.heap.size, 0, none⟩ = some (.int .u8 (yf2 : Int)) := HL2.out.cell (j := 0) rfl
      have z21 : (w3.alloc (.cells #[.int .u8 (yf2 : Int), .string yt2, .slice yA2 ym2.length yc2] 41)).cell? ⟨w3.heap.size, 1, none⟩ = some (.string yt2) := HL2.out.cell (j := 1) rfl
      have z22 : (w3.alloc (.cells #[.int .u8 (yf2 : Int), .string yt2, .slice yA2 ym2.length yc2] 41)).cell? ⟨w3.heap.size, 2, none⟩ = some (.slice yA2 ym2.length yc2) := HL2.out.cell (j := 2) rfl
      have qa : (w3.alloc (.cells #[.int .u8 (yf2 : Int), .string yt2, .slice yA2 ym2.length yc2] 41)).cell? ⟨w.heap.size, 0, none⟩ = some (.int .u64 (acid : Int)) := H3.out.2.1.cell (j := 0) rfl
      cases ob with
      | none =>
        have HP9 : Kept (cs.map ChM.p = acc LA f) := ⟨by rw [hac.out, ← HCS.out, HLf.out]; simp⟩
        clear HLf hac HCS HLA
        go_wp2_with fail
        go_roundw
        case rel => exact ⟨f + 1, cs, A, c, by omega, by omega, by go_num, rfl, by omega, ⟨by rw [Nat.add_sub_cancel]; exact HP9.out, HW.out⟩⟩
        case measure => simp [intOf]; omega
      | some zb =>
        have hzb : (⟨yf2, yt2, yA2, ym2, yc2⟩ : LineM).p = zb.p := HY.out.2
        cases oa with
        | none =>
          have HACC : Kept (acc LA f = acc LA (f - 1) ++ [(3, (acid, []), (⟨yf2, yt2, yA2, ym2, yc2⟩ : LineM).p)]) := ⟨by rw [hac.out, HLf.out, hzb]; rfl⟩
          clear HLf hac HLA hzb
          have hbB : Below (w3.alloc (.cells #[.int .u8 (yf2 : Int), .string yt2, .slice yA2 ym2.length yc2] 41)).heap.size (w3.alloc (.cells #[.int .u8 (yf2 : Int), .string yt2, .slice yA2 ym2.length yc2] 41)) ((w3.alloc (.cells #[.int .u8 (yf2 : Int), .string yt2, .slice yA2 ym2.length yc2] 41)).alloc (.cells #[.int .u8 3, .int .u64 (acid : Int), .slice none 0 0, .int .u8 (yf2 : Int), .string yt2, .slice yA2 ym2.length yc2] 79)) := (Below.refl _ _).alloc (Nat.le_refl _) _
          have HB4 := kept (HW.out.next hbB)
          have hrn : chE.Rd ((w3.alloc (.cells #[.int .u8 (yf2 : Int), .string yt2, .slice yA2 ym2.length yc2] 41)).alloc (.cells #[.int .u8 3, .int .u64 (acid : Int), .slice none 0 0, .int .u8 (yf2 : Int), .string yt2, .slice yA2 ym2.length yc2] 79)) (w3.heap.size + 1 + 1) (some ⟨w3.heap.size + 1, 0, none⟩) [⟨3, ⟨acid, none, [], 0⟩, ⟨yf2, yt2, yA2, ym2, yc2⟩⟩] := Rd.newAt (w3.alloc (.cells #[.int .u8 (yf2 : Int), .string yt2, .slice yA2 ym2.length yc2] 41)) [.int .u8 3, .int .u64 (acid : Int), .slice none 0 0, .int .u8 (yf2 : Int), .string yt2, .slice yA2 ym2.length yc2] 79 (by first | rfl | simp) (Nat.le_refl _)
          have hz : (cs.length + [(⟨3, ⟨acid, none, [], 0⟩, ⟨yf2, yt2, yA2, ym2, yc2⟩⟩ : ChM)].length) * 88 ≤ 140737488355328 := by simp; omega
          have hbase : w.heap.size + 2 ≤ ((w3.alloc (.cells #[.int .u8 (yf2 : Int), .string yt2, .slice yA2 ym2.length yc2] 41)).alloc (.cells #[.int .u8 3, .int .u64 (acid : Int), .slice none 0 0, .int .u8 (yf2 : Int), .string yt2, .slice yA2 ym2.length yc2] 79)).heap.size := by have h1 := HW.out.2.2.1.lt; have h2 := hbB.size; omega
          have HNW : Kept (∀ x ∈ [(⟨3, ⟨acid, none, [], 0⟩, ⟨yf2, yt2, yA2, ym2, yc2⟩⟩ : ChM)], ChM.Own ((w3.alloc (.cells #[.int .u8 (yf2 : Int), .string yt2, .slice yA2 ym2.length yc2] 41)).alloc (.cells #[.int .u8 3, .int .u64 (acid : Int), .slice none 0 0, .int .u8 (yf2 : Int), .string yt2, .slice yA2 ym2.length yc2] 79)) (w.heap.size + 2) x) := ⟨fun x hx => by
            rw [List.mem_singleton.1 hx]
            exact ⟨by show 3 < 256; decide, ⟨hcid, Elem.Own.nilv _ _ _ _, Nat.zero_le _, fun z hz => by cases hz⟩, HO2.out.next ((Below.refl _ _).alloc (Nat.le_refl _) _)⟩⟩
          have hoB := HB4.out.2.2.2.1
          clear hbB
          go_wp2_with (at_builtin; refine wpl_appEU _ chE rfl (.tmp 42) (.tmp 48) 26 rfl (w.heap.size + 2) 79 Try.underlying26 ch_info rfl _ cs rfl hoB _ _ _ _ [⟨3, ⟨acid, none, [], 0⟩, ⟨yf2, yt2, yA2, ym2, yc2⟩⟩] rfl rfl hrn hz (by decide) hbase ?_; intro A9 c9 w9 r9 hr9 hown9 hu9 hx9)
          have H9 := kept (HB4.out.app HNW.out hr9.out hown9 hu9)
          have HP9 : Kept (r9.map ChM.p = acc LA f) := ⟨by rw [hr9.out, List.map_append, HCS.out, HACC.out]; rfl⟩
          have hl9 : r9.length < f + 1 := by rw [hr9.out, List.length_append, List.length_singleton]; omega
          clear hr9 hown9 hu9 hx9 hrn hoB HNW HB4
          go_wp2_with fail
          go_roundw
          case rel => exact ⟨f + 1, r9, A9, c9, by omega, by omega, by go_num, rfl, by omega, ⟨by rw [Nat.add_sub_cancel]; exact HP9.out, H9.out⟩⟩
          case measure => simp [intOf]; omega
        | some za =>
          have hza : (⟨yf1, yt1, yA1, ym1, yc1⟩ : LineM).p = za.p := HY.out.1
          have CS := kept (same_any ⟨yf1, yt1, yA1, ym1, yc1⟩ ⟨yf2, yt2, yA2, ym2, yc2⟩ (w3.alloc (.cells #[.int .u8 (yf2 : Int), .string yt2, .slice yA2 ym2.length yc2] 41)) HO1'.out.ok HO2.out.ok)
          have z10 : (w3.alloc (.cells #[.int .u8 (yf2 : Int), .string yt2, .slice yA2 ym2.length yc2] 41)).cell? ⟨w2.heap.size, 0, none⟩ = some (.int .u8 (yf1 : Int)) := HL1.out.cell (j := 0) rfl
          have z11 : (w3.alloc (.cells #[.int .u8 (yf2 : Int), .string yt2, .slice yA2 ym2.length yc2] 41)).cell? ⟨w2.heap.size, 1, none⟩ = some (.string yt1) := HL1.out.cell (j := 1) rfl
          have z12 : (w3.alloc (.cells #[.int .u8 (yf2 : Int), .string yt2, .slice yA2 ym2.length yc2] 41)).cell? ⟨w2.heap.size, 2, none⟩ = some (.slice yA1 ym1.length yc1) := HL1.out.cell (j := 2) rfl
          unfold LineM.val at CS
          by_cases hpp : (⟨yf1, yt1, yA1, ym1, yc1⟩ : LineM).p = (⟨yf2, yt2, yA2, ym2, yc2⟩ : LineM).p
          · rw [decide_eq_true hpp] at CS
            have HP9 : Kept (cs.map ChM.p = acc LA f) := ⟨by
              rw [hac.out, ← HCS.out, HLf.out]
              have e : (some za).map LineM.p = some zb.p := by rw [← hzb, ← hpp, hza]; rfl
              dsimp only
              rw [if_pos e, List.append_nil]⟩
            clear HLf hac HCS HLA hzb hza hpp
            go_wp2_with fail
            refine CS.out.mono ?_
            rintro e w5 ⟨rfl, hb5⟩
            have HW := kept (H3.out.next hb5)
            clear hb5 CS H3 z10 z11 z12 z20 z21 z22 qa
            go_wp2_with fail
            go_roundw
            case rel => exact ⟨f + 1, cs, A, c, by omega, by omega, by go_num, rfl, by omega, ⟨by rw [Nat.add_sub_cancel]; exact HP9.out, HW.out⟩⟩
            case measure => simp [intOf]; omega
          · rw [decide_eq_false hpp] at CS
            have HACC : Kept (acc LA f = acc LA (f - 1) ++ [(3, (acid, []), (⟨yf2, yt2, yA2, ym2, yc2⟩ : LineM).p)]) := ⟨by
              rw [hac.out, HLf.out]
              have e : ¬ (some za).map LineM.p = some zb.p := fun e => hpp (by rw [hza, hzb]; exact Option.some.inj e)
              dsimp only
              rw [if_neg e, hzb]⟩
            clear HLf hac HLA hzb hza hpp
            go_wp2_with fail
            refine CS.out.mono ?_
            rintro e w5 ⟨rfl, hb5⟩
            have HW := kept (H3.out.next hb5)
            have HO5 := kept (HO2.out.next hb5)
            have HL5 := kept (HL2.out.next hb5)
            clear hb5 CS H3 z10 z11 z12 z20 z21 z22 qa HO2 HL2
            have z20 : w5.cell? ⟨w3.heap.size, 0, none⟩ = some (.int .u8 (yf2 : Int)) := HL5.out.cell (j := 0) rfl
            have z21 : w5.cell? ⟨w3.heap.size, 1, none⟩ = some (.string yt2) := HL5.out.cell (j := 1) rfl
            have z22 : w5.cell? ⟨w3.heap.size, 2, none⟩ = some (.slice yA2 ym2.length yc2) := HL5.out.cell (j := 2) rfl
            have qa : w5.cell? ⟨w.heap.size, 0, none⟩ = some (.int .u64 (acid : Int)) := HW.out.2.1.cell (j := 0) rfl
            have hbB : Below w5.heap.size w5 (w5.alloc (.cells #[.int .u8 3, .int .u64 (acid : Int), .slice none 0 0, .int .u8 (yf2 : Int), .string yt2, .slice yA2 ym2.length yc2] 79)) := (Below.refl _ _).alloc (Nat.le_refl _) _
            have HB4 := kept (HW.out.next hbB)
            have hrn : chE.Rd (w5.alloc (.cells #[.int .u8 3, .int .u64 (acid : Int), .slice none 0 0, .int .u8 (yf2 : Int), .string yt2, .slice yA2 ym2.length yc2] 79)) (w5.heap.size + 1) (some ⟨w5.heap.size, 0, none⟩) [⟨3, ⟨acid, none, [], 0⟩, ⟨yf2, yt2, yA2, ym2, yc2⟩⟩] := Rd.newAt w5 [.int .u8 3, .int .u64 (acid : Int), .slice none 0 0, .int .u8 (yf2 : Int), .string yt2, .slice yA2 ym2.length yc2] 79 (by first | rfl | simp) (Nat.le_refl _)
            have hz : (cs.length + [(⟨3, ⟨acid, none, [], 0⟩, ⟨yf2, yt2, yA2, ym2, yc2⟩⟩ : ChM)].length) * 88 ≤ 140737488355328 := by simp; omega
            have hbase : w.heap.size + 2 ≤ (w5.alloc (.cells #[.int .u8 3, .int .u64 (acid : Int), .slice none 0 0, .int .u8 (yf2 : Int), .string yt2, .slice yA2 ym2.length yc2] 79)).heap.size := by have h1 := HW.out.2.2.1.lt; have h2 := hbB.size; omega
            have HNW : Kept (∀ x ∈ [(⟨3, ⟨acid, none, [], 0⟩, ⟨yf2, yt2, yA2, ym2, yc2⟩⟩ : ChM)], ChM.Own (w5.alloc (.cells #[.int .u8 3, .int .u64 (acid : Int), .slice none 0 0, .int .u8 (yf2 : Int), .string yt2, .slice yA2 ym2.length yc2] 79)) (w.heap.size + 2) x) := ⟨fun x hx => by
              rw [List.mem_singleton.1 hx]
              exact ⟨by show 3 < 256; decide, ⟨hcid, Elem.Own.nilv _ _ _ _, Nat.zero_le _, fun z hz => by cases hz⟩, HO5.out.next ((Below.refl _ _).alloc (Nat.le_refl _) _)⟩⟩
            have hoB := HB4.out.2.2.2.1
            clear hbB
            go_wp2_with (at_builtin; refine wpl_appEU _ chE rfl (.tmp 42) (.tmp 48) 26 rfl (w.heap.size + 2) 79 Try.underlying26 ch_info rfl _ cs rfl hoB _ _ _ _ [⟨3, ⟨acid, none, [], 0⟩, ⟨yf2, yt2, yA2, ym2, yc2⟩⟩] rfl rfl hrn hz (by decide) hbase ?_; intro A9 c9 w9 r9 hr9 hown9 hu9 hx9)
            have H9 := kept (HB4.out.app HNW.out hr9.out hown9 hu9)
            have HP9 : Kept (r9.map ChM.p = acc LA f) := ⟨by rw [hr9.out, List.map_append, HCS.out, HACC.out]; rfl⟩
            have hl9 : r9.length < f + 1 := by rw [hr9.out, List.length_append, List.length_singleton]; omega
            clear hr9 hown9 hu9 hx9 hrn hoB HNW HB4
            go_wp2_with fail
            go_roundw
            case rel => exact ⟨f + 1, r9, A9, c9, by omega, by omega, by go_num, rfl, by omega, ⟨by rw [Nat.add_sub_cancel]; exact HP9.out, H9.out⟩⟩
            case measure => simp [intOf]; omega
    · obtain rfl : f = 6 := by omega
      have HIN := kept hin.out
      clear hin
      rw [show ((6 : Nat) : Int) = 6 from rfl]
      go_wp2_with fail
      go_loopw [5, 11] (fun s i wr => ∃ (f : Nat) (cs : List ChM) (A : Option Addr) (c : Nat), 1 ≤ f ∧ f ≤ 6 ∧ i = .int .u8 (f : Int) ∧ s = .slice A cs.length c ∧ cs.length < f + 5 ∧ Kept (cs.map ChM.p = acc LA 5 ++ acc LB' (f - 1) ∧ LnSt w wr ⟨acid, aX, als, ac⟩ ⟨bcid, bX, bls, bc⟩ A c cs)) (fun _ i _ => 6 - (intOf i).toNat)
      case atStart => exact ⟨1, cs, A, c, Nat.le_refl _, by omega, rfl, rfl, by omega, ⟨by rw [HIN.out.1]; simp [acc], HIN.out.2⟩⟩
      case round =>
        clear HIN hcl
        obtain ⟨f, cs, A, c, hf1, hf6, rfl, rfl, hcl, hin⟩ := hrel
        by_cases hlt : f ≤ 5
        · have hfn : (f : Int) ≤ 5 := by omega
          have H1 := kept hin.out.2
          have HCS := kept hin.out.1
          have HLf := kept (HLB.out f)
          have hac := kept (acc_snoc LB' hf1)
          have q0 : wr.cell? ⟨w.heap.size, 0, none⟩ = some (.int .u64 (acid : Int)) := H1.out.2.1.cell (j := 0) rfl
          have q1 : wr.cell? ⟨w.heap.size, 1, none⟩ = some (.slice aX als.length ac) := H1.out.2.1.cell (j := 1) rfl
          have CA := kept (HA.out wr H1.out.1 f)
          obtain ⟨oa, hoa⟩ : ∃ o, lineOf f als = o := ⟨_, rfl⟩
          obtain ⟨ob, hob⟩ : ∃ o, lineOf f bls = o := ⟨_, rfl⟩
          rw [hoa] at CA
          rw [hoa, hob] at HLf
          clear hin
          go_wp2_with fail
          refine CA.out.mono ?_
          rintro e w2 ⟨⟨yf1, yt1, yA1, ym1, yc1⟩, rfl, hy1, hyf1, hym1, hyo1, hb2⟩
          dsimp only at hyf1 hym1 hyo1
          have hb2' := hb2.alloc hb2.size (.cells #[.int .u8 (yf1 : Int), .string yt1, .slice yA1 ym1.length yc1] 41)
          have H2 := kept (H1.out.next hb2')
          have HK1 := kept (Blk.new w2 [.int .u8 (yf1 : Int), .string yt1, .slice yA1 ym1.length yc1] 41)
          have HO1 : Kept (LineM.Own (w2.alloc (.cells #[.int .u8 (yf1 : Int), .string yt1, .slice yA1 ym1.length yc1] 41)) wr.heap.size ⟨yf1, yt1, yA1, ym1, yc1⟩) := ⟨⟨hyf1, hym1, hyo1.alloc _⟩⟩
          have q2 : (w2.alloc (.cells #[.int .u8 (yf1 : Int), .string yt1, .slice yA1 ym1.length yc1] 41)).cell? ⟨w.heap.size + 1, 0, none⟩ = some (.int .u64 (bcid : Int)) := H2.out.2.2.1.cell (j := 0) rfl
          have q3 : (w2.alloc (.cells #[.int .u8 (yf1 : Int), .string yt1, .slice yA1 ym1.length yc1] 41)).cell? ⟨w.heap.size + 1, 1, none⟩ = some (.slice bX bls.length bc) := H2.out.2.2.1.cell (j := 1) rfl
          have CB := kept (HB.out _ H2.out.1 f)
          rw [hob] at CB
          clear hyf1 hym1 hyo1 hb2 hb2' q0 q1 CA
          unfold LineM.val
          dsimp only
          go_wp2_with fail
          refine CB.out.mono ?_
          rintro e w3 ⟨⟨yf2, yt2, yA2, ym2, yc2⟩, rfl, hy2, hyf2, hym2, hyo2, hb3⟩
          dsimp only at hyf2 hym2 hyo2
          have hb3' := hb3.alloc hb3.size (.cells #[.int .u8 (yf2 : Int), .string yt2, .slice yA2 ym2.length yc2] 41)
          have H3 := kept (H2.out.next hb3')
          have HL1 := kept (HK1.out.next hb3')
          have HL2 := kept (Blk.new w3 [.int .u8 (yf2 : Int), .string yt2, .slice yA2 ym2.length yc2] 41)
          have HO1' := kept (HO1.out.next hb3')
          have HO2 : Kept (LineM.Own (w3.alloc (.cells #[.int .u8 (yf2 : Int), .string yt2, .slice yA2 ym2.length yc2] 41)) (w.heap.size + 2) ⟨yf2, yt2, yA2, ym2, yc2⟩) := ⟨LineM.Own.mono (b' := w.heap.size + 2) ⟨hyf2, hym2, hyo2.alloc _⟩ (by have h1 := H2.out.2.2.1.lt; omega)⟩
          have HY := kept (And.intro hy1 hy2)
          clear hyf2 hym2 hyo2 hb3 hb3' q2 q3 CB HK1 HO1 H2 hy1 hy2
          unfold LineM.val
          dsimp only
          have HW := H3
          have qa : (w3.alloc (.cells #[.int .u8 (yf2 : Int), .string yt2, .slice yA2 ym2.length yc2] 41)).cell? ⟨w.heap.size, 0, none⟩ = some (.int .u64 (acid : Int)) := H3.out.2.1.cell (j := 0) rfl
          cases oa with
          | none =>
            have HP9 : Kept (cs.map ChM.p = acc LA 5 ++ acc LB' f) := ⟨by rw [hac.out, ← List.append_assoc, ← HCS.out, HLf.out]; simp⟩
            clear HLf hac HCS
            go_wp2_with fail
            go_roundw
            case rel => exact ⟨f + 1, cs, A, c, by omega, by omega, by go_num, rfl, by omega, ⟨by rw [Nat.add_sub_cancel]; exact HP9.out, HW.out⟩⟩
            case measure => simp [intOf]; omega
          | some za =>
            cases ob with
            | some zb =>
              have HP9 : Kept (cs.map ChM.p = acc LA 5 ++ acc LB' f) := ⟨by rw [hac.out, ← List.append_assoc, ← HCS.out, HLf.out]; simp⟩
              clear HLf hac HCS
              go_wp2_with fail
              go_roundw
              case rel => exact ⟨f + 1, cs, A, c, by omega, by omega, by go_num, rfl, by omega, ⟨by rw [Nat.add_sub_cancel]; exact HP9.out, HW.out⟩⟩
              case measure => simp [intOf]; omega
            | none =>
              have HACC : Kept (acc LB' f = acc LB' (f - 1) ++ [(4, (acid, []), ((f : Nat), (⟨#[]⟩ : ByteArray), ([] : List ByteArray)))]) := ⟨by rw [hac.out, HLf.out]; rfl⟩
              clear HLf hac
              have hbB : Below (w3.alloc (.cells #[.int .u8 (yf2 : Int), .string yt2, .slice yA2 ym2.length yc2] 41)).heap.size (w3.alloc (.cells #[.int .u8 (yf2 : Int), .string yt2, .slice yA2 ym2.length yc2] 41)) ((w3.alloc (.cells #[.int .u8 (yf2 : Int), .string yt2, .slice yA2 ym2.length yc2] 41)).alloc (.cells #[.int .u8 4, .int .u64 (acid : Int), .slice none 0 0, .int .u8 (f : Int), .string ⟨#[]⟩, .slice none 0 0] 79)) := (Below.refl _ _).alloc (Nat.le_refl _) _
              have HB4 := kept (HW.out.next hbB)
              have hrn : chE.Rd ((w3.alloc (.cells #[.int .u8 (yf2 : Int), .string yt2, .slice yA2 ym2.length yc2] 41)).alloc (.cells #[.int .u8 4, .int .u64 (acid : Int), .slice none 0 0, .int .u8 (f : Int), .string ⟨#[]⟩, .slice none 0 0] 79)) (w3.heap.size + 1 + 1) (some ⟨w3.heap.size + 1, 0, none⟩) [⟨4, ⟨acid, none, [], 0⟩, ⟨f, ⟨#[]⟩, none, [], 0⟩⟩] := Rd.newAt (w3.alloc (.cells #[.int .u8 (yf2 : Int), .string yt2, .slice yA2 ym2.length yc2] 41)) [.int .u8 4, .int .u64 (acid : Int), .slice none 0 0, .int .u8 (f : Int), .string ⟨#[]⟩, .slice none 0 0] 79 (by first | rfl | simp) (Nat.le_refl _)
              have hz : (cs.length + [(⟨4, ⟨acid, none, [], 0⟩, ⟨f, ⟨#[]⟩, none, [], 0⟩⟩ : ChM)].length) * 88 ≤ 140737488355328 := by simp; omega
              have hbase : w.heap.size + 2 ≤ ((w3.alloc (.cells #[.int .u8 (yf2 : Int), .string yt2, .slice yA2 ym2.length yc2] 41)).alloc (.cells #[.int .u8 4, .int .u64 (acid : Int), .slice none 0 0, .int .u8 (f : Int), .string ⟨#[]⟩, .slice none 0 0] 79)).heap.size := by have h1 := HW.out.2.2.1.lt; have h2 := hbB.size; omega
              have HNW : Kept (∀ x ∈ [(⟨4, ⟨acid, none, [], 0⟩, ⟨f, ⟨#[]⟩, none, [], 0⟩⟩ : ChM)], ChM.Own ((w3.alloc (.cells #[.int .u8 (yf2 : Int), .string yt2, .slice yA2 ym2.length yc2] 41)).alloc (.cells #[.int .u8 4, .int .u64 (acid : Int), .slice none 0 0, .int .u8 (f : Int), .string ⟨#[]⟩, .slice none 0 0] 79)) (w.heap.size + 2) x) := ⟨fun x hx => by
                rw [List.mem_singleton.1 hx]
                exact ⟨by show 4 < 256; decide, ⟨hcid, Elem.Own.nilv _ _ _ _, Nat.zero_le _, fun z hz => by cases hz⟩, ⟨by show f < 256; omega, Nat.zero_le _, Elem.Own.nilv _ _ _ _⟩⟩⟩
              have hoB := HB4.out.2.2.2.1
              clear hbB
              go_wp2_with (at_builtin; refine wpl_appEU _ chE rfl (.tmp 71) (.tmp 78) 26 rfl (w.heap.size + 2) 79 Try.underlying26 ch_info rfl _ cs rfl hoB _ _ _ _ [⟨4, ⟨acid, none, [], 0⟩, ⟨f, ⟨#[]⟩, none, [], 0⟩⟩] rfl rfl hrn hz (by decide) hbase ?_; intro A9 c9 w9 r9 hr9 hown9 hu9 hx9)
              have H9 := kept (HB4.out.app HNW.out hr9.out hown9 hu9)
              have HP9 : Kept (r9.map ChM.p = acc LA 5 ++ acc LB' f) := ⟨by rw [hr9.out, List.map_append, HCS.out, HACC.out, List.append_assoc]; rfl⟩
              have hl9 : r9.length < f + 1 + 5 := by rw [hr9.out, List.length_append, List.length_singleton]; omega
              clear hr9 hown9 hu9 hx9 hrn hoB HNW HB4
              go_wp2_with fail
              go_roundw
              case rel => exact ⟨f + 1, r9, A9, c9, by omega, by omega, by go_num, rfl, by omega, ⟨by rw [Nat.add_sub_cancel]; exact HP9.out, H9.out⟩⟩
              case measure => simp [intOf]; omega
        · obtain rfl : f = 6 := by omega
          have HF := kept (And.intro (hin.out.1.trans HLM.out.symm) hin.out.2)
          clear hin
          go_wp2_with fail
          go_ret
          exact ⟨A, c, cs, rfl, HF.out.1, HF.out.2.2.2.2.mono (by omega), HF.out.2.1⟩
end Go.Proofs.Ytnmcclkpgbdenaa.Chg
