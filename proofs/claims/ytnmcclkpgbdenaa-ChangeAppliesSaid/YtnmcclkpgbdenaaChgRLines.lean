/- Layer 50 (change): what is unlike in two cards: the reference's walk. (printed by tools/genrl.py) -/
import Derived.Test.YtnmcclkpgbdenaaChgLines
import Derived.Test.YtnmcclkpgbdenaaSet26
import Derived.Test.YtnmcclkpgbdenaaSet5
namespace Go.Proofs.Ytnmcclkpgbdenaa.Chg
open Go.RowKit Go.Proofs.Ytnmcclkpgbdenaa.Mem Go.Proofs.Ytnmcclkpgbdenaa.Card

/-- a call gives a row of changes of its own, whose cards and lines lie where the arguments' lie -/
def GivesR (w0 w : World) (ps : List PCh) (e : Ending) (w' : World) : Prop :=
  ∃ A c cs, e = .returned (.slice A (List.length cs) c) ∧ cs.map ChM.p = ps ∧ chE.Own w' w.heap.size 79 (.slice A cs.length c) cs ∧ (∀ x ∈ cs, x.Ok w0 w0.heap.size) ∧ Below w.heap.size w w'
def GivesRL (w0 w : World) (o : Option LineM) (en : Ending) (w' : World) : Prop :=
  ∃ y : LineM, en = .returned (.tuple #[y.val, .bool o.isSome]) ∧ y.p = (o.getD zeroL).p ∧ y.Ok w0 w0.heap.size ∧ Below w.heap.size w w'
theorem zero_ok (w : World) (B : Nat) : zeroL.Ok w B := ⟨Rd.nil, by decide, Nat.zero_le _, Nat.zero_le _⟩
theorem rl_ok (f : Nat) {x : CardM} {w : World} {B : Nat} (h : x.Ok w B) : ((lineOf f x.ls).getD zeroL).Ok w B := by
  cases ho : lineOf f x.ls with
  | none => exact zero_ok w B
  | some z => exact h.2.1.2 z (List.mem_of_find?_eq_some ho)
theorem rline2 (x : CardM) (f : Nat) (w0 w : World) (hx : x.Ok w0 w0.heap.size) (hb : Below w0.heap.size w0 w) :
    Calls Try.prog 77 #[x.val, .int .u8 (f : Int)] w (GivesRL w0 w (lineOf f x.ls)) := by
  refine (rline_any x f w (hx.next hb)).mono ?_
  rintro e w' ⟨rfl, hb'⟩
  exact ⟨_, rfl, rfl, rl_ok f hx, hb'⟩
theorem rd_line {w w' : World} (y : LineM) (hy : y.Ok w w.heap.size) (hb : Below w.heap.size w w') {g : Nat} (h : Rd w' w'.heap.size (some ⟨g, 0, none⟩) y.cells) : RdLines w' w'.heap.size (some ⟨g, 0, none⟩) [y] :=
  ⟨by show Rd _ _ _ ([y].flatMap LineM.cells); rw [List.flatMap_singleton]; exact h, fun x hx => by rw [List.mem_singleton.1 hx]; exact hy.next hb⟩
/-- the two cards in their boxes, and what is told so far -/
def RLnSt (w0 w W : World) (a b : CardM) (A : Option Addr) (c : Nat) (cs : List ChM) : Prop :=
  Below w.heap.size w W ∧ Blk W w.heap.size a.cells 38 ∧ Blk W (w.heap.size + 1) b.cells 38 ∧ chE.Own W (w.heap.size + 2) 79 (.slice A cs.length c) cs ∧ ∀ x ∈ cs, x.Ok w0 w0.heap.size
section
variable {w0 w W W' : World} {a b : CardM} {A A2 : Option Addr} {c c2 : Nat} {cs r2 news : List ChM}
theorem RLnSt.start (w0 w : World) (a b : CardM) : RLnSt w0 w ((w.alloc (.cells a.cells.toArray 38)).alloc (.cells b.cells.toArray 38)) a b none 0 [] :=
  ⟨((Below.refl _ _).alloc (Nat.le_refl _) _).alloc (by simp) _, (Blk.new w a.cells _).alloc _, Blk.newAt _ b.cells _ (by simp), Elem.Own.nilv _ _ _ _, fun x hx => by cases hx⟩
theorem RLnSt.next (h : RLnSt w0 w W a b A c cs) (hb : Below W.heap.size W W') : RLnSt w0 w W' a b A c cs := ⟨h.1.trans (hb.mono h.1.size), h.2.1.next hb, h.2.2.1.next hb, h.2.2.2.1.below hb (Nat.le_refl _), h.2.2.2.2⟩
theorem RLnSt.app (h : RLnSt w0 w W a b A c cs) (hn : ∀ x ∈ news, x.Ok w0 w0.heap.size) (hr : r2 = cs ++ news) (ho : chE.Own W' (w.heap.size + 2) 79 (.slice A2 r2.length c2) r2)
    (hu : ∀ S : Nat → Prop, (∀ k, (Value.slice A cs.length c).ownBlock = some k → S k) → Upd S W W') : RLnSt w0 w W' a b A2 c2 r2 := by
  have hu' := hu (fun k => (Value.slice A cs.length c).ownBlock = some k) fun _ h => h
  have hlt : ∀ k, (Value.slice A cs.length c).ownBlock = some k → w.heap.size + 2 ≤ k := fun k hk => (OwnK.under h.2.2.2.1 k hk).1
  refine ⟨h.1.trans (hu'.below h.1.size fun i _ e => by have := hlt i e; omega), h.2.1.upd hu' fun e => by have := hlt _ e; omega, h.2.2.1.upd hu' fun e => by have := hlt _ e; omega, ho, fun x hx => ?_⟩
  rw [hr] at hx
  rcases List.mem_append.1 hx with hx | hx
  · exact h.2.2.2.2 x hx
  · exact hn x hx
end
set_option maxRecDepth 100000 in
set_option maxHeartbeats 2000000 in
theorem rlines2_any (a b : CardM) (w0 w : World) (hw : Below w0.heap.size w0 w) (ha : a.Ok w0 w0.heap.size) (hb : b.Ok w0 w0.heap.size) : Calls Try.prog 44 #[a.val, b.val] w (GivesR w0 w (linesM a b)) := by
  have HA := kept (fun (W : World) (hB : Below w.heap.size w W) (f : Nat) => rline2 a f w0 W ha (hw.trans (hB.mono hw.size)))
  have HB := kept (fun (W : World) (hB : Below w.heap.size w W) (f : Nat) => rline2 b f w0 W hb (hw.trans (hB.mono hw.size)))
  have HST := kept (RLnSt.start w0 w a b)
  have HLA : Kept (∀ f, linesA a b f = (match lineOf f b.ls with
    | none => []
    | some y => if (lineOf f a.ls).map LineM.p = some y.p then [] else [(3, (a.cid, []), y.p)])) := ⟨fun _ => rfl⟩
  have HLB : Kept (∀ f, linesB a b f = if (lineOf f a.ls).isSome && !(lineOf f b.ls).isSome then [(4, (a.cid, []), (f, ⟨#[]⟩, []))] else []) := ⟨fun _ => rfl⟩
  have HLM : Kept (linesM a b = acc (linesA a b) 5 ++ acc (linesB a b) 5) := ⟨rfl⟩
  have hcid := ha.1
  clear ha hb
  generalize linesM a b = LM at *
  generalize linesA a b = LA at *
  generalize linesB a b = LB' at *
  obtain ⟨acid, aX, als, ac⟩ := a
  obtain ⟨bcid, bX, bls, bc⟩ := b
  unfold CardM.val at HA HB ⊢
  dsimp only at HA HB HLA HLB hcid ⊢
  go_enter Try.func44, Try.ntmps44
  go_wp2_with fail
  go_loopw [5, 6] (fun s i wr => ∃ (f : Nat) (cs : List ChM) (A : Option Addr) (c : Nat), 1 ≤ f ∧ f ≤ 6 ∧ i = .int .u8 (f : Int) ∧ s = .slice A cs.length c ∧ cs.length < f ∧ Kept (cs.map ChM.p = acc LA (f - 1) ∧ RLnSt w0 w wr ⟨acid, aX, als, ac⟩ ⟨bcid, bX, bls, bc⟩ A c cs)) (fun _ i _ => 6 - (intOf i).toNat)
  case atStart => exact ⟨1, [], none, 0, Nat.le_refl _, by omega, rfl, rfl, by simp, ⟨rfl, HST.out⟩⟩
  case round =>
    obtain ⟨f, cs, A, c, hf1, hf6, rfl, rfl, hcl, hin⟩ := hrel
    by_cases hlt : f ≤ 5
    · have hfn : (f : Int) ≤ 5 := by omega
      have H1 := kept hin.out.2
      have HCS := kept hin.out.1
      have HLf := kept (HLA.out f)
      have hac := kept (acc_snoc LA hf1)
      have q0 : wr.cell? ⟨w.heap.size, 0, none⟩ = some (.int .u64 (acid : Int)) := H1.out.2.1.cell (j := 0) rfl
      have q1 : wr.cell? ⟨w.heap.size, 1, none⟩ = some (.slice aX als.length ac) := H1.out.2.1.cell (j := 1) rfl
      have CA := kept (HA.out wr H1.out.1 f)
      obtain ⟨oa, hoa⟩ : ∃ o, lineOf f als = o := ⟨_, rfl⟩
      obtain ⟨ob, hob⟩ : ∃ o, lineOf f bls = o := ⟨_, rfl⟩
      rw [hoa] at CA
      rw [hoa, hob] at HLf
      clear hin
      go_wp2_with fail
      refine CA.out.mono ?_
      rintro e w2 ⟨⟨yf1, yt1, yA1, ym1, yc1⟩, rfl, hy1, hyk1, hb2⟩
      have hb2' := hb2.alloc hb2.size (.cells #[.int .u8 (yf1 : Int), .string yt1, .slice yA1 ym1.length yc1] 41)
      have H2 := kept (H1.out.next hb2')
      have HK1 := kept (Blk.new w2 [.int .u8 (yf1 : Int), .string yt1, .slice yA1 ym1.length yc1] 41)
      have HO1 := kept hyk1
      have q2 : (w2.alloc (.cells #[.int .u8 (yf1 : Int), .string yt1, .slice yA1 ym1.length yc1] 41)).cell? ⟨w.heap.size + 1, 0, none⟩ = some (.int .u64 (bcid : Int)) := H2.out.2.2.1.cell (j := 0) rfl
      have q3 : (w2.alloc (.cells #[.int .u8 (yf1 : Int), .string yt1, .slice yA1 ym1.length yc1] 41)).cell? ⟨w.heap.size + 1, 1, none⟩ = some (.slice bX bls.length bc) := H2.out.2.2.1.cell (j := 1) rfl
      have CB := kept (HB.out _ H2.out.1 f)
      rw [hob] at CB
      clear hyk1 hb2 hb2' q0 q1 CA
      unfold LineM.val
      dsimp only
      go_wp2_with fail
      refine CB.out.mono ?_
      rintro e w3 ⟨⟨yf2, yt2, yA2, ym2, yc2⟩, rfl, hy2, hyk2, hb3⟩
      have hb3' := hb3.alloc hb3.size (.cells #[.int .u8 (yf2 : Int), .string yt2, .slice yA2 ym2.length yc2] 41)
      have H3 := kept (H2.out.next hb3')
      have HL1 := kept (HK1.out.next hb3')
      have HL2 := kept (Blk.new w3 [.int .u8 (yf2 : Int), .string yt2, .slice yA2 ym2.length yc2] 41)
      have HO2 := kept hyk2
      have HY := kept (And.intro hy1 hy2)
      clear hyk2 hb3 hb3' q2 q3 CB HK1 H2 hy1 hy2
      unfold LineM.val
      dsimp only
      have HW := H3
      have z20 : (w3.alloc (.cells #[.int .u8 (yf2 : Int), .string yt2, .slice yA2 ym2.length yc2] 41)).cell? ⟨w3.heap.size, 0, none⟩ = some (.int .u8 (yf2 : Int)) := HL2.out.cell (j := 0) rfl
      have z21 : (w3.alloc (.cells #[.int .u8 (yf2 : Int), .string yt2, .slice yA2 ym2.length yc2] 41)).cell? ⟨w3.heap.size, 1, none⟩ = some (.string yt2) := HL2.out.cell (j := 1) rfl
      have z22 : (w3.alloc (.cells #[.int .u8 (yf2 : Int), .string yt2, .slice yA2 ym2.length yc2] 41)).cell? ⟨w3.heap.size, 2, none⟩ = some (.slice yA2 ym2.length yc2) := HL2.out.cell (j := 2) rfl
      have qa : (w3.alloc (.cells #[.int .u8 (yf2 : Int), .string yt2, .slice yA2 ym2.length yc2] 41)).cell? ⟨w.heap.size, 0, none⟩ = some (.int .u64 (acid : Int)) := H3.out.2.1.cell (j := 0) rfl
      cases ob with
      | none =>
        have HP9 : Kept (cs.map ChM.p = acc LA f) := ⟨by rw [hac.out, ← HCS.out, HLf.out]; simp⟩
        clear HLf hac HCS HLA
        go_wp2_with fail
        go_roundw
        case rel => exact ⟨f + 1, cs, A, c, by omega, by omega, by go_num, rfl, by omega, ⟨by rw [Nat.add_sub_cancel]; exact HP9.out, HW.out⟩⟩
        case measure => simp [intOf]; omega
      | some zb =>
        have hzb : (⟨yf2, yt2, yA2, ym2, yc2⟩ : LineM).p = zb.p := HY.out.2
        cases oa with
        | none =>
          have HACC : Kept (acc LA f = acc LA (f - 1) ++ [(3, (acid, []), (⟨yf2, yt2, yA2, ym2, yc2⟩ : LineM).p)]) := ⟨by rw [hac.out, HLf.out, hzb]; rfl⟩
          clear HLf hac HLA hzb
          have hbB : Below (w3.alloc (.cells #[.int .u8 (yf2 : Int), .string yt2, .slice yA2 ym2.length yc2] 41)).heap.size (w3.alloc (.cells #[.int .u8 (yf2 : Int), .string yt2, .slice yA2 ym2.length yc2] 41)) ((w3.alloc (.cells #[.int .u8 (yf2 : Int), .string yt2, .slice yA2 ym2.length yc2] 41)).alloc (.cells #[.int .u8 3, .int .u64 (acid : Int), .slice none 0 0, .int .u8 (yf2 : Int), .string yt2, .slice yA2 ym2.length yc2] 79)) := (Below.refl _ _).alloc (Nat.le_refl _) _
          have HB4 := kept (HW.out.next hbB)
          have hrn : chE.Rd ((w3.alloc (.cells #[.int .u8 (yf2 : Int), .string yt2, .slice yA2 ym2.length yc2] 41)).alloc (.cells #[.int .u8 3, .int .u64 (acid : Int), .slice none 0 0, .int .u8 (yf2 : Int), .string yt2, .slice yA2 ym2.length yc2] 79)) (w3.heap.size + 1 + 1) (some ⟨w3.heap.size + 1, 0, none⟩) [⟨3, ⟨acid, none, [], 0⟩, ⟨yf2, yt2, yA2, ym2, yc2⟩⟩] := Rd.newAt (w3.alloc (.cells #[.int .u8 (yf2 : Int), .string yt2, .slice yA2 ym2.length yc2] 41)) [.int .u8 3, .int .u64 (acid : Int), .slice none 0 0, .int .u8 (yf2 : Int), .string yt2, .slice yA2 ym2.length yc2] 79 (by first | rfl | simp) (Nat.le_refl _)
          have hz : (cs.length + [(⟨3, ⟨acid, none, [], 0⟩, ⟨yf2, yt2, yA2, ym2, yc2⟩⟩ : ChM)].length) * 88 ≤ 140737488355328 := by simp; omega
          have hbase : w.heap.size + 2 ≤ ((w3.alloc (.cells #[.int .u8 (yf2 : Int), .string yt2, .slice yA2 ym2.length yc2] 41)).alloc (.cells #[.int .u8 3, .int .u64 (acid : Int), .slice none 0 0, .int .u8 (yf2 : Int), .string yt2, .slice yA2 ym2.length yc2] 79)).heap.size := by have h1 := HW.out.2.2.1.lt; have h2 := hbB.size; omega
          have HNW : Kept (∀ x ∈ [(⟨3, ⟨acid, none, [], 0⟩, ⟨yf2, yt2, yA2, ym2, yc2⟩⟩ : ChM)], x.Ok w0 w0.heap.size) := ⟨fun x hx => by
            rw [List.mem_singleton.1 hx]
            exact ⟨by show 3 < 256; decide, ⟨hcid, ⟨Rd.nil, fun z hz => by cases hz⟩, Nat.zero_le _, Nat.zero_le _⟩, HO2.out⟩⟩
          have hoB := HB4.out.2.2.2.1
          clear hbB
          go_wp2_with (at_builtin; refine wpl_appEU _ chE rfl (.tmp 45) (.tmp 51) 26 rfl (w.heap.size + 2) 79 Try.underlying26 ch_info rfl _ cs rfl hoB _ _ _ _ [⟨3, ⟨acid, none, [], 0⟩, ⟨yf2, yt2, yA2, ym2, yc2⟩⟩] rfl rfl hrn hz (by decide) hbase ?_; intro A9 c9 w9 r9 hr9 hown9 hu9 hx9)
          have H9 := kept (HB4.out.app HNW.out hr9.out hown9 hu9)
          have HP9 : Kept (r9.map ChM.p = acc LA f) := ⟨by rw [hr9.out, List.map_append, HCS.out, HACC.out]; rfl⟩
          have hl9 : r9.length < f + 1 := by rw [hr9.out, List.length_append, List.length_singleton]; omega
          clear hr9 hown9 hu9 hx9 hrn hoB HNW HB4
          go_wp2_with fail
          go_roundw
          case rel => exact ⟨f + 1, r9, A9, c9, by omega, by omega, by go_num, rfl, by omega, ⟨by rw [Nat.add_sub_cancel]; exact HP9.out, H9.out⟩⟩
          case measure => simp [intOf]; omega
        | some za =>
          have hza : (⟨yf1, yt1, yA1, ym1, yc1⟩ : LineM).p = za.p := HY.out.1
          have HB5 := kept (((Below.refl _ (w3.alloc (.cells #[.int .u8 (yf2 : Int), .string yt2, .slice yA2 ym2.length yc2] 41))).alloc (Nat.le_refl _) (.cells #[.int .u8 (yf1 : Int), .string yt1, .slice yA1 ym1.length yc1] 41)).alloc (by simp) (.cells #[.int .u8 (yf2 : Int), .string yt2, .slice yA2 ym2.length yc2] 41))
          have H5 := kept (H3.out.next HB5.out)
          have HLB5 := kept (HL2.out.next HB5.out)
          have hr1 : Rd (((w3.alloc (.cells #[.int .u8 (yf2 : Int), .string yt2, .slice yA2 ym2.length yc2] 41)).alloc (.cells #[.int .u8 (yf1 : Int), .string yt1, .slice yA1 ym1.length yc1] 41)).alloc (.cells #[.int .u8 (yf2 : Int), .string yt2, .slice yA2 ym2.length yc2] 41)) (((w3.alloc (.cells #[.int .u8 (yf2 : Int), .string yt2, .slice yA2 ym2.length yc2] 41)).alloc (.cells #[.int .u8 (yf1 : Int), .string yt1, .slice yA1 ym1.length yc1] 41)).alloc (.cells #[.int .u8 (yf2 : Int), .string yt2, .slice yA2 ym2.length yc2] 41)).heap.size (some ⟨w3.heap.size + 1, 0, none⟩) (LineM.cells ⟨yf1, yt1, yA1, ym1, yc1⟩) := ((Rd.newAt (w3.alloc (.cells #[.int .u8 (yf2 : Int), .string yt2, .slice yA2 ym2.length yc2] 41)) (LineM.cells ⟨yf1, yt1, yA1, ym1, yc1⟩) 41 (by simp) (Nat.le_refl _)).alloc (by simp) _).more (by simp)
          have hr2 : Rd (((w3.alloc (.cells #[.int .u8 (yf2 : Int), .string yt2, .slice yA2 ym2.length yc2] 41)).alloc (.cells #[.int .u8 (yf1 : Int), .string yt1, .slice yA1 ym1.length yc1] 41)).alloc (.cells #[.int .u8 (yf2 : Int), .string yt2, .slice yA2 ym2.length yc2] 41)) (((w3.alloc (.cells #[.int .u8 (yf2 : Int), .string yt2, .slice yA2 ym2.length yc2] 41)).alloc (.cells #[.int .u8 (yf1 : Int), .string yt1, .slice yA1 ym1.length yc1] 41)).alloc (.cells #[.int .u8 (yf2 : Int), .string yt2, .slice yA2 ym2.length yc2] 41)).heap.size (some ⟨w3.heap.size + 1 + 1, 0, none⟩) (LineM.cells ⟨yf2, yt2, yA2, ym2, yc2⟩) := Rd.newAt ((w3.alloc (.cells #[.int .u8 (yf2 : Int), .string yt2, .slice yA2 ym2.length yc2] 41)).alloc (.cells #[.int .u8 (yf1 : Int), .string yt1, .slice yA1 ym1.length yc1] 41)) (LineM.cells ⟨yf2, yt2, yA2, ym2, yc2⟩) 41 (by simp) (by simp)
          have CS := kept (rlines_any (some ⟨w3.heap.size + 1, 0, none⟩) (some ⟨w3.heap.size + 1 + 1, 0, none⟩) 1 1 1 1 [⟨yf1, yt1, yA1, ym1, yc1⟩] [⟨yf2, yt2, yA2, ym2, yc2⟩] (((w3.alloc (.cells #[.int .u8 (yf2 : Int), .string yt2, .slice yA2 ym2.length yc2] 41)).alloc (.cells #[.int .u8 (yf1 : Int), .string yt1, .slice yA1 ym1.length yc1] 41)).alloc (.cells #[.int .u8 (yf2 : Int), .string yt2, .slice yA2 ym2.length yc2] 41)) rfl rfl (rd_line _ HO1.out (hw.trans (H5.out.1.mono hw.size)) hr1) (rd_line _ HO2.out (hw.trans (H5.out.1.mono hw.size)) hr2) (by simp))
          clear hr1 hr2
          have z10 : (w3.alloc (.cells #[.int .u8 (yf2 : Int), .string yt2, .slice yA2 ym2.length yc2] 41)).cell? ⟨w2.heap.size, 0, none⟩ = some (.int .u8 (yf1 : Int)) := HL1.out.cell (j := 0) rfl
          have z11 : (w3.alloc (.cells #[.int .u8 (yf2 : Int), .string yt2, .slice yA2 ym2.length yc2] 41)).cell? ⟨w2.heap.size, 1, none⟩ = some (.string yt1) := HL1.out.cell (j := 1) rfl
          have z12 : (w3.alloc (.cells #[.int .u8 (yf2 : Int), .string yt2, .slice yA2 ym2.length yc2] 41)).cell? ⟨w2.heap.size, 2, none⟩ = some (.slice yA1 ym1.length yc1) := HL1.out.cell (j := 2) rfl
          have hone : ([⟨yf1, yt1, yA1, ym1, yc1⟩].map LineM.p = [⟨yf2, yt2, yA2, ym2, yc2⟩].map LineM.p) ↔ (⟨yf1, yt1, yA1, ym1, yc1⟩ : LineM).p = (⟨yf2, yt2, yA2, ym2, yc2⟩ : LineM).p := ⟨fun e => List.head_eq_of_cons_eq e, fun e => by simp only [List.map_cons, List.map_nil]; rw [e]⟩
          rw [decide_eq_decide.2 hone] at CS
          by_cases hpp : (⟨yf1, yt1, yA1, ym1, yc1⟩ : LineM).p = (⟨yf2, yt2, yA2, ym2, yc2⟩ : LineM).p
          · rw [decide_eq_true hpp] at CS
            have HP9 : Kept (cs.map ChM.p = acc LA f) := ⟨by
              rw [hac.out, ← HCS.out, HLf.out]
              have e : (some za).map LineM.p = some zb.p := by rw [← hzb, ← hpp, hza]; rfl
              dsimp only
              rw [if_pos e, List.append_nil]⟩
            clear HLf hac HCS HLA hzb hza hpp
            go_wp2_with fail
            refine CS.out.mono ?_
            rintro e w5 ⟨rfl, q5, hq5⟩
            have hb5 := below_drewN (Below.refl (((w3.alloc (.cells #[.int .u8 (yf2 : Int), .string yt2, .slice yA2 ym2.length yc2] 41)).alloc (.cells #[.int .u8 (yf1 : Int), .string yt1, .slice yA1 ym1.length yc1] 41)).alloc (.cells #[.int .u8 (yf2 : Int), .string yt2, .slice yA2 ym2.length yc2] 41)).heap.size (((w3.alloc (.cells #[.int .u8 (yf2 : Int), .string yt2, .slice yA2 ym2.length yc2] 41)).alloc (.cells #[.int .u8 (yf1 : Int), .string yt1, .slice yA1 ym1.length yc1] 41)).alloc (.cells #[.int .u8 (yf2 : Int), .string yt2, .slice yA2 ym2.length yc2] 41))) q5
            rw [← hq5] at hb5
            have HW := kept (H5.out.next hb5)
            clear hb5 hq5 CS H3 H5 HLB5 HB5 z10 z11 z12 z20 z21 z22 qa
            go_wp2_with fail
            go_roundw
            case rel => exact ⟨f + 1, cs, A, c, by omega, by omega, by go_num, rfl, by omega, ⟨by rw [Nat.add_sub_cancel]; exact HP9.out, HW.out⟩⟩
            case measure => simp [intOf]; omega
          · rw [decide_eq_false hpp] at CS
            have HACC : Kept (acc LA f = acc LA (f - 1) ++ [(3, (acid, []), (⟨yf2, yt2, yA2, ym2, yc2⟩ : LineM).p)]) := ⟨by
              rw [hac.out, HLf.out]
              have e : ¬ (some za).map LineM.p = some zb.p := fun e => hpp (by rw [hza, hzb]; exact Option.some.inj e)
              dsimp only
              rw [if_neg e, hzb]⟩
            clear HLf hac HLA hzb hza hpp
            go_wp2_with fail
            refine CS.out.mono ?_
            rintro e w5 ⟨rfl, q5, hq5⟩
            have hb5 := below_drewN (Below.refl (((w3.alloc (.cells #[.int .u8 (yf2 : Int), .string yt2, .slice yA2 ym2.length yc2] 41)).alloc (.cells #[.int .u8 (yf1 : Int), .string yt1, .slice yA1 ym1.length yc1] 41)).alloc (.cells #[.int .u8 (yf2 : Int), .string yt2, .slice yA2 ym2.length yc2] 41)).heap.size (((w3.alloc (.cells #[.int .u8 (yf2 : Int), .string yt2, .slice yA2 ym2.length yc2] 41)).alloc (.cells #[.int .u8 (yf1 : Int), .string yt1, .slice yA1 ym1.length yc1] 41)).alloc (.cells #[.int .u8 (yf2 : Int), .string yt2, .slice yA2 ym2.length yc2] 41))) q5
            rw [← hq5] at hb5
            have HW := kept (H5.out.next hb5)
            have HL5 := kept (HLB5.out.next hb5)
            clear hb5 hq5 CS H3 H5 HLB5 HB5 z10 z11 z12 z20 z21 z22 qa HL2
            have z20 : w5.cell? ⟨w3.heap.size, 0, none⟩ = some (.int .u8 (yf2 : Int)) := HL5.out.cell (j := 0) rfl
            have z21 : w5.cell? ⟨w3.heap.size, 1, none⟩ = some (.string yt2) := HL5.out.cell (j := 1) rfl
            have z22 : w5.cell? ⟨w3.heap.size, 2, none⟩ = some (.slice yA2 ym2.length yc2) := HL5.out.cell (j := 2) rfl
            have qa : w5.cell? ⟨w.heap.size, 0, none⟩ = some (.int .u64 (acid : Int)) := HW.out.2.1.cell (j := 0) rfl
            have hbB : Below w5.heap.size w5 (w5.alloc (.cells #[.int .u8 3, .int .u64 (acid : Int), .slice none 0 0, .int .u8 (yf2 : Int), .string yt2, .slice yA2 ym2.length yc2] 79)) := (Below.refl _ _).alloc (Nat.le_refl _) _
            have HB4 := kept (HW.out.next hbB)
            have hrn : chE.Rd (w5.alloc (.cells #[.int .u8 3, .int .u64 (acid : Int), .slice none 0 0, .int .u8 (yf2 : Int), .string yt2, .slice yA2 ym2.length yc2] 79)) (w5.heap.size + 1) (some ⟨w5.heap.size, 0, none⟩) [⟨3, ⟨acid, none, [], 0⟩, ⟨yf2, yt2, yA2, ym2, yc2⟩⟩] := Rd.newAt w5 [.int .u8 3, .int .u64 (acid : Int), .slice none 0 0, .int .u8 (yf2 : Int), .string yt2, .slice yA2 ym2.length yc2] 79 (by first | rfl | simp) (Nat.le_refl _)
            have hz : (cs.length + [(⟨3, ⟨acid, none, [], 0⟩, ⟨yf2, yt2, yA2, ym2, yc2⟩⟩ : ChM)].length) * 88 ≤ 140737488355328 := by simp; omega
            have hbase : w.heap.size + 2 ≤ (w5.alloc (.cells #[.int .u8 3, .int .u64 (acid : Int), .slice none 0 0, .int .u8 (yf2 : Int), .string yt2, .slice yA2 ym2.length yc2] 79)).heap.size := by have h1 := HW.out.2.2.1.lt; have h2 := hbB.size; omega
            have HNW : Kept (∀ x ∈ [(⟨3, ⟨acid, none, [], 0⟩, ⟨yf2, yt2, yA2, ym2, yc2⟩⟩ : ChM)], x.Ok w0 w0.heap.size) := ⟨fun x hx => by
              rw [List.mem_singleton.1 hx]
              exact ⟨by show 3 < 256; decide, ⟨hcid, ⟨Rd.nil, fun z hz => by cases hz⟩, Nat.zero_le _, Nat.zero_le _⟩, HO2.out⟩⟩
            have hoB := HB4.out.2.2.2.1
            clear hbB
            go_wp2_with (at_builtin; refine wpl_appEU _ chE rfl (.tmp 45) (.tmp 51) 26 rfl (w.heap.size + 2) 79 Try.underlying26 ch_info rfl _ cs rfl hoB _ _ _ _ [⟨3, ⟨acid, none, [], 0⟩, ⟨yf2, yt2, yA2, ym2, yc2⟩⟩] rfl rfl hrn hz (by decide) hbase ?_; intro A9 c9 w9 r9 hr9 hown9 hu9 hx9)
            have H9 := kept (HB4.out.app HNW.out hr9.out hown9 hu9)
            have HP9 : Kept (r9.map ChM.p = acc LA f) := ⟨by rw [hr9.out, List.map_append, HCS.out, HACC.out]; rfl⟩
            have hl9 : r9.length < f + 1 := by rw [hr9.out, List.length_append, List.length_singleton]; omega
            clear hr9 hown9 hu9 hx9 hrn hoB HNW HB4
            go_wp2_with fail
            go_roundw
            case rel => exact ⟨f + 1, r9, A9, c9, by omega, by omega, by go_num, rfl, by omega, ⟨by rw [Nat.add_sub_cancel]; exact HP9.out, H9.out⟩⟩
            case measure => simp [intOf]; omega
    · obtain rfl : f = 6 := by omega
      have HIN := kept hin.out
      clear hin
      rw [show ((6 : Nat) : Int) = 6 from rfl]
      go_wp2_with fail
      go_loopw [5, 11] (fun s i wr => ∃ (f : Nat) (cs : List ChM) (A : Option Addr) (c : Nat), 1 ≤ f ∧ f ≤ 6 ∧ i = .int .u8 (f : Int) ∧ s = .slice A cs.length c ∧ cs.length < f + 5 ∧ Kept (cs.map ChM.p = acc LA 5 ++ acc LB' (f - 1) ∧ RLnSt w0 w wr ⟨acid, aX, als, ac⟩ ⟨bcid, bX, bls, bc⟩ A c cs)) (fun _ i _ => 6 - (intOf i).toNat)
      case atStart => exact ⟨1, cs, A, c, Nat.le_refl _, by omega, rfl, rfl, by omega, ⟨by rw [HIN.out.1]; simp [acc], HIN.out.2⟩⟩
      case round =>
        clear HIN hcl
        obtain ⟨f, cs, A, c, hf1, hf6, rfl, rfl, hcl, hin⟩ := hrel
        by_cases hlt : f ≤ 5
        · have hfn : (f : Int) ≤ 5 := by omega
          have H1 := kept hin.out.2
          have HCS := kept hin.out.1
          have HLf := kept (HLB.out f)
          have hac := kept (acc_snoc LB' hf1)
          have q0 : wr.cell? ⟨w.heap.size, 0, none⟩ = some (.int .u64 (acid : Int)) := H1.out.2.1.cell (j := 0) rfl
          have q1 : wr.cell? ⟨w.heap.size, 1, none⟩ = some (.slice aX als.length ac) := H1.out.2.1.cell (j := 1) rfl
          have CA := kept (HA.out wr H1.out.1 f)
          obtain ⟨oa, hoa⟩ : ∃ o, lineOf f als = o := ⟨_, rfl⟩
          obtain ⟨ob, hob⟩ : ∃ o, lineOf f bls = o := ⟨_, rfl⟩
          rw [hoa] at CA
          rw [hoa, hob] at HLf
          clear hin
          go_wp2_with fail
          refine CA.out.mono ?_
          rintro e w2 ⟨⟨yf1, yt1, yA1, ym1, yc1⟩, rfl, hy1, hyk1, hb2⟩
          have hb2' := hb2.alloc hb2.size (.cells #[.int .u8 (yf1 : Int), .string yt1, .slice yA1 ym1.length yc1] 41)
          have H2 := kept (H1.out.next hb2')
          have HK1 := kept (Blk.new w2 [.int .u8 (yf1 : Int), .string yt1, .slice yA1 ym1.length yc1] 41)
          have HO1 := kept hyk1
          have q2 : (w2.alloc (.cells #[.int .u8 (yf1 : Int), .string yt1, .slice yA1 ym1.length yc1] 41)).cell? ⟨w.heap.size + 1, 0, none⟩ = some (.int .u64 (bcid : Int)) := H2.out.2.2.1.cell (j := 0) rfl
          have q3 : (w2.alloc (.cells #[.int .u8 (yf1 : Int), .string yt1, .slice yA1 ym1.length yc1] 41)).cell? ⟨w.heap.size + 1, 1, none⟩ = some (.slice bX bls.length bc) := H2.out.2.2.1.cell (j := 1) rfl
          have CB := kept (HB.out _ H2.out.1 f)
          rw [hob] at CB
          clear hyk1 hb2 hb2' q0 q1 CA
          unfold LineM.val
          dsimp only
          go_wp2_with fail
          refine CB.out.mono ?_
          rintro e w3 ⟨⟨yf2, yt2, yA2, ym2, yc2⟩, rfl, hy2, hyk2, hb3⟩
          have hb3' := hb3.alloc hb3.size (.cells #[.int .u8 (yf2 : Int), .string yt2, .slice yA2 ym2.length yc2] 41)
          have H3 := kept (H2.out.next hb3')
          have HL1 := kept (HK1.out.next hb3')
          have HL2 := kept (Blk.new w3 [.int .u8 (yf2 : Int), .string yt2, .slice yA2 ym2.length yc2] 41)
          have HO2 := kept hyk2
          have HY := kept (And.intro hy1 hy2)
          clear hyk2 hb3 hb3' q2 q3 CB HK1 H2 hy1 hy2
          unfold LineM.val
          dsimp only
          have HW := H3
          have qa : (w3.alloc (.cells #[.int .u8 (yf2 : Int), .string yt2, .slice yA2 ym2.length yc2] 41)).cell? ⟨w.heap.size, 0, none⟩ = some (.int .u64 (acid : Int)) := H3.out.2.1.cell (j := 0) rfl
          cases oa with
          | none =>
            have HP9 : Kept (cs.map ChM.p = acc LA 5 ++ acc LB' f) := ⟨by rw [hac.out, ← List.append_assoc, ← HCS.out, HLf.out]; simp⟩
            clear HLf hac HCS
            go_wp2_with fail
            go_roundw
            case rel => exact ⟨f + 1, cs, A, c, by omega, by omega, by go_num, rfl, by omega, ⟨by rw [Nat.add_sub_cancel]; exact HP9.out, HW.out⟩⟩
            case measure => simp [intOf]; omega
          | some za =>
            cases ob with
            | some zb =>
              have HP9 : Kept (cs.map ChM.p = acc LA 5 ++ acc LB' f) := ⟨by rw [hac.out, ← List.append_assoc, ← HCS.out, HLf.out]; simp⟩
              clear HLf hac HCS
              go_wp2_with fail
              go_roundw
              case rel => exact ⟨f + 1, cs, A, c, by omega, by omega, by go_num, rfl, by omega, ⟨by rw [Nat.add_sub_cancel]; exact HP9.out, HW.out⟩⟩
              case measure => simp [intOf]; omega
            | none =>
              have HACC : Kept (acc LB' f = acc LB' (f - 1) ++ [(4, (acid, []), ((f : Nat), (⟨#[]⟩ : ByteArray), ([] : List ByteArray)))]) := ⟨by rw [hac.out, HLf.out]; rfl⟩
              clear HLf hac
              have hbB : Below (w3.alloc (.cells #[.int .u8 (yf2 : Int), .string yt2, .slice yA2 ym2.length yc2] 41)).heap.size (w3.alloc (.cells #[.int .u8 (yf2 : Int), .string yt2, .slice yA2 ym2.length yc2] 41)) ((w3.alloc (.cells #[.int .u8 (yf2 : Int), .string yt2, .slice yA2 ym2.length yc2] 41)).alloc (.cells #[.int .u8 4, .int .u64 (acid : Int), .slice none 0 0, .int .u8 (f : Int), .string ⟨#[]⟩, .slice none 0 0] 79)) := (Below.refl _ _).alloc (Nat.le_refl _) _
              have HB4 := kept (HW.out.next hbB)
              have hrn : chE.Rd ((w3.alloc (.cells #[.int .u8 (yf2 : Int), .string yt2, .slice yA2 ym2.length yc2] 41)).alloc (.cells #[.int .u8 4, .int .u64 (acid : Int), .slice none 0 0, .int .u8 (f : Int), .string ⟨#[]⟩, .slice none 0 0] 79)) (w3.heap.size + 1 + 1) (some ⟨w3.heap.size + 1, 0, none⟩) [⟨4, ⟨acid, none, [], 0⟩, ⟨f, ⟨#[]⟩, none, [], 0⟩⟩] := Rd.newAt (w3.alloc (.cells #[.int .u8 (yf2 : Int), .string yt2, .slice yA2 ym2.length yc2] 41)) [.int .u8 4, .int .u64 (acid : Int), .slice none 0 0, .int .u8 (f : Int), .string ⟨#[]⟩, .slice none 0 0] 79 (by first | rfl | simp) (Nat.le_refl _)
              have hz : (cs.length + [(⟨4, ⟨acid, none, [], 0⟩, ⟨f, ⟨#[]⟩, none, [], 0⟩⟩ : ChM)].length) * 88 ≤ 140737488355328 := by simp; omega
              have hbase : w.heap.size + 2 ≤ ((w3.alloc (.cells #[.int .u8 (yf2 : Int), .string yt2, .slice yA2 ym2.length yc2] 41)).alloc (.cells #[.int .u8 4, .int .u64 (acid : Int), .slice none 0 0, .int .u8 (f : Int), .string ⟨#[]⟩, .slice none 0 0] 79)).heap.size := by have h1 := HW.out.2.2.1.lt; have h2 := hbB.size; omega
              have HNW : Kept (∀ x ∈ [(⟨4, ⟨acid, none, [], 0⟩, ⟨f, ⟨#[]⟩, none, [], 0⟩⟩ : ChM)], x.Ok w0 w0.heap.size) := ⟨fun x hx => by
                rw [List.mem_singleton.1 hx]
                exact ⟨by show 4 < 256; decide, ⟨hcid, ⟨Rd.nil, fun z hz => by cases hz⟩, Nat.zero_le _, Nat.zero_le _⟩, ⟨Rd.nil, (by show f < 256; omega), Nat.zero_le _, Nat.zero_le _⟩⟩⟩
              have hoB := HB4.out.2.2.2.1
              clear hbB
              go_wp2_with (at_builtin; refine wpl_appEU _ chE rfl (.tmp 74) (.tmp 81) 26 rfl (w.heap.size + 2) 79 Try.underlying26 ch_info rfl _ cs rfl hoB _ _ _ _ [⟨4, ⟨acid, none, [], 0⟩, ⟨f, ⟨#[]⟩, none, [], 0⟩⟩] rfl rfl hrn hz (by decide) hbase ?_; intro A9 c9 w9 r9 hr9 hown9 hu9 hx9)
              have H9 := kept (HB4.out.app HNW.out hr9.out hown9 hu9)
              have HP9 : Kept (r9.map ChM.p = acc LA 5 ++ acc LB' f) := ⟨by rw [hr9.out, List.map_append, HCS.out, HACC.out, List.append_assoc]; rfl⟩
              have hl9 : r9.length < f + 1 + 5 := by rw [hr9.out, List.length_append, List.length_singleton]; omega
              clear hr9 hown9 hu9 hx9 hrn hoB HNW HB4
              go_wp2_with fail
              go_roundw
              case rel => exact ⟨f + 1, r9, A9, c9, by omega, by omega, by go_num, rfl, by omega, ⟨by rw [Nat.add_sub_cancel]; exact HP9.out, H9.out⟩⟩
              case measure => simp [intOf]; omega
        · obtain rfl : f = 6 := by omega
          have HF := kept (And.intro (hin.out.1.trans HLM.out.symm) hin.out.2)
          clear hin
          go_wp2_with fail
          go_ret
          exact ⟨A, c, cs, rfl, HF.out.1, HF.out.2.2.2.2.1.mono (by omega), HF.out.2.2.2.2.2, HF.out.2.1⟩
end Go.Proofs.Ytnmcclkpgbdenaa.Chg
