import Derived.Test.YtfkfpanhbanljaaDoorListSort
import Derived.Test.YtfkfpanhbanljaaDoorSortYC
import Derived.Test.YtfkfpanhbanljaaDoorSet42
import Derived.Test.YtfkfpanhbanljaaDoorSet39
import Derived.Test.YtfkfpanhbanljaaDoorSet45
import Derived.BigQuiet
import Derived.Deep.DeepCutAuto
import Derived.KernelRfl
/- Layer 44 (list): the first bytes of titles. -/
namespace Go.Proofs.YtfkfpanhbanljaaDoor.List44
open Go.RowKit Go.Proofs.YtfkfpanhbanljaaDoor.Mem Go.Proofs.YtfkfpanhbanljaaDoor.Card Go.Proofs.YtfkfpanhbanljaaDoor.Laid Go.Proofs.YtfkfpanhbanljaaDoor.Fold Go.Proofs.YtfkfpanhbanljaaDoor.Twin Go.Proofs.YtfkfpanhbanljaaDoor.Stab

/-- the first byte, if there is one -/
def headB (x : CardM) : List Nat := (sB (foldB (titleOf x.ls))).take 1
def headsL (l : List CardM) : List Nat := l.flatMap headB
/-- bytes are sorted, if they are no more than so many -/
def SortOk (N : Nat) : Prop := ∀ (base : Nat) (A : Option Addr) (c : Nat) (l : List Nat) (w : World), Own w base 5 (.slice A l.length c) (BB l) → l.length ≤ N →
    Calls Tryd.prog 44 #[.slice A l.length c] w fun e w' => e = .returned (.tuple #[]) ∧ ∃ l', l'.Perm l ∧ l'.Pairwise (· ≤ ·) ∧ Own w' base 5 (.slice A l.length c) (BB l') ∧ Upd (fun k => (Value.slice A l.length c).ownBlock = some k) w w'
theorem sortOk12 : SortOk 12 := fun base A c l w h hn => SortY.sort_small base A c l w h hn
theorem head_one {s : ByteArray} (h : 0 < s.size) : (sB s).take 1 = [(s[0]'h).toNat] := by
  have h2 : 0 < (sB s).length := by rw [sB_length]; exact h
  rw [List.take_succ_eq_append_getElem h2]
  simp [sB]
  rfl
theorem head_none : (sB ⟨#[]⟩).take 1 = [] := rfl
theorem heads_next {l : List CardM} {k : Nat} {x : CardM} (hx : l[k]? = some x) : headsL (l.take (k + 1)) = headsL (l.take k) ++ headB x := by
  obtain ⟨h1, h2⟩ := List.getElem?_eq_some_iff.1 hx
  unfold headsL
  rw [List.take_succ_eq_append_getElem h1, h2, List.flatMap_append]
  simp
theorem heads_len : ∀ (l : List CardM), (headsL l).length ≤ l.length
  | [] => Nat.le_refl _
  | x :: l => by
    have := heads_len l
    unfold headsL at this ⊢
    rw [List.flatMap_cons, List.length_append, List.length_cons]
    have h2 : (headB x).length ≤ 1 := by unfold headB; rw [List.length_take]; omega
    omega
theorem dd_same (l : List Nat) : SortY.dd l = SortW.dd l := rfl
set_option maxRecDepth 100000 in
set_option maxHeartbeats 4000000 in
theorem heads_any (N : Nat) (hso : SortOk N) (hN : N ≤ 1000) (X : Option Addr) (l : List CardM) (c : Nat) (w : World) (hr : RdCards w w.heap.size X l) (hn : l.length ≤ N) (hs : Short l) (hm : ML w) :
    Calls Tryd.prog 19 #[.slice X l.length c] w fun e w' => e = .returned (.string (strB (normL (headsL l)))) ∧ Below w.heap.size w w' := by
  have HR := kept hr
  have HS := kept hs
  have HM := kept hm
  have HSO := kept hso
  have HNN : Kept (l.length ≤ N) := ⟨hn⟩
  have hl1000 : l.length ≤ 1000 := by omega
  have H0 : Kept (Below w.heap.size w w) := ⟨Below.refl _ _⟩
  obtain ⟨T0, hT0⟩ : ∃ T0, strB (normL (headsL l)) = T0 := ⟨_, rfl⟩
  have HT0 := kept hT0
  rw [hT0]
  clear hr hs hm hso hn hN hT0
  go_enter Tryd.func19, Tryd.ntmps19
  go_wp2_with fail
  go_loopw [3, 9] (fun s i wr => ∃ (k : Nat) (A : Option Addr) (ca : Nat) (out : List Nat), k ≤ l.length ∧ i = .int .i64 (k : Int) ∧ s = .slice A out.length ca ∧ out.length ≤ k ∧ Kept (out = headsL (l.take k)) ∧ Kept (SortY.byteE.Own wr w.heap.size 5 (.slice A out.length ca) out ∧ Below w.heap.size w wr)) (fun _ i _ => l.length - (intOf i).toNat)
  case atStart => exact ⟨0, none, 0, [], Nat.zero_le _, rfl, rfl, Nat.zero_le _, ⟨rfl⟩, ⟨Elem.Own.nilv _ _ _ _, H0.out⟩⟩
  case round =>
    clear H0
    obtain ⟨k, A, ca, out, hk, rfl, rfl, hol, HO, HW⟩ := hrel
    by_cases hlt : k < l.length
    · obtain ⟨x, hx⟩ : ∃ x, l[k]? = some x := ⟨_, List.getElem?_eq_getElem hlt⟩
      obtain ⟨b1, o1, rfl, hbB, x0, x1, hyo⟩ := HR.out.at_ hx
      have hkn : (k : Int) < (l.length : Int) := by omega
      have x0 := (HW.out.2.cell (p := ⟨b1, o1 + k * 2, none⟩) hbB).trans x0
      have x1 := (HW.out.2.cell (p := ⟨b1, o1 + k * 2 + 1, none⟩) hbB).trans x1
      have HNX := kept (heads_next hx)
      have HHB : Kept (headB x = (sB (foldB (titleOf x.ls))).take 1) := ⟨rfl⟩
      have CT := kept (fun (W : World) (hb : Below w.heap.size w W) => title_any x W (hyo.next hb))
      have CF := kept (fun (W : World) (hb : Below w.heap.size w W) => fold_any (titleOf x.ls) W (HS.out x (List.mem_of_getElem? hx)) (HM.out.next hb))
      obtain ⟨xcid, xX, xls, xc⟩ := x
      unfold CardM.val at CT
      dsimp only at x0 x1 CT CF HHB
      have hbA : Below wr.heap.size wr (wr.alloc (.cells #[.int .u64 (xcid : Int), .slice xX xls.length xc] 28)) := (Below.refl _ _).alloc (Nat.le_refl _) _
      have HW2 : Kept (SortY.byteE.Own (wr.alloc (.cells #[.int .u64 (xcid : Int), .slice xX xls.length xc] 28)) w.heap.size 5 (.slice A out.length ca) out ∧ Below w.heap.size w (wr.alloc (.cells #[.int .u64 (xcid : Int), .slice xX xls.length xc] 28))) := ⟨HW.out.1.next hbA, HW.out.2.trans (hbA.mono HW.out.2.size)⟩
      have CT2 := kept (CT.out _ HW2.out.2)
      clear hx hbA hyo HW CT
      generalize headB ⟨xcid, xX, xls, xc⟩ = hb at *
      go_wp2_with fail
      refine CT2.out.mono ?_
      rintro e w2 ⟨rfl, hb2⟩
      have HW3 : Kept (SortY.byteE.Own w2 w.heap.size 5 (.slice A out.length ca) out ∧ Below w.heap.size w w2) := ⟨HW2.out.1.next hb2, HW2.out.2.trans (hb2.mono HW2.out.2.size)⟩
      have CF2 := kept (CF.out _ HW3.out.2)
      clear hb2 CT2 HW2 CF x0 x1
      generalize titleOf xls = ti at *
      generalize foldB ti = fs at *
      go_wp2_with fail
      refine CF2.out.mono ?_
      rintro e w3 ⟨rfl, hb3⟩
      have HW4 : Kept (SortY.byteE.Own w3 w.heap.size 5 (.slice A out.length ca) out ∧ Below w.heap.size w w3) := ⟨HW3.out.1.next hb3, HW3.out.2.trans (hb3.mono HW3.out.2.size)⟩
      clear hb3 CF2 HW3
      by_cases h0 : fs = ⟨#[]⟩
      · subst h0
        have HO2 : Kept (out = headsL (l.take (k + 1))) := ⟨by rw [HNX.out, HHB.out, head_none, List.append_nil]; exact HO.out⟩
        clear HNX HHB HO
        go_wp2_with fail
        go_roundw
        case rel => exact ⟨k + 1, A, ca, out, by omega, by go_num, rfl, by omega, HO2, HW4⟩
        case measure => simp [intOf]; omega
      · have e0 : (fs.toList == []) = false := by
          rw [show ([] : List UInt8) = (⟨#[]⟩ : ByteArray).toList from by rw [ByteArray.toList_eq], str_beq]
          exact decide_eq_false h0
        have hpos : 0 < fs.size := by
          rcases Nat.eq_zero_or_pos fs.size with h1 | h1
          · exact absurd (ByteArray.ext (Array.eq_empty_of_size_eq_zero h1)) h0
          · exact h1
        have hposi : (0 : Int) < (fs.size : Int) := by omega
        have HO2 : Kept (headsL (l.take (k + 1)) = out ++ [(fs[0]'hpos).toNat]) := ⟨by rw [HNX.out, HHB.out, head_one hpos, HO.out]⟩
        obtain ⟨y, hy⟩ : ∃ y, fs[0]'hpos = y := ⟨_, rfl⟩
        rw [hy] at HO2
        have HBB := kept (HW4.out.2.alloc HW4.out.2.size (.cells #[.int .u8 (y.toNat : Int)] 5))
        have hoB := HW4.out.1.alloc (.cells #[.int .u8 (y.toNat : Int)] 5)
        have hrn : SortY.byteE.Rd (w3.alloc (.cells #[.int .u8 (y.toNat : Int)] 5)) (w3.heap.size + 1) (some ⟨w3.heap.size, 0, none⟩) [y.toNat] := Mem.Rd.new _ [.int .u8 (y.toNat : Int)] 5
        have hz : (out.length + [y.toNat].length) * 1 ≤ 140737488355328 := by simp; omega
        have hbase : w.heap.size ≤ (w3.alloc (.cells #[.int .u8 (y.toNat : Int)] 5)).heap.size := HBB.out.size
        clear HNX HHB HO h0 HW4
        go_wp2_with (at_builtin; refine wpl_appE _ SortY.byteE rfl (.tmp 18) (.tmp 21) 58 rfl w.heap.size 5 Tryd.underlying58 u8_info rfl _ out rfl hoB _ _ _ _ [y.toNat] rfl rfl hrn hz (by decide) hbase ?_; intro A2 c2 w4 r2 hr2 hown2 hb4)
        have HW5 := kept (And.intro hown2 (HBB.out.trans hb4))
        have hl2 : r2.length ≤ k + 1 := by rw [hr2.out]; simp; omega
        have HO3 : Kept (r2 = headsL (l.take (k + 1))) := ⟨by rw [hr2.out, HO2.out]⟩
        clear hr2 hown2 hb4 HBB hoB hrn hz hbase HO2
        go_wp2_with fail
        go_roundw
        case rel => exact ⟨k + 1, A2, c2, r2, by omega, by go_num, rfl, hl2, HO3, HW5⟩
        case measure => simp [intOf]; omega
    · obtain rfl : k = l.length := by omega
      have hge : ¬ (l.length : Int) < (l.length : Int) := by omega
      have HO2 : Kept (out = headsL l) := ⟨by rw [HO.out, List.take_length]⟩
      have CS := kept (HSO.out w.heap.size A ca out wr (SortY.byte_own.2 HW.out.1) (by have h1 := heads_len l; have h2 := HNN.out; rw [HO2.out]; omega))
      have HB := kept HW.out.2
      have HLO := kept (SortY.byte_own.2 HW.out.1)
      have HOL : Kept (out.length ≤ 1000) := ⟨by omega⟩
      clear HW HO HSO
      go_wp2_with fail
      refine CS.out.mono ?_
      rintro e w2 ⟨rfl, l', hp, hso, ho, hu⟩
      have hl' : l'.length = out.length := hp.length_eq
      rw [← hl'] at ho hu
      have CC := kept (SortY.compact_own w.heap.size A ca l' w2 ho (by rw [hl']; have := HOL.out; omega))
      have HB2 : Kept (Below w.heap.size w w2) := ⟨HB.out.trans (hu.below HB.out.size fun i hi e => by rw [hl'] at e; exact (OwnK.under HLO.out i e).1)⟩
      have HDD : Kept (strB (SortY.dd l') = T0) := ⟨by rw [dd_same, dd_norm hp hso, HO2.out, HT0.out]⟩
      have HLO2 := kept ho
      have hll : out.length = l'.length := hl'.symm
      rw [hl'] at CC
      generalize out.length = ol at *
      clear hp hso ho hu CS HB HLO hll
      have HLL := kept hl'
      clear hl'
      go_wp2_with fail
      refine CC.out.mono ?_
      rintro e w3 ⟨rfl, ho3, hu3⟩
      have HB3 : Kept (Below w.heap.size w w3) := ⟨HB2.out.trans (hu3.below HB2.out.size fun i hi e => by
        have h1 := HLO2.out
        rw [HLL.out] at h1
        exact (OwnK.under h1 i e).1)⟩
      have hcs := run_str w3 _ A (SortY.dd l').length ca (SortY.dd l') rfl ho3.rd
      rw [HDD.out] at hcs
      clear ho3 hu3 HB2 CC HLO2
      generalize (SortY.dd l').length = dl at *
      go_wp2_with fail
      go_ret
      exact ⟨rfl, HB3.out⟩
end Go.Proofs.YtfkfpanhbanljaaDoor.List44

/- Layer 44 (list): the chapter's example. -/
namespace Go.Proofs.YtfkfpanhbanljaaDoor.List44
open Go.RowKit Go.Proofs.YtfkfpanhbanljaaDoor.Mem Go.Proofs.YtfkfpanhbanljaaDoor.Card Go.Proofs.YtfkfpanhbanljaaDoor.Laid Go.Proofs.YtfkfpanhbanljaaDoor.Fold Go.Proofs.YtfkfpanhbanljaaDoor.Twin Go.Proofs.YtfkfpanhbanljaaDoor.Stab

/-- a card with a title -/
def oneC (cid : Nat) (s : ByteArray) (g : Nat) : CardM := ⟨cid, some ⟨g, 0, none⟩, [⟨1, s, none, [], 0⟩], 1⟩
set_option maxRecDepth 100000 in
theorem lone_any (cid : Nat) (s : ByteArray) (w : World) : Calls Tryd.prog 32 #[.int .u64 (cid : Int), .string s] w fun e w' => e = .returned (oneC cid s (w.heap.size + 1)).val ∧ Blk w' (w.heap.size + 1) [.int .u8 1, .string s, .slice none 0 0] 33 ∧ Below w.heap.size w w' := by
  go_enter Tryd.func32, Tryd.ntmps32
  go_wp2_with fail
  refine bodyPost_ret (v := .agg #[.int .u64 (cid : Int), .slice (some ⟨w.heap.size + 1, 0, none⟩) 1 1]) (by simp [results, Tryd.results32, go_sem]) rfl ⟨rfl, ?_, ?_⟩
  · exact Blk.newAt _ _ _ (by simp)
  · exact ((Below.refl _ _).alloc (Nat.le_refl _) _).alloc (by simp) _
theorem one_ok {W : World} {cid : Nat} {s : ByteArray} {g : Nat} (hk : Blk W g [.int .u8 1, .string s, .slice none 0 0] 33) (hc : cid < 18446744073709551616) : (oneC cid s g).Ok W W.heap.size :=
  ⟨hc, ⟨hk.rd, fun z hz => by
    simp only [oneC, List.mem_cons, List.not_mem_nil, or_false] at hz
    subst hz
    exact ⟨Mem.Rd.nil, by show (1 : Nat) < 256; decide, Nat.le_refl _, Nat.zero_le _⟩⟩, by show (1 : Nat) ≤ 1; decide, by show (1 : Nat) ≤ _; decide⟩
theorem one_short (cid : Nat) (s : ByteArray) (g : Nat) : (titleOf (oneC cid s g).ls).size ≤ s.size := title_size fun z hz => by
  simp only [oneC, List.mem_cons, List.not_mem_nil, or_false] at hz
  subst hz
  exact Nat.le_refl _
/-- the cards of the example -/
def exL (a b c : Nat) : List CardM := [oneC 1 ⟨#[98, 111, 98]⟩ a, oneC 2 ⟨#[65, 110, 110]⟩ b, oneC 3 ⟨#[]⟩ c]
theorem ex_sort (a b c : Nat) : (stab ltC (exL a b c)).map CardM.p = [(3, [(1, ⟨#[]⟩, [])]), (2, [(1, ⟨#[65, 110, 110]⟩, [])]), (1, [(1, ⟨#[98, 111, 98]⟩, [])])] := by kernel_rfl
theorem heads_p : ∀ {a b : List CardM}, a.map CardM.p = b.map CardM.p → headsL a = headsL b
  | [], [], _ => rfl
  | [], _ :: _, h => by cases h
  | _ :: _, [], h => by cases h
  | x :: a, y :: b, h => by
    simp only [List.map_cons, List.cons.injEq] at h
    have ih := heads_p h.2
    unfold headsL at ih ⊢
    rw [List.flatMap_cons, List.flatMap_cons, ih]
    unfold headB
    rw [(title_p h.1).1]
theorem ex_heads (a b c : Nat) : strB (normL (headsL [oneC 3 ⟨#[]⟩ c, oneC 2 ⟨#[65, 110, 110]⟩ b, oneC 1 ⟨#[98, 111, 98]⟩ a])) = ⟨#[97, 98]⟩ := by kernel_rfl
theorem three_of {α β : Type} {f : α → β} {l : List α} {p q r : β} (h : l.map f = [p, q, r]) : ∃ x y z, l = [x, y, z] ∧ f x = p ∧ f y = q ∧ f z = r := by
  match l, h with
  | [x, y, z], h => simp only [List.map_cons, List.map_nil, List.cons.injEq, and_true] at h; exact ⟨x, y, z, rfl, h.1, h.2.1, h.2.2⟩
set_option maxRecDepth 100000 in
set_option maxHeartbeats 8000000 in
theorem lworks_any (w : World) (hm : ML w) : Calls Tryd.prog 9 #[] w fun e w' => e = .returned (.bool true) ∧ Below w.heap.size w w' := by
  have HM := kept hm
  clear hm
  go_enter Tryd.func9, Tryd.ntmps9
  go_wp2_with fail
  refine (lone_any 1 _ _).mono ?_
  rintro e w1 ⟨rfl, k1, b1⟩
  unfold oneC CardM.val
  dsimp only
  generalize hg1 : w.heap.size + 1 = g1 at *
  clear hg1
  have K1 := kept k1
  have B1 := kept b1
  clear k1 b1
  go_wp2_with fail
  refine (lone_any 2 _ _).mono ?_
  rintro e w2 ⟨rfl, k2, b2⟩
  unfold oneC CardM.val
  dsimp only
  generalize hg2 : w1.heap.size + 1 = g2 at *
  clear hg2
  have K2 := kept k2
  have K12 := kept (K1.out.next b2)
  have B2 := kept (B1.out.trans (b2.mono B1.out.size))
  clear k2 b2 K1 B1
  go_wp2_with fail
  refine (lone_any 3 _ _).mono ?_
  rintro e w3 ⟨rfl, k3, b3⟩
  unfold oneC CardM.val
  dsimp only
  generalize hg3 : w2.heap.size + 1 = g3 at *
  clear hg3
  have K3 := kept k3
  have K13 := kept (K12.out.next b3)
  have K23 := kept (K2.out.next b3)
  have B3 := kept (B2.out.trans (b3.mono B2.out.size))
  clear k3 b3 K12 K2 B2
  have hbA : Below w3.heap.size w3 (w3.alloc (.cells #[.int .u64 1, .slice (some ⟨g1, 0, none⟩) 1 1, .int .u64 2, .slice (some ⟨g2, 0, none⟩) 1 1, .int .u64 3, .slice (some ⟨g3, 0, none⟩) 1 1] 28)) := (Below.refl _ _).alloc (Nat.le_refl _) _
  have hbk : Blk (w3.alloc (.cells #[.int .u64 1, .slice (some ⟨g1, 0, none⟩) 1 1, .int .u64 2, .slice (some ⟨g2, 0, none⟩) 1 1, .int .u64 3, .slice (some ⟨g3, 0, none⟩) 1 1] 28)) w3.heap.size [.int .u64 1, .slice (some ⟨g1, 0, none⟩) 1 1, .int .u64 2, .slice (some ⟨g2, 0, none⟩) 1 1, .int .u64 3, .slice (some ⟨g3, 0, none⟩) 1 1] 28 := Blk.new w3 _ _
  have B4 := kept (B3.out.trans (hbA.mono B3.out.size))
  have hl : RdCards (w3.alloc (.cells #[.int .u64 1, .slice (some ⟨g1, 0, none⟩) 1 1, .int .u64 2, .slice (some ⟨g2, 0, none⟩) 1 1, .int .u64 3, .slice (some ⟨g3, 0, none⟩) 1 1] 28)) (w3.alloc (.cells #[.int .u64 1, .slice (some ⟨g1, 0, none⟩) 1 1, .int .u64 2, .slice (some ⟨g2, 0, none⟩) 1 1, .int .u64 3, .slice (some ⟨g3, 0, none⟩) 1 1] 28)).heap.size (some ⟨w3.heap.size, 0, none⟩) (exL g1 g2 g3) := ⟨hbk.rd, fun z hz => by
    simp only [exL, List.mem_cons, List.not_mem_nil, or_false] at hz
    rcases hz with rfl | rfl | rfl
    · exact one_ok (K13.out.next hbA) (by decide)
    · exact one_ok (K23.out.next hbA) (by decide)
    · exact one_ok (K3.out.next hbA) (by decide)⟩
  have CS := lsort_any (some ⟨w3.heap.size, 0, none⟩) (exL g1 g2 g3) 3 _ hl (by show (3 : Nat) < 40; decide) (fun x hx => by
    simp only [exL, List.mem_cons, List.not_mem_nil, or_false] at hx
    rcases hx with rfl | rfl | rfl <;> exact Nat.le_trans (one_short _ _ _) (by decide)) (HM.out.next B4.out)
  rw [ex_sort] at CS
  have CS : Kept (Calls Tryd.prog 11 #[.slice (some ⟨w3.heap.size, 0, none⟩) 3 3] _ (GivesF (w3.alloc (.cells #[.int .u64 1, .slice (some ⟨g1, 0, none⟩) 1 1, .int .u64 2, .slice (some ⟨g2, 0, none⟩) 1 1, .int .u64 3, .slice (some ⟨g3, 0, none⟩) 1 1] 28)) [(3, [(1, ⟨#[]⟩, [])]), (2, [(1, ⟨#[65, 110, 110]⟩, [])]), (1, [(1, ⟨#[98, 111, 98]⟩, [])])])) := ⟨CS⟩
  clear hl hbk hbA K13 K23 K3
  go_wp2_with fail
  refine CS.out.mono ?_
  rintro e w5 ⟨A, c5, ys, rfl, hp, hro, hb5⟩
  have B5 := kept (B4.out.trans (hb5.mono B4.out.size))
  have CH := heads_any 12 sortOk12 (by decide) A ys c5 w5 hro.rd (by have := congrArg List.length hp; simp at this; omega) (fun x hx => by
    have h1 : x.p ∈ ys.map CardM.p := List.mem_map_of_mem hx
    rw [hp] at h1
    have h2 : x.p ∈ (exL 0 0 0).map CardM.p := by
      simp only [List.mem_cons, List.not_mem_nil, or_false] at h1
      simp only [exL, List.map_cons, List.map_nil, List.mem_cons, List.not_mem_nil, or_false]
      rcases h1 with h | h | h
      · exact .inr (.inr h)
      · exact .inr (.inl h)
      · exact .inl h
    obtain ⟨y, hy, e⟩ := List.mem_map.1 h2
    rw [(title_p e.symm).1]
    simp only [exL, List.mem_cons, List.not_mem_nil, or_false] at hy
    rcases hy with rfl | rfl | rfl <;> exact Nat.le_trans (one_short _ _ _) (by decide)) (HM.out.next B5.out)
  rw [heads_p (b := [oneC 3 ⟨#[]⟩ 0, oneC 2 ⟨#[65, 110, 110]⟩ 0, oneC 1 ⟨#[98, 111, 98]⟩ 0]) hp, ex_heads] at CH
  have CH := kept CH
  obtain ⟨x, y, z, rfl, hx, hy, hz⟩ := three_of hp
  obtain ⟨g, rfl, -, -, c0, -, -, -, -⟩ := card_row hro.1 (i := 0) rfl
  obtain ⟨g', e1, -, -, d0, -, -, -, -⟩ := card_row hro.1 (i := 1) rfl
  obtain rfl : g = g' := congrArg Addr.block (Option.some.inj e1)
  obtain ⟨g', e2, -, -, f0, -, -, -, -⟩ := card_row hro.1 (i := 2) rfl
  obtain rfl : g = g' := congrArg Addr.block (Option.some.inj e2)
  have hx1 : x.cid = 3 := congrArg Prod.fst hx
  have hy1 : y.cid = 2 := congrArg Prod.fst hy
  have hz1 : z.cid = 1 := congrArg Prod.fst hz
  rw [hx1] at c0
  rw [hy1] at d0
  rw [hz1] at f0
  have c0 : w5.cell? ⟨g, 0, none⟩ = some (.int .u64 3) := c0
  have d0 : w5.cell? ⟨g, 2, none⟩ = some (.int .u64 2) := d0
  have f0 : w5.cell? ⟨g, 4, none⟩ = some (.int .u64 1) := f0
  clear hx hy hz hx1 hy1 hz1 e1 e2 hp hro hb5 CS
  simp only [List.length_cons, List.length_nil] at CH ⊢
  go_wp2_with fail
  refine CH.out.mono ?_
  rintro e w6 ⟨rfl, hb6⟩
  have B6 := kept (B5.out.trans (hb6.mono B5.out.size))
  clear hb6
  go_wp2_with fail
  go_ret
  exact ⟨rfl, B6.out⟩
end Go.Proofs.YtfkfpanhbanljaaDoor.List44
