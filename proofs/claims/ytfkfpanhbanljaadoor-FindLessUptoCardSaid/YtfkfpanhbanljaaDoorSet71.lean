import Derived.Test.YtfkfpanhbanljaaDoorSet70
import Derived.KernelRfl
import Derived.BigQuiet
import Derived.Deep.DeepCutAuto
import Derived.Test.YtfkfpanhbanljaaDoorListPlain
import Derived.Shelf.SlIter.Nil
import Derived.Shelf.SortM.Plain
import Derived.Shelf.SortM.SortNone
import Derived.Sort.KeysCollected
import Derived.Test.YtfkfpanhbanljaaDoorSet7
import Derived.Test.YtfkfpanhbanljaaDoorHeldCall
/- Layer 45 (find): the chapter's example. -/
namespace Go.Proofs.YtfkfpanhbanljaaDoor.Find
open Go.RowKit Go.Proofs.YtfkfpanhbanljaaDoor.Mem Go.Proofs.YtfkfpanhbanljaaDoor.Card Go.Proofs.YtfkfpanhbanljaaDoor.Laid Go.Proofs.YtfkfpanhbanljaaDoor.Fold Go.Proofs.YtfkfpanhbanljaaDoor.Twin Go.Proofs.YtfkfpanhbanljaaDoor.List44 Go.Proofs.YtfkfpanhbanljaaDoor.Stab

def exS1 : ByteArray := ⟨#[65, 110, 110, 32, 76, 101, 101]⟩
def exS2 : ByteArray := ⟨#[53, 32, 72, 105, 103, 104, 32, 83, 116, 114, 101, 101, 116]⟩
/-- the example's card -/
def exC (g : Nat) : CardM := ⟨5, some ⟨g, 0, none⟩, [⟨1, exS1, none, [], 0⟩, ⟨5, exS2, none, [], 0⟩], 2⟩
theorem ex_found (g : Nat) : (foundL [exC g] (wordsB ⟨#[115, 116, 114, 32, 97, 110]⟩)).length = 1 := by kernel_rfl
theorem ex_not (g : Nat) : fitsL (exC g).ls (wordsB ⟨#[101, 101, 116]⟩) = false := by kernel_rfl
theorem ex_tame (g : Nat) : Tame (exC g).ls := ⟨by show (2 : Nat) ≤ 12; decide, fun z hz => by
  simp only [exC, List.mem_cons, List.not_mem_nil, or_false] at hz
  rcases hz with rfl | rfl
  · exact ⟨by show (7 : Nat) ≤ 2000000; decide, by show (0 : Nat) ≤ 10; decide, fun q hq => by cases hq⟩
  · exact ⟨by show (13 : Nat) ≤ 2000000; decide, by show (0 : Nat) ≤ 10; decide, fun q hq => by cases hq⟩⟩
theorem ex_ok {W : World} {g : Nat} (hk : Blk W g [.int .u8 1, .string exS1, .slice none 0 0, .int .u8 5, .string exS2, .slice none 0 0] 33) : (exC g).Ok W W.heap.size :=
  ⟨by show (5 : Nat) < _; decide, ⟨hk.rd, fun z hz => by
    simp only [exC, List.mem_cons, List.not_mem_nil, or_false] at hz
    rcases hz with rfl | rfl
    · exact ⟨Mem.Rd.nil, by show (1 : Nat) < 256; decide, Nat.le_refl _, Nat.zero_le _⟩
    · exact ⟨Mem.Rd.nil, by show (5 : Nat) < 256; decide, Nat.le_refl _, Nat.zero_le _⟩⟩, by show (2 : Nat) ≤ 2; decide, by show (2 : Nat) ≤ _; decide⟩
theorem ex_short (g : Nat) : Short [exC g] := fun x hx => by
  obtain rfl := List.mem_singleton.1 hx
  exact Nat.le_trans (title_size (n := 13) fun z hz => by
    simp only [exC, List.mem_cons, List.not_mem_nil, or_false] at hz
    rcases hz with rfl | rfl
    · show (7 : Nat) ≤ 13; decide
    · show (13 : Nat) ≤ 13; decide) (by decide)
theorem wordsC_p {a b : List LineM} (h : a.map LineM.p = b.map LineM.p) : wordsC a = wordsC b := by
  have e : ∀ l : List LineM, wordsC l = (l.map LineM.p).flatMap fun q => wordsB q.2.1 ++ q.2.2.flatMap wordsB := fun l => by
    unfold wordsC
    rw [List.flatMap_map]
    rfl
  rw [e a, e b, h]
theorem fits_p {x y : CardM} (h : x.p = y.p) (hs : List ByteArray) : fitsL x.ls hs = fitsL y.ls hs := by
  unfold fitsL
  rw [wordsC_p (congrArg Prod.snd h)]
theorem found_p (hs : List ByteArray) : ∀ {a b : List CardM}, a.map CardM.p = b.map CardM.p → (foundL a hs).map CardM.p = (foundL b hs).map CardM.p
  | [], [], _ => rfl
  | [], _ :: _, h => by cases h
  | _ :: _, [], h => by cases h
  | x :: a, y :: b, h => by
    simp only [List.map_cons, List.cons.injEq] at h
    have ih := found_p hs h.2
    have e := fits_p h.1 hs
    unfold foundL at ih ⊢
    rw [List.filter_cons, List.filter_cons, e]
    split
    · rw [List.map_cons, List.map_cons, ih, h.1]
    · exact ih
set_option maxRecDepth 100000 in
set_option maxHeartbeats 8000000 in
theorem fworks_any (w : World) (hm : ML w) : Calls Tryd.prog 21 #[] w fun e w' => e = .returned (.bool true) ∧ Below w.heap.size w w' := by
  have HM := kept hm
  clear hm
  obtain ⟨wa, hwa⟩ : ∃ wa, w.alloc (.cells #[.int .u8 1, .string exS1, .slice none 0 0, .int .u8 5, .string exS2, .slice none 0 0] 33) = wa := ⟨_, rfl⟩
  have sa : wa.heap.size = w.heap.size + 1 := by rw [← hwa]; exact Array.size_push ..
  have ka : Blk wa w.heap.size [.int .u8 1, .string exS1, .slice none 0 0, .int .u8 5, .string exS2, .slice none 0 0] 33 := by rw [← hwa]; exact Blk.new w _ _
  have ba : Below w.heap.size w wa := by rw [← hwa]; exact (Below.refl _ _).alloc (Nat.le_refl _) _
  obtain ⟨wb, hwb⟩ : ∃ wb, wa.alloc (.cells #[.int .u64 5, .slice (some ⟨w.heap.size, 0, none⟩) 2 2] 28) = wb := ⟨_, rfl⟩
  have sb : wb.heap.size = w.heap.size + 1 + 1 := by rw [← hwb, ← sa]; exact Array.size_push ..
  have bb : Below wa.heap.size wa wb := by rw [← hwb]; exact (Below.refl _ _).alloc (Nat.le_refl _) _
  have kb : Blk wb (w.heap.size + 1) [.int .u64 5, .slice (some ⟨w.heap.size, 0, none⟩) 2 2] 28 := by rw [← hwb, ← sa]; exact Blk.new wa _ _
  obtain ⟨wd, hwd⟩ : ∃ wd, wb.alloc (.cells #[.int .u64 5, .slice (some ⟨w.heap.size, 0, none⟩) 2 2] 28) = wd := ⟨_, rfl⟩
  have bd : Below wb.heap.size wb wd := by rw [← hwd]; exact (Below.refl _ _).alloc (Nat.le_refl _) _
  have kd : Blk wd (w.heap.size + 1 + 1) [.int .u64 5, .slice (some ⟨w.heap.size, 0, none⟩) 2 2] 28 := by rw [← hwd, ← sb]; exact Blk.new wb _ _
  have KA := kept ((ka.next bb).next bd)
  have KB := kept (kb.next bd)
  have BD : Kept (Below w.heap.size w wd) := ⟨ba.trans ((bb.mono ba.size).trans (bd.mono (by omega)))⟩
  have CN := kept (fnew_any (some ⟨w.heap.size + 1 + 1, 0, none⟩) [exC w.heap.size] 1 wd ⟨kd.rd, fun x hx => by rw [List.mem_singleton.1 hx]; exact ex_ok KA.out⟩ (by show (1 : Nat) ≤ 25; decide) (ex_short _) (fun x hx => by rw [List.mem_singleton.1 hx]; exact ex_tame _) (HM.out.next BD.out))
  have hww : (((w.alloc (.cells #[.int .u8 1, .string exS1, .slice none 0 0, .int .u8 5, .string exS2, .slice none 0 0] 33)).alloc (.cells #[.int .u64 5, .slice (some ⟨w.heap.size, 0, none⟩) 2 2] 28)).alloc (.cells #[.int .u64 5, .slice (some ⟨w.heap.size, 0, none⟩) 2 2] 28)) = wd := by rw [hwa, hwb, hwd]
  have HWW := kept hww
  clear hww hwa hwb hwd sa sb ka kb kd ba bb bd
  go_enter Tryd.func21, Tryd.ntmps21
  go_wp2_with fail
  have hww := HWW.out
  unfold exS1 exS2 at hww
  rw [hww]
  clear hww
  refine CN.out.mono ?_
  rintro e w2 ⟨gi, A, c2, ys, B, b, rfl, hp, hix, hbb, hb⟩
  have hyl : ys.length = 1 := by
    have := congrArg List.length hp
    rwa [List.length_map, List.length_map, stab_len] at this
  have B2 := kept (BD.out.trans (hb.mono BD.out.size))
  have KA2 := kept (KA.out.next hb)
  have KB2 := kept (KB.out.next hb)
  have hps : ys.map CardM.p = [exC w.heap.size].map CardM.p := hp.trans rfl
  have hfl := congrArg List.length (found_p (wordsB ⟨#[115, 116, 114, 32, 97, 110]⟩) hps)
  rw [List.length_map, List.length_map, ex_found] at hfl
  have HFL := kept hfl
  have CF := kept (ffind_any gi A c2 ys B b ⟨#[115, 116, 114, 32, 97, 110]⟩ w2 hix (by omega) (by show (6 : Nat) ≤ _; decide) (HM.out.next B2.out))
  clear hp hix hbb hb CN KA KB BD hps hfl HWW hyl
  go_wp2_with fail
  refine CF.out.mono ?_
  rintro e w3 ⟨A3, c3, zs, rfl, hz, -, hb3⟩
  have hzl : zs.length = 1 := by
    have := congrArg List.length hz
    rw [List.length_map, List.length_map] at this
    exact this.trans HFL.out
  have B3 := kept (B2.out.trans (hb3.mono B2.out.size))
  have KA3 := kept (KA2.out.next hb3)
  have KB3 := KB2.out.next hb3
  have p0 := KB3.cell (j := 0) rfl
  have p1 := KB3.cell (j := 1) rfl
  have CM := fmatch_any (exC w.heap.size) ⟨#[101, 101, 116]⟩ w3 (ex_ok KA3.out) (ex_tame _) (by show (3 : Nat) ≤ _; decide) (HM.out.next B3.out)
  rw [ex_not] at CM
  have CM : Kept (Calls Tryd.prog 24 #[.agg #[.int .u64 5, .slice (some ⟨w.heap.size, 0, none⟩) 2 2], .string ⟨#[101, 101, 116]⟩] w3 fun e w' => e = .returned (.bool false) ∧ Below w3.heap.size w3 w') := ⟨CM⟩
  clear hz hb3 KA2 KB2 KB3 CF B2 HFL
  rw [hzl]
  clear hzl
  go_wp2_with fail
  refine CM.out.mono ?_
  rintro e w4 ⟨rfl, hb4⟩
  have B4 := kept (B3.out.trans (hb4.mono B3.out.size))
  clear hb4 CM
  go_wp2_with fail
  go_ret
  exact ⟨rfl, B4.out⟩
end Go.Proofs.YtfkfpanhbanljaaDoor.Find

/- Layer 45 (find): plain words for the laws. -/
namespace Go.Proofs.YtfkfpanhbanljaaDoor.Find
open Go.RowKit Go.Proofs.YtfkfpanhbanljaaDoor.Mem Go.Proofs.YtfkfpanhbanljaaDoor.Card Go.Proofs.YtfkfpanhbanljaaDoor.Laid Go.Proofs.YtfkfpanhbanljaaDoor.Fold Go.Proofs.YtfkfpanhbanljaaDoor.Twin Go.Proofs.YtfkfpanhbanljaaDoor.List44 Go.Proofs.YtfkfpanhbanljaaDoor.Stab
open Go.Lib hiding Kept

theorem splitS_mid : ∀ (a b : List UInt8), splitS (a ++ 32 :: b) = splitS a ++ splitS b
  | [], b => by rw [List.nil_append, splitS_blank]; rfl
  | c :: a, b => by
    have ih := splitS_mid a b
    obtain ⟨w, r, hwr⟩ := splitS_form a
    by_cases hc : c = 32
    · subst hc
      rw [List.cons_append, splitS_blank, splitS_blank, ih]; rfl
    · rw [hwr, List.cons_append] at ih
      rw [List.cons_append, splitS_other hc ih, splitS_other hc hwr]; rfl
theorem words_mid (a b : List UInt8) : words (a ++ 32 :: b) = words a ++ words b := by
  unfold words
  rw [List.map_append, List.map_cons, show letter 32 = 32 from by decide, splitS_mid, List.filter_append]
theorem data_app (a b : ByteArray) : (a ++ b).data.toList = a.data.toList ++ b.data.toList := by
  rw [ByteArray.data_append, Array.toList_append]
theorem wordsB_mid (p q : ByteArray) : wordsB (p ++ ⟨#[32]⟩ ++ q) = wordsB p ++ wordsB q := by
  unfold wordsB
  rw [data_app, data_app, List.append_assoc]
  show (words (p.data.toList ++ 32 :: q.data.toList)).map bOf = _
  rw [words_mid, List.map_append]
theorem wordsB_blank : wordsB ⟨#[32]⟩ = [] := by kernel_rfl
/-- a word is its own word -/
theorem wordsB_one {t s : ByteArray} (h : s ∈ wordsB t) : wordsB s = [s] := by
  obtain ⟨y, hy, rfl⟩ := List.mem_map.1 h
  have hg := words_good _ y hy
  have h1 : words (Lib.join [y] [32]) = [y] := words_join [y] fun w hw => by rw [List.mem_singleton.1 hw]; exact hg
  have h2 : Lib.join [y] [32] = y := by simp [Lib.join]
  rw [h2] at h1
  unfold wordsB
  rw [data_bOf, h1]
  rfl
theorem wordsC_one {ls : List LineM} {s : ByteArray} (h : s ∈ wordsC ls) : wordsB s = [s] := by
  obtain ⟨z, _, hz⟩ := List.mem_flatMap.1 h
  rcases List.mem_append.1 hz with h1 | h1
  · exact wordsB_one h1
  · obtain ⟨q, _, h2⟩ := List.mem_flatMap.1 h1
    exact wordsB_one h2
theorem hasP_self (s : ByteArray) : hasP s s = true := by
  unfold hasP Lib.hasPrefix
  exact List.isPrefixOf_iff_prefix.2 (List.prefix_refl _)
theorem pairs_mem {ys : List CardM} {s : ByteArray} {i : Nat} (h : (s, i) ∈ pairsK ys ys.length) : ∃ y ∈ ys, s ∈ wordsC y.ls := by
  obtain ⟨k, hk, h2⟩ := List.mem_flatMap.1 h
  obtain ⟨x, hx, e⟩ := List.mem_map.1 h2
  have hkl : k < ys.length := List.mem_range.1 hk
  have e1 : x = s := congrArg Prod.fst e
  have e2 : ys.getD k ⟨0, none, [], 0⟩ = ys[k] := by simp [List.getD, hkl]
  rw [e2] at hx
  exact ⟨ys[k], List.getElem_mem hkl, e1 ▸ hx⟩
theorem found_word {ys : List CardM} {y : CardM} {s : ByteArray} (hy : y ∈ ys) (hs : s ∈ wordsC y.ls) : 0 < (foundL ys (wordsB s)).length := by
  rw [wordsC_one hs]
  refine List.length_pos_of_mem (a := y) (List.mem_filter.2 ⟨hy, ?_⟩)
  unfold fitsL
  rw [List.all_cons, List.all_nil, Bool.and_true, List.any_eq_true]
  exact ⟨s, hs, hasP_self s⟩
theorem found_none (ys : List CardM) : foundL ys [] = ys := List.filter_eq_self.2 fun _ _ => rfl
theorem fits_app (ls : List LineM) (a b : List ByteArray) : fitsL ls (a ++ b) = (fitsL ls a && fitsL ls b) := by
  unfold fitsL
  rw [List.all_append]
theorem found_app (ys : List CardM) (a b : List ByteArray) : foundL ys (a ++ b) = foundL (foundL ys a) b := by
  unfold foundL
  rw [List.filter_filter]
  refine List.filter_congr fun y _ => ?_
  rw [fits_app, Bool.and_comm]
theorem found_swap (ys : List CardM) (a b : List ByteArray) : foundL ys (a ++ b) = foundL (foundL ys b) a := by
  rw [← found_app]
  unfold foundL
  refine List.filter_congr fun y _ => ?_
  rw [fits_app, fits_app, Bool.and_comm]
theorem found_le (ys : List CardM) (a : List ByteArray) : (foundL ys a).length ≤ ys.length := List.length_filter_le _ _
/-- the next one that is found twice -/
theorem found_at {xs bs : List CardM} {hs : List ByteArray} {k : Nat} {x : CardM} (hb : bs.map CardM.p = (foundL xs hs).map CardM.p) (hx : xs[k]? = some x) (hf : fitsL x.ls hs = true) :
    ∃ y, bs[(foundL (xs.take k) hs).length]? = some y ∧ y.p = x.p := by
  have h1 : foundL xs hs = foundL (xs.take k) hs ++ (x :: foundL (xs.drop (k + 1)) hs) := by
    obtain ⟨h2, h3⟩ := List.getElem?_eq_some_iff.1 hx
    have e : xs = xs.take k ++ x :: xs.drop (k + 1) := by rw [← h3, List.getElem_cons_drop, List.take_append_drop]
    unfold foundL
    conv => lhs; rw [e]
    rw [List.filter_append, List.filter_cons, if_pos hf]
  have h4 : (bs.map CardM.p)[(foundL (xs.take k) hs).length]? = some x.p := by
    rw [hb, h1, List.map_append, List.getElem?_append_right (by rw [List.length_map]; exact Nat.le_refl _), List.length_map, Nat.sub_self]
    rfl
  rw [List.getElem?_map] at h4
  cases h5 : bs[(foundL (xs.take k) hs).length]? with
  | none => rw [h5] at h4; cases h4
  | some y => rw [h5] at h4; exact ⟨y, rfl, Option.some.inj h4⟩
end Go.Proofs.YtfkfpanhbanljaaDoor.Find

/- Contracts of maps.Keys, slices.Sorted on texts off the kit's shelf, laid at this translation (written by the kit's lay-plain.mjs, turned into a template by tools/mklaid.py). -/
namespace Go.Proofs.YtfkfpanhbanljaaDoor.LaidI
open Go.Shelf Go.RowKit Go.Maps Go.Sort
def laysKeys_ren : Go.Shelf.Ren := ⟨fun | 7 => 56 | 10 => 87 | n => n, fun | 23 => 62 | 26 => 9 | 3 => 66 | 28 => 77 | 0 => 0 | 27 => 76 | 33 => 73 | 4 => 4 | n => n, fun | n => n⟩
theorem laysKeys : Go.Proofs.SlLaysZ.n7 Tryd.prog laysKeys_ren := {
  mixed := by kernel_rfl
  f7 := ⟨Tryd.f56.name, by decide, Tryd.func56.trans (congrArg some (by kernel_rfl))⟩
  f10 := ⟨Tryd.f87.name, by decide, Tryd.func87.trans (congrArg some (by kernel_rfl))⟩
  t0 := Tryd.underlying0
  a0 := Tryd.isAgg0
  z0 := Tryd.sizeOf0
  v0 := Tryd.zeroValue0
  t4 := Tryd.underlying4
  a4 := Tryd.isAgg4
  z4 := Tryd.sizeOf4
  v4 := Tryd.zeroValue4
  t23 := Tryd.underlying62
  a23 := Tryd.isAgg62
  z23 := Tryd.sizeOf62
  v23 := Tryd.zeroValue62
  t26 := Tryd.underlying9
  a26 := Tryd.isAgg9
  z26 := Tryd.sizeOf9
  v26 := Tryd.zeroValue9
  t27 := Tryd.underlying76
  a27 := Tryd.isAgg76
  z27 := Tryd.sizeOf76
  v27 := Tryd.zeroValue76
  t28 := Tryd.underlying77
  a28 := Tryd.isAgg77
  z28 := Tryd.sizeOf77
  v28 := Tryd.zeroValue77
  t33 := Tryd.underlying73
  a33 := Tryd.isAgg73
  z33 := Tryd.sizeOf73
  v33 := Tryd.zeroValue73 }
def laysSorted_ren : Go.Shelf.Ren := ⟨fun | 6 => 55 | 8 => 85 | 9 => 86 | 11 => 113 | 13 => 74 | 12 => 114 | 23 => 109 | 24 => 110 | 14 => 143 | 15 => 144 | 16 => 145 | 17 => 146 | 18 => 147 | 19 => 148 | 20 => 149 | 21 => 150 | 22 => 151 | 25 => 171 | 26 => 135 | 27 => 136 | 28 => 172 | 29 => 173 | 30 => 94 | 31 => 183 | n => n, fun | 26 => 9 | 28 => 77 | 24 => 31 | 0 => 0 | 3 => 3 | 37 => 95 | 48 => 130 | 50 => 25 | 4 => 4 | 40 => 122 | 39 => 121 | 45 => 127 | 5 => 5 | 9 => 9 | 51 => 148 | 55 => 152 | 57 => 173 | 58 => 174 | 33 => 73 | n => n, fun | n => n⟩
theorem laysSorted : Go.Proofs.SlLaysZ.n6 Tryd.prog laysSorted_ren := {
  mixed := by kernel_rfl
  f6 := ⟨Tryd.f55.name, by decide, Tryd.func55.trans (congrArg some (by kernel_rfl))⟩
  f8 := ⟨Tryd.f85.name, by decide, Tryd.func85.trans (congrArg some (by kernel_rfl))⟩
  f11 := ⟨Tryd.f113.name, by decide, Tryd.func113.trans (congrArg some (by kernel_rfl))⟩
  t0 := Tryd.underlying0
  a0 := Tryd.isAgg0
  z0 := Tryd.sizeOf0
  v0 := Tryd.zeroValue0
  t24 := Tryd.underlying31
  a24 := Tryd.isAgg31
  z24 := Tryd.sizeOf31
  v24 := Tryd.zeroValue31
  t26 := Tryd.underlying9
  a26 := Tryd.isAgg9
  z26 := Tryd.sizeOf9
  v26 := Tryd.zeroValue9
  t28 := Tryd.underlying77
  a28 := Tryd.isAgg77
  z28 := Tryd.sizeOf77
  v28 := Tryd.zeroValue77
  i26 := by kernel_rfl }
def laysSort_ren : Go.Shelf.Ren := ⟨fun | 6 => 86 | 8 => 74 | 9 => 114 | 19 => 109 | 20 => 110 | 21 => 143 | 22 => 144 | 23 => 145 | 24 => 146 | 25 => 147 | 26 => 148 | 27 => 149 | 28 => 150 | 29 => 151 | 36 => 171 | 31 => 135 | 32 => 136 | 37 => 172 | 38 => 173 | 39 => 94 | 41 => 183 | n => n, fun | 27 => 31 | 29 => 9 | 3 => 3 | 32 => 95 | 26 => 31 | 0 => 0 | 44 => 130 | 46 => 25 | 4 => 4 | 36 => 122 | 35 => 121 | 41 => 127 | 5 => 5 | 9 => 9 | 53 => 148 | 57 => 152 | 63 => 173 | 64 => 174 | n => n, fun | n => n⟩
theorem laysSort : Go.Proofs.SlLaysM.n6 Tryd.prog laysSort_ren := {
  mixed := by kernel_rfl
  f6 := ⟨Tryd.f86.name, by decide, Tryd.func86.trans (congrArg some (by kernel_rfl))⟩
  f8 := Tryd.func74.trans (congrArg some (by kernel_rfl))
  f9 := ⟨Tryd.f114.name, by decide, Tryd.func114.trans (congrArg some (by kernel_rfl))⟩
  f19 := Tryd.func109.trans (congrArg some (by kernel_rfl))
  f20 := Tryd.func110.trans (congrArg some (by kernel_rfl))
  f21 := ⟨Tryd.f143.name, by decide, Tryd.func143.trans (congrArg some (by kernel_rfl))⟩
  f22 := ⟨Tryd.f144.name, by decide, Tryd.func144.trans (congrArg some (by kernel_rfl))⟩
  f23 := ⟨Tryd.f145.name, by decide, Tryd.func145.trans (congrArg some (by kernel_rfl))⟩
  f24 := ⟨Tryd.f146.name, by decide, Tryd.func146.trans (congrArg some (by kernel_rfl))⟩
  f25 := ⟨Tryd.f147.name, by decide, Tryd.func147.trans (congrArg some (by kernel_rfl))⟩
  f26 := ⟨Tryd.f148.name, by decide, Tryd.func148.trans (congrArg some (by kernel_rfl))⟩
  f27 := ⟨Tryd.f149.name, by decide, Tryd.func149.trans (congrArg some (by kernel_rfl))⟩
  f28 := ⟨Tryd.f150.name, by decide, Tryd.func150.trans (congrArg some (by kernel_rfl))⟩
  f29 := ⟨Tryd.f151.name, by decide, Tryd.func151.trans (congrArg some (by kernel_rfl))⟩
  f31 := Tryd.func135.trans (congrArg some (by kernel_rfl))
  f32 := Tryd.func136.trans (congrArg some (by kernel_rfl))
  f36 := ⟨Tryd.f171.name, by decide, Tryd.func171.trans (congrArg some (by kernel_rfl))⟩
  f37 := ⟨Tryd.f172.name, by decide, Tryd.func172.trans (congrArg some (by kernel_rfl))⟩
  f38 := ⟨Tryd.f173.name, by decide, Tryd.func173.trans (congrArg some (by kernel_rfl))⟩
  f39 := ⟨Tryd.f94.name, by decide, Tryd.func94.trans (congrArg some (by kernel_rfl))⟩
  f41 := ⟨Tryd.f183.name, by decide, Tryd.func183.trans (congrArg some (by kernel_rfl))⟩
  t0 := Tryd.underlying0
  a0 := Tryd.isAgg0
  z0 := Tryd.sizeOf0
  v0 := Tryd.zeroValue0
  t3 := Tryd.underlying3
  a3 := Tryd.isAgg3
  z3 := Tryd.sizeOf3
  v3 := Tryd.zeroValue3
  t4 := Tryd.underlying4
  a4 := Tryd.isAgg4
  z4 := Tryd.sizeOf4
  v4 := Tryd.zeroValue4
  t5 := Tryd.underlying5
  a5 := Tryd.isAgg5
  z5 := Tryd.sizeOf5
  v5 := Tryd.zeroValue5
  t9 := Tryd.underlying9
  a9 := Tryd.isAgg9
  z9 := Tryd.sizeOf9
  v9 := Tryd.zeroValue9
  t26 := Tryd.underlying31
  a26 := Tryd.isAgg31
  z26 := Tryd.sizeOf31
  v26 := Tryd.zeroValue31
  t27 := Tryd.underlying31
  a27 := Tryd.isAgg31
  z27 := Tryd.sizeOf31
  v27 := Tryd.zeroValue31
  t29 := Tryd.underlying9
  a29 := Tryd.isAgg9
  z29 := Tryd.sizeOf9
  v29 := Tryd.zeroValue9
  t32 := Tryd.underlying95
  a32 := Tryd.isAgg95
  z32 := Tryd.sizeOf95
  v32 := Tryd.zeroValue95
  t35 := Tryd.underlying121
  a35 := Tryd.isAgg121
  z35 := Tryd.sizeOf121
  v35 := Tryd.zeroValue121
  t36 := Tryd.underlying122
  a36 := Tryd.isAgg122
  z36 := Tryd.sizeOf122
  v36 := Tryd.zeroValue122
  t41 := Tryd.underlying127
  a41 := Tryd.isAgg127
  z41 := Tryd.sizeOf127
  v41 := Tryd.zeroValue127
  t44 := Tryd.underlying130
  a44 := Tryd.isAgg130
  z44 := Tryd.sizeOf130
  v44 := Tryd.zeroValue130
  t46 := Tryd.underlying25
  a46 := Tryd.isAgg25
  z46 := Tryd.sizeOf25
  v46 := Tryd.zeroValue25
  t53 := Tryd.underlying148
  a53 := Tryd.isAgg148
  z53 := Tryd.sizeOf148
  v53 := Tryd.zeroValue148
  t57 := Tryd.underlying152
  a57 := Tryd.isAgg152
  z57 := Tryd.sizeOf152
  v57 := Tryd.zeroValue152
  t63 := Tryd.underlying173
  a63 := Tryd.isAgg173
  z63 := Tryd.sizeOf173
  v63 := Tryd.zeroValue173
  t64 := Tryd.underlying174
  a64 := Tryd.isAgg174
  z64 := Tryd.sizeOf174
  v64 := Tryd.zeroValue174 }
theorem sortsI (m : Nat) : AnyZ.SortsIn Tryd.prog laysSorted_ren Fence.wide m :=
  ⟨fun blk off cap ss W hH hblk hsz => callsIn_wide.2 (AnyM.slices_Sort_string laysSort blk off cap ss W hH hblk hsz),
   fun p cap W => callsIn_wide.2 (AnyM.slices_Sort_string_none laysSort p cap W)⟩
theorem keysI (mb : Option Nat) (W : World) : CallsIn Fence.wide 5 Tryd.prog 56 #[.map mb] W fun e w' => e = .returned (.func (.func 87) #[] #[.pointer (some ⟨W.heap.size, 0, none⟩)]) ∧ w' = W.alloc (.cells #[.map mb] 62) :=
  AnyZ.keys_in laysKeys Fence.wide 5 trivial rfl mb W
set_option maxHeartbeats 1000000 in
theorem sortedI {H : Type} (b nn : Nat) (D0 : DataW H) (R : Value → Option (DataW H × List MemPlace)) (w : World) (hown : w.ownsMap Tryd.prog 9 R b nn D0) (hmax : Maps.size D0 ≤ maxLen) (hbytes : Maps.size D0 * 16 ≤ 140737488355328) :
    CallsIn Fence.wide 5 Tryd.prog 55 #[.func (.func 87) #[] #[.pointer (some ⟨w.heap.size, 0, none⟩)]] (w.alloc (.cells #[.map (some b)] 62)) fun e w' => ∃ (v : Value) (ss : List (List UInt8)), e = .returned v ∧ ss.Perm (strKeys D0) ∧
      w'.ownsRow (w.alloc (.cells #[.map (some b)] 62)).heap.size 9 1 v ss.length ((ss.mergeSort (fun x y => decide (x ≤ y))).map encStr) ∧ (v = .slice none 0 0 ↔ ss = []) ∧ Below (w.alloc (.cells #[.map (some b)] 62)).heap.size (w.alloc (.cells #[.map (some b)] 62)) w' := by
  have hbl := hown.lt
  have hseq : SeqGives Fence.wide 2 Tryd.prog 87 #[.pointer (some ⟨w.heap.size, 0, none⟩)] encStr (fun ss => ss.Perm (strKeys D0)) (Maps.size D0) (w.alloc (.cells #[.map (some b)] 62)) :=
    AnyZ.keys_gives (ρ := laysKeys_ren) { laysKeys with } Fence.wide _ trivial rfl (by omega) w.heap.size b nn D0 _ (by simp) (by simp) (by
      obtain ⟨es, clock, hb, Ft, hs, hD⟩ := hown
      exact ⟨es, clock, (Below.heap_alloc _ _ b hbl).trans hb, Ft, hs, hD⟩)
  exact AnyZ.sorted_in laysSorted Fence.wide 5 trivial trivial trivial trivial rfl (by omega) (sortsI _) (enters_of Tryd.func86 (by kernel_rfl) rfl) 87 #[.pointer (some ⟨w.heap.size, 0, none⟩)] trivial (enters_of Tryd.func87 (by kernel_rfl) rfl) _ _ hmax hbytes _ hseq
end Go.Proofs.YtfkfpanhbanljaaDoor.LaidI

/- Layer 45 (find): Words. -/
namespace Go.Proofs.YtfkfpanhbanljaaDoor.Find
open Go.RowKit Go.Maps Go.Sort Go.Proofs.YtfkfpanhbanljaaDoor.Mem Go.Proofs.YtfkfpanhbanljaaDoor.Card Go.Proofs.YtfkfpanhbanljaaDoor.Laid Go.Proofs.YtfkfpanhbanljaaDoor.Fold Go.Proofs.YtfkfpanhbanljaaDoor.Twin Go.Proofs.YtfkfpanhbanljaaDoor.List44

theorem enc_bOf (l : List (List UInt8)) : l.map encStr = SB (l.map bOf) := by
  unfold SB
  rw [List.map_map]
  rfl
theorem size_le {w : World} {R : Value → Option (DataW Unit × List MemPlace)} {b n : Nat} {D : DataW Unit} (h : w.ownsMap Tryd.prog 9 R b n D) : Maps.size D ≤ n := by
  obtain ⟨es, clock, hb, F, hs, rfl⟩ := h
  rw [Maps.size_eq, length_sorted, List.length_map]
  simpa using hs
theorem key_has {w : World} {R : Value → Option (DataW Unit × List MemPlace)} {b n : Nat} {D : DataW Unit} (h : w.ownsMap Tryd.prog 9 R b n D) {x : List UInt8} (hx : x ∈ strKeys D) : Maps.has D (.string x) = true := by
  obtain ⟨es, rfl, hko⟩ := h.keysOf
  obtain ⟨p, hp, e⟩ := List.mem_map.1 hx
  rw [Maps.has_eq, List.any_eq_true]
  refine ⟨p, hp, ?_⟩
  obtain ⟨v, hv⟩ := hko p hp
  obtain ⟨y, _, hy, -⟩ := Maps.keyOf_str Tryd.underlying9 hv
  rw [hy] at e ⊢
  have e2 : y = x := e
  subst e2
  simp [Lit.sameKey]
set_option maxRecDepth 100000 in
set_option maxHeartbeats 4000000 in
theorem fwds_any (g : Nat) (A : Option Addr) (c : Nat) (ys : List CardM) (B b : Nat) (w : World) (hx : IxAt w g A c ys B b) (hlen : (pairsK ys ys.length).length ≤ 8000000000000) :
    Calls Tryd.prog 26 #[.pointer (some ⟨g, 0, none⟩)] w fun e w' => ∃ (A2 : Option Addr) (c2 : Nat) (ws : List ByteArray), e = .returned (.slice A2 ws.length c2) ∧ strE.Own w' w.heap.size 9 (.slice A2 ws.length c2) ws ∧ Below w.heap.size w w' ∧ ∀ s ∈ ws, ∃ i, (s, i) ∈ pairsK ys ys.length := by
  obtain ⟨D, ht, hown⟩ := hx.map.own (Below.refl w.heap.size w)
  have hsz := size_le hown
  have CK := kept (callsIn_wide.1 (LaidI.keysI (some b) w))
  have CS := kept (callsIn_wide.1 (LaidI.sortedI b _ D _ w hown (Nat.le_trans hsz (Nat.le_of_lt (few_max hlen))) (by omega)))
  have a1 := hx.box.cell (j := 1) rfl
  have HB0 : Kept (Below w.heap.size w (w.alloc (.cells #[.map (some b)] 62))) := ⟨(Below.refl _ _).alloc (Nat.le_refl _) _⟩
  have HIN : Kept (∀ x, x ∈ strKeys D → ∃ i, (bOf x, i) ∈ pairsK ys ys.length) := ⟨fun x hx2 => by
    have h1 := key_has hown hx2
    have h2 : kS (bOf x) = .string x := by unfold kS; rw [data_bOf]
    rw [← h2, ht.has_] at h1
    cases h3 : idx (pairsK ys ys.length) (bOf x) with
    | nil => rw [h3] at h1; cases h1
    | cons z l =>
      have h4 : z ∈ idx (pairsK ys ys.length) (bOf x) := by rw [h3]; exact List.mem_cons_self
      obtain ⟨i, rfl, -⟩ := idx_lt h4
      exact ⟨i, mem_idx.1 h4⟩⟩
  clear hx ht hown hsz hlen
  go_enter Tryd.func26, Tryd.ntmps26
  go_wp2_with fail
  refine CK.out.mono ?_
  rintro e w1 ⟨rfl, rfl⟩
  go_wp2_with fail
  refine CS.out.mono ?_
  rintro e w2 ⟨v, ss, rfl, hss, hrow, -, hb⟩
  have HB2 := kept (HB0.out.trans (hb.mono HB0.out.size))
  rw [enc_bOf] at hrow
  obtain ⟨ws, hws⟩ : ∃ ws, (ss.mergeSort fun x y => decide (x ≤ y)).map bOf = ws := ⟨_, rfl⟩
  have hwl : ss.length = ws.length := by rw [← hws, List.length_map, List.length_mergeSort]
  have HM : Kept (∀ s ∈ ws, ∃ i, (s, i) ∈ pairsK ys ys.length) := ⟨fun s hs => by
    rw [← hws] at hs
    obtain ⟨x, hx, rfl⟩ := List.mem_map.1 hs
    exact HIN.out x (hss.mem_iff.1 ((List.mergeSort_perm _ _).mem_iff.1 hx))⟩
  rw [hws, hwl] at hrow
  have HO : Kept (OwnK 1 w2 w.heap.size 9 v ws.length (SB ws)) := ⟨OwnK.mono hrow (by have := HB0.out.size; exact this)⟩
  obtain ⟨A2, c2, rfl, -, -, -⟩ := OwnK.form HO.out
  have HO2 : Kept (strE.Own w2 w.heap.size 9 (.slice A2 ws.length c2) ws) := ⟨by
    unfold Elem.Own
    rw [strE_cells]
    exact HO.out⟩
  clear hws hwl hrow hss hb HIN CK CS a1 HO HB0
  go_wp2_with fail
  go_ret
  exact ⟨A2, c2, ws, rfl, HO2.out, HB2.out, HM.out⟩
end Go.Proofs.YtfkfpanhbanljaaDoor.Find

/- The document's Same of two cards, by a name of its own. -/
namespace Go.Proofs.YtfkfpanhbanljaaDoor.Card
open Go.RowKit Go.Proofs.YtfkfpanhbanljaaDoor.Mem

theorem cref_same (x y : CardM) (w : World) (hx : x.Ok w w.heap.size) (hy : y.Ok w w.heap.size) :
    Calls Tryd.prog 25 #[x.val, y.val] w fun e w' => e = .returned (.bool (decide (x.p = y.p))) ∧ Below w.heap.size w w' := rsame_any x y w hx hy
end Go.Proofs.YtfkfpanhbanljaaDoor.Card

/- Layer 45 (find): the law FindLess. -/
namespace Go.Proofs.YtfkfpanhbanljaaDoor.Find
open Go.RowKit Go.Proofs.YtfkfpanhbanljaaDoor.Mem Go.Proofs.YtfkfpanhbanljaaDoor.Card Go.Proofs.YtfkfpanhbanljaaDoor.Laid Go.Proofs.YtfkfpanhbanljaaDoor.Fold Go.Proofs.YtfkfpanhbanljaaDoor.Twin Go.Proofs.YtfkfpanhbanljaaDoor.List44 Go.Proofs.YtfkfpanhbanljaaDoor.Stab

theorem tame_few {l : List CardM} (h : Chg.fewC l) (ht : ∀ y ∈ l, ∀ u ∈ y.ls, ∀ s ∈ u.m, s.size ≤ 1048576) : ∀ x ∈ l, Tame x.ls := fun x hx =>
  ⟨(h.2 x hx).1, fun z hz => ⟨Nat.le_trans ((h.2 x hx).2 z hz).1 (by decide), ((h.2 x hx).2 z hz).2, fun s hs => Nat.le_trans (ht x hx z hz s hs) (by decide)⟩⟩
set_option maxRecDepth 100000 in
set_option maxHeartbeats 16000000 in
theorem lless_law (X : Option Addr) (l : List CardM) (c : Nat) (p q : ByteArray) (w : World) (hr : RdCards w w.heap.size X l) (hc : l.length ≤ c) (hb : c ≤ 4398046511104) (ht : ∀ y ∈ l, ∀ u ∈ y.ls, ∀ s ∈ u.m, s.size ≤ 1048576) (hm : ML w) (hps : p.size ≤ 1048576) (hqs : q.size ≤ 1048576) :
    Calls Tryd.prog 6 #[.slice X l.length c, .string p, .string q] w fun e w' => e = .returned (.bool true) ∧ Below w.heap.size w w' := by
  have CF := kept (Chg.few_any X l c w hr (by omega))
  by_cases hall : Chg.fewC l ∧ p.size ≤ 200 ∧ q.size ≤ 200
  · obtain ⟨hfw, hp2, hq2⟩ := hall
    rw [decide_eq_true hfw] at CF
    have hn : l.length ≤ 25 := hfw.1
    have HM := kept hm
    have hp3 : ¬ (200 : Int) < (p.size : Int) := by omega
    have hq3 : ¬ (200 : Int) < (q.size : Int) := by omega
    have CN := kept (fnew_any X l c w hr hn (short_few hfw) (tame_few hfw ht) hm)
    have HTA := kept (tame_few hfw ht)
    clear hr hm hfw ht
    go_enter Tryd.func6, Tryd.ntmps6
    go_wp2_with fail
    refine CF.out.mono ?_
    rintro e w0 ⟨rfl, rfl⟩
    clear CF
    go_wp2_with fail
    refine CN.out.mono ?_
    rintro e w1 ⟨gi, A, c2, ys, B, b, rfl, hp, hix, hbb, hb1⟩
    have hyl : ys.length = l.length := by
      have := congrArg List.length hp
      rwa [List.length_map, List.length_map, stab_len] at this
    have HYT : Kept (∀ y ∈ ys, Tame y.ls) := ⟨fun y hy => by
      have h2 : y.p ∈ (stab ltC l).map CardM.p := by rw [← hp]; exact List.mem_map_of_mem hy
      obtain ⟨x, hx, e⟩ := List.mem_map.1 h2
      exact tame_p e (HTA.out x ((stab_perm l).mem_iff.1 hx))⟩
    have HIX := kept hix
    have HYL := kept hyl
    have HB1 := kept hb1
    have hn2 : ys.length ≤ 25 := by omega
    have CP := kept (ffind_any gi A c2 ys B b p w1 HIX.out hn2 (by omega) (HM.out.next HB1.out))
    clear hp hix hbb hb1 CN hyl HTA
    go_wp2_with fail
    refine CP.out.mono ?_
    rintro e w2 ⟨A2, ca, xs, rfl, hxp, hxr, hb2⟩
    have HXP := kept hxp
    have HXR := kept hxr.rd
    have HB2 := kept hb2
    have CQ := kept (ffind_any gi A c2 ys B b q w2 (HIX.out.next HB2.out) hn2 (by omega) (HM.out.next (HB1.out.trans (HB2.out.mono HB1.out.size))))
    clear hxp hxr hb2 CP
    go_wp2_with fail
    refine CQ.out.mono ?_
    rintro e w3 ⟨A3, cb, zs, rfl, hzp, -, hb3⟩
    have HZP := kept hzp
    have HB3 := kept (HB2.out.trans (hb3.mono HB2.out.size))
    have HXR3 := kept (HXR.out.next hb3)
    have hsz1 : ¬ (9223372036854775807 : Int) < (p.size : Int) + 1 := by omega
    have CB := kept (ffind_any gi A c2 ys B b (p ++ ⟨#[32]⟩ ++ q) w3 (HIX.out.next HB3.out) hn2 (by rw [ByteArray.size_append, ByteArray.size_append]; show p.size + 1 + q.size ≤ _; omega) (HM.out.next (HB1.out.trans (HB3.out.mono HB1.out.size))))
    clear hzp hb3 CQ HB2
    go_wp2_with fail
    refine CB.out.mono ?_
    rintro e w4 ⟨A4, cv, vs, rfl, hvp, hvr, hb4⟩
    have HB4 := kept (HB3.out.trans (hb4.mono HB3.out.size))
    have HBW := kept (HB1.out.trans (HB4.out.mono HB1.out.size))
    have HVR := kept hvr.rd
    have HXR4 := kept (HXR3.out.next hb4)
    obtain ⟨HQ, hHQ⟩ : ∃ HQ, wordsB q = HQ := ⟨_, rfl⟩
    have HHQ := kept hHQ
    have HV : Kept (vs.map CardM.p = (foundL xs HQ).map CardM.p) := ⟨by rw [hvp, wordsB_mid, found_app, ← hHQ]; exact (found_p _ HXP.out).symm⟩
    have hvl : vs.length = (foundL xs HQ).length := by
      have := congrArg List.length HV.out
      rwa [List.length_map, List.length_map] at this
    have hle : vs.length ≤ zs.length := by
      have h1 := congrArg List.length hvp
      have h2 := congrArg List.length HZP.out
      rw [List.length_map, List.length_map] at h1 h2
      rw [h1, h2, wordsB_mid, found_swap]
      exact found_le _ _
    have hxl : xs.length ≤ 25 := by
      have h1 := congrArg List.length HXP.out
      rw [List.length_map, List.length_map] at h1
      have := found_le ys (wordsB p)
      omega
    have HVL := kept hvl
    have HXT : Kept (∀ x ∈ xs, Tame x.ls) := ⟨fun x hx => by
      have h1 : x.p ∈ (foundL ys (wordsB p)).map CardM.p := by rw [← HXP.out]; exact List.mem_map_of_mem hx
      obtain ⟨y, hy, e⟩ := List.mem_map.1 h1
      exact tame_p e (HYT.out y (List.mem_filter.1 hy).1)⟩
    have HIX4 := kept (HIX.out.next HB4.out)
    have HM4 := kept (HM.out.next HBW.out)
    clear hvp hvr hb4 hHQ HXR HXR3 HXP HZP HB3 HB4 HB1 CB hsz1 HIX hvl
    go_wp2_with fail
    go_loopw [11, 12] (fun sn si wr => ∃ (n k : Nat), k ≤ xs.length ∧ n ≤ k ∧ sn = .int .i64 (n : Int) ∧ si = .int .i64 (k : Int) ∧ Kept (n = (foundL (xs.take k) HQ).length) ∧ Kept (Below w4.heap.size w4 wr)) (fun _ si _ => xs.length - (intOf si).toNat)
    case atStart => exact ⟨0, 0, Nat.zero_le _, Nat.le_refl _, rfl, rfl, ⟨rfl⟩, ⟨Below.refl _ _⟩⟩
    case round =>
      obtain ⟨n, k, hk, hnk, rfl, rfl, HNN, HB5⟩ := hrel
      by_cases hlt : k < xs.length
      · obtain ⟨⟨xcid, xX, xls, xc⟩, hx⟩ : ∃ x, xs[k]? = some x := ⟨_, List.getElem?_eq_getElem hlt⟩
        have hkn : (k : Int) < (xs.length : Int) := by omega
        have hxr := HXR4.out.next HB5.out
        obtain ⟨b1, o1, rfl, hbB, x0, x1, hxo⟩ := hxr.at_ hx
        have CM := fmatch_any ⟨xcid, xX, xls, xc⟩ q wr hxo (HXT.out _ (List.mem_of_getElem? hx)) (by omega) (HM4.out.next HB5.out)
        rw [HHQ.out] at CM
        have HFN := kept (found_next hx HQ)
        have HFA := kept (fun hf => found_at HV.out hx hf)
        unfold CardM.val at CM
        dsimp only at CM HFN HFA x0 x1
        have CM := kept CM
        have HXO := kept hxo
        have HX0 := kept x0
        have HX1 := kept x1
        clear hxr hx hxo
        cases hfit : fitsL xls HQ with
        | false =>
          rw [hfit] at CM
          have HN2 : Kept (n = (foundL (xs.take (k + 1)) HQ).length) := ⟨by rw [HFN.out, hfit, if_neg Bool.false_ne_true, List.append_nil]; exact HNN.out⟩
          clear HFN HFA hfit HX0 HX1 HXO
          go_wp2_with fail
          refine CM.out.mono ?_
          rintro e w6 ⟨rfl, hb6⟩
          have HB6 := kept (HB5.out.trans (hb6.mono HB5.out.size))
          clear hb6 CM
          go_wp2_with fail
          go_roundw
          case rel => exact ⟨n, k + 1, by omega, by omega, rfl, by go_num, HN2, HB6⟩
          case measure => simp [intOf]; omega
        | true =>
          rw [hfit] at CM
          have HN2 : Kept (n + 1 = (foundL (xs.take (k + 1)) HQ).length) := ⟨by rw [HFN.out, hfit, if_pos rfl, List.length_append, ← HNN.out]; rfl⟩
          obtain ⟨⟨ycid, yX, yls, yc⟩, hy, hyp⟩ := HFA.out hfit
          rw [← HNN.out] at hy
          have hnl : n < vs.length := (List.getElem?_eq_some_iff.1 hy).1
          have hnv : (n : Int) < (vs.length : Int) := by omega
          have hyr := HVR.out.next HB5.out
          obtain ⟨b2, o2, rfl, hbC, y0, y1, hyo⟩ := hyr.at_ hy
          dsimp only at y0 y1
          have HXY : Kept (∀ W, Below wr.heap.size wr W → Calls Tryd.prog 25 #[.agg #[.int .u64 (xcid : Int), .slice xX xls.length xc], .agg #[.int .u64 (ycid : Int), .slice yX yls.length yc]] W fun e w' => e = .returned (.bool true) ∧ Below W.heap.size W w') := ⟨fun W hW => by
            have h := cref_same ⟨xcid, xX, xls, xc⟩ ⟨ycid, yX, yls, yc⟩ W (HXO.out.next hW) (hyo.next hW)
            rw [decide_eq_true hyp.symm] at h
            exact h⟩
          have HS : Kept (∀ W, Below wr.heap.size wr W → W.cell? ⟨b1, o1 + k * 2, none⟩ = some (.int .u64 (xcid : Int)) ∧ W.cell? ⟨b1, o1 + k * 2 + 1, none⟩ = some (.slice xX xls.length xc) ∧ W.cell? ⟨b2, o2 + n * 2, none⟩ = some (.int .u64 (ycid : Int)) ∧ W.cell? ⟨b2, o2 + n * 2 + 1, none⟩ = some (.slice yX yls.length yc)) := ⟨fun W hW =>
            ⟨(hW.cell (p := ⟨b1, o1 + k * 2, none⟩) hbB).trans HX0.out, (hW.cell (p := ⟨b1, o1 + k * 2 + 1, none⟩) hbB).trans HX1.out, (hW.cell (p := ⟨b2, o2 + n * 2, none⟩) hbC).trans y0, (hW.cell (p := ⟨b2, o2 + n * 2 + 1, none⟩) hbC).trans y1⟩⟩
          clear HFN HFA hfit HX0 HX1 HXO hy hyp hyr hyo y0 y1 HNN
          go_wp2_with fail
          refine CM.out.mono ?_
          rintro e w6 ⟨rfl, hb6⟩
          have HB6 := kept (HB5.out.trans (hb6.mono HB5.out.size))
          have HXY6 := kept (fun (W : World) (hW : Below w6.heap.size w6 W) => HXY.out W (hb6.trans (hW.mono hb6.size)))
          have HS6 := kept (fun (W : World) (hW : Below w6.heap.size w6 W) => HS.out W (hb6.trans (hW.mono hb6.size)))
          clear hb6 CM HXY HS HB5 x0 x1
          go_upto_region 10 with fail
          go_cut [70] (fun b wx => b = .bool false ∧ Kept (Below w6.heap.size w6 wx))
          case first => as_aux_lemma =>
            clear HN2 HB6 HV HVL HXT HIX4 HM4 HBW HVR HXR4 HYT HYL HHQ HM
            have hnd1 : ¬ (vs.length : Int) ≤ (n : Int) := by omega
            have hnd2 : ¬ vs.length ≤ n := by omega
            refine wp_region_noPanic ?_
            refine wp_region_held_drew (S := fun W => W.cell? ⟨b1, o1 + k * 2, none⟩ = some (.int .u64 (xcid : Int)) ∧ W.cell? ⟨b1, o1 + k * 2 + 1, none⟩ = some (.slice xX xls.length xc) ∧ W.cell? ⟨b2, o2 + n * 2, none⟩ = some (.int .u64 (ycid : Int)) ∧ W.cell? ⟨b2, o2 + n * 2 + 1, none⟩ = some (.slice yX yls.length yc)) (by kernel_rfl) (HS6.out _ (by (repeat (first | with_reducible assumption | with_reducible refine below_new ?_ _ | with_reducible refine Below.drew ?_ | with_reducible exact Below.refl _ _)))) (fun hS0 => ?_)
            refine wpAnyH_take (i := 0) (v := ?_) rfl (by kernel_rfl) (by kernel_rfl) (by kernel_rfl) (fun _ _ _ h => h) (Or.inl ⟨by rfl, ?_⟩) hS0 ?_
            case refine_2 => (intro W hSW; go_simp; try with_reducible rfl)
            try simp only [Act.put, List.setIfInBounds_toArray, List.set_cons_zero, List.set_cons_succ, List.getElem_toArray, List.getElem_cons_zero, List.getElem_cons_succ]
            refine wpAnyH_take (i := 1) (v := ?_) rfl (by kernel_rfl) (by kernel_rfl) (by kernel_rfl) (fun _ _ _ h => h) (Or.inl ⟨by rfl, ?_⟩) hS0 ?_
            case refine_2 => (intro W hSW; go_simp; try with_reducible rfl)
            try simp only [Act.put, List.setIfInBounds_toArray, List.set_cons_zero, List.set_cons_succ, List.getElem_toArray, List.getElem_cons_zero, List.getElem_cons_succ]
            refine wpAnyH_take (i := 2) (v := ?_) rfl (by kernel_rfl) (by kernel_rfl) (by kernel_rfl) (fun _ _ _ h => h) (Or.inl ⟨by rfl, ?_⟩) hS0 ?_
            case refine_2 => (intro W hSW; go_simp; try with_reducible rfl)
            try simp only [Act.put, List.setIfInBounds_toArray, List.set_cons_zero, List.set_cons_succ, List.getElem_toArray, List.getElem_cons_zero, List.getElem_cons_succ]
            refine wpAnyH_take (i := 3) (v := .bool false) rfl (by kernel_rfl) (by kernel_rfl) (by kernel_rfl) (fun _ _ _ h => h) (Or.inl ⟨by rfl, ?_⟩) hS0 ?_
            case refine_1 => (intro W hSW; go_simp; try (first | with_reducible rfl | rfl))
            try simp only [Act.put, List.setIfInBounds_toArray, List.set_cons_zero, List.set_cons_succ, List.getElem_toArray, List.getElem_cons_zero, List.getElem_cons_succ]
            refine wpAnyH_take (i := 4) (v := .bool false) rfl (by kernel_rfl) (by kernel_rfl) (by kernel_rfl) (fun _ _ _ h => h) (Or.inl ⟨by rfl, ?_⟩) hS0 ?_
            case refine_1 => (intro W hSW; go_simp; try (first | with_reducible rfl | rfl))
            try simp only [Act.put, List.setIfInBounds_toArray, List.set_cons_zero, List.set_cons_succ, List.getElem_toArray, List.getElem_cons_zero, List.getElem_cons_succ]
            refine wpAnyH_take (i := 5) (v := ?_) rfl (by kernel_rfl) (by kernel_rfl) (by kernel_rfl) (fun _ _ _ h => h) (Or.inl ⟨by rfl, ?_⟩) hS0 ?_
            case refine_2 => (intro W hSW; go_simp; try with_reducible rfl)
            try simp only [Act.put, List.setIfInBounds_toArray, List.set_cons_zero, List.set_cons_succ, List.getElem_toArray, List.getElem_cons_zero, List.getElem_cons_succ]
            refine wpAnyH_take (i := 6) (v := ?_) rfl (by kernel_rfl) (by kernel_rfl) (by kernel_rfl) (fun _ _ _ h => h) (Or.inl ⟨by rfl, ?_⟩) hS0 ?_
            case refine_2 => (intro W hSW; go_simp; try with_reducible rfl)
            try simp only [Act.put, List.setIfInBounds_toArray, List.set_cons_zero, List.set_cons_succ, List.getElem_toArray, List.getElem_cons_zero, List.getElem_cons_succ]
            refine wpAnyH_take (i := 7) (v := ?_) rfl (by kernel_rfl) (by kernel_rfl) (by kernel_rfl) (fun _ _ _ h => h) (Or.inl ⟨by rfl, ?_⟩) hS0 ?_
            case refine_2 => (intro W hSW; go_simp; try with_reducible rfl)
            try simp only [Act.put, List.setIfInBounds_toArray, List.set_cons_zero, List.set_cons_succ, List.getElem_toArray, List.getElem_cons_zero, List.getElem_cons_succ]
            refine wpAnyH_take (i := 8) (v := ?_) rfl (by kernel_rfl) (by kernel_rfl) (by kernel_rfl) (fun _ _ _ h => h) (Or.inl ⟨by rfl, ?_⟩) hS0 ?_
            case refine_2 => (intro W hSW; obtain ⟨z0, z1, z2, z3⟩ := hSW; go_simp; try with_reducible rfl)
            try simp only [Act.put, List.setIfInBounds_toArray, List.set_cons_zero, List.set_cons_succ, List.getElem_toArray, List.getElem_cons_zero, List.getElem_cons_succ]
            refine wpAnyH_take (i := 9) (v := ?_) rfl (by kernel_rfl) (by kernel_rfl) (by kernel_rfl) (fun _ _ _ h => h) (Or.inl ⟨by rfl, ?_⟩) hS0 ?_
            case refine_2 => (intro W hSW; go_simp; try with_reducible rfl)
            try simp only [Act.put, List.setIfInBounds_toArray, List.set_cons_zero, List.set_cons_succ, List.getElem_toArray, List.getElem_cons_zero, List.getElem_cons_succ]
            refine wpAnyH_take (i := 10) (v := ?_) rfl (by kernel_rfl) (by kernel_rfl) (by kernel_rfl) (fun _ _ _ h => h) (Or.inl ⟨by rfl, ?_⟩) hS0 ?_
            case refine_2 => (intro W hSW; go_simp; try with_reducible rfl)
            try simp only [Act.put, List.setIfInBounds_toArray, List.set_cons_zero, List.set_cons_succ, List.getElem_toArray, List.getElem_cons_zero, List.getElem_cons_succ]
            refine wpAnyH_take (i := 11) (v := ?_) rfl (by kernel_rfl) (by kernel_rfl) (by kernel_rfl) (fun _ _ _ h => h) (Or.inl ⟨by rfl, ?_⟩) hS0 ?_
            case refine_2 => (intro W hSW; go_simp; try with_reducible rfl)
            try simp only [Act.put, List.setIfInBounds_toArray, List.set_cons_zero, List.set_cons_succ, List.getElem_toArray, List.getElem_cons_zero, List.getElem_cons_succ]
            refine wpAnyH_take (i := 12) (v := ?_) rfl (by kernel_rfl) (by kernel_rfl) (by kernel_rfl) (fun _ _ _ h => h) (Or.inl ⟨by rfl, ?_⟩) hS0 ?_
            case refine_2 => (intro W hSW; obtain ⟨z0, z1, z2, z3⟩ := hSW; go_simp; try with_reducible rfl)
            try simp only [Act.put, List.setIfInBounds_toArray, List.set_cons_zero, List.set_cons_succ, List.getElem_toArray, List.getElem_cons_zero, List.getElem_cons_succ]
            refine wpAnyH_ready (rs := [13]) (by kernel_rfl) (by simp) ?_
            refine AllReadyH.cons rfl (fun K' hK => ?_) AllReadyH.nil
            go_simp
            go_at_call 25
            refine (HXY6.out _ (by (repeat (first | with_reducible assumption | with_reducible refine below_new ?_ _ | with_reducible refine Below.drew ?_ | with_reducible exact Below.refl _ _)))).mono ?_
            rintro e x1 ⟨rfl, hx1⟩
            have hk1 : Below w6.heap.size w6 x1 := below_next (by (repeat (first | with_reducible assumption | with_reducible refine below_new ?_ _ | with_reducible refine Below.drew ?_ | with_reducible exact Below.refl _ _))) hx1
            try simp only [Act.put, List.setIfInBounds_toArray, List.set_cons_zero, List.set_cons_succ, List.getElem_toArray, List.getElem_cons_zero, List.getElem_cons_succ]
            refine hK.out _ _ (HS6.out x1 hk1) (fun hS0 => ?_)
            refine wpAnyH_take (i := 14) (v := .bool false) rfl (by kernel_rfl) (by kernel_rfl) (by kernel_rfl) (fun _ _ _ h => h) (Or.inl ⟨by rfl, ?_⟩) hS0 ?_
            case refine_1 => (intro W hSW; go_simp; try (first | with_reducible rfl | rfl))
            try simp only [Act.put, List.setIfInBounds_toArray, List.set_cons_zero, List.set_cons_succ, List.getElem_toArray, List.getElem_cons_zero, List.getElem_cons_succ]
            refine wpAnyH_take (i := 15) (v := .bool false) rfl (by kernel_rfl) (by kernel_rfl) (by kernel_rfl) (fun _ _ _ h => h) (Or.inl ⟨by rfl, ?_⟩) hS0 ?_
            case refine_1 => (intro W hSW; go_simp; try (first | with_reducible rfl | rfl))
            try simp only [Act.put, List.setIfInBounds_toArray, List.set_cons_zero, List.set_cons_succ, List.getElem_toArray, List.getElem_cons_zero, List.getElem_cons_succ]
            refine wpAnyH_done (by kernel_rfl) (NoPanic.normal ?_) _
            go_wp2_with fail
            go_meet
            exact ⟨by first | rfl | simp, ⟨(by (repeat (first | with_reducible assumption | with_reducible refine below_new ?_ _ | with_reducible refine Below.drew ?_ | with_reducible exact Below.refl _ _)))⟩⟩
          case rest =>
            obtain ⟨rfl, hcb⟩ := hcut
            have HB7 := kept (HB6.out.trans (hcb.out.mono HB6.out.size))
            clear hcb HS6 HXY6 HB6
            go_wp2_with fail
            go_roundw
            case rel => exact ⟨n + 1, k + 1, by omega, by omega, by go_num, by go_num, HN2, HB7⟩
            case measure => simp [intOf]; omega
      · obtain rfl : k = xs.length := by omega
        rw [List.take_length, ← HVL.out] at HNN
        obtain rfl := HNN.out
        have HIX5 := kept (HIX4.out.next HB5.out)
        have HBW5 := kept (HBW.out.trans (HB5.out.mono HBW.out.size))
        have HM5 := kept (HM4.out.next HB5.out)
        have HPF := kept (pairs_few HYT.out hn2 (Nat.le_refl _))
        have CW := kept (fwds_any gi A c2 ys B b wr HIX5.out (Nat.le_trans HPF.out (by decide)))
        clear HNN HB5 HIX4 HM4 HBW HXR4 HVR HV HVL HXT HPF
        go_wp2_with fail
        refine CW.out.mono ?_
        rintro e w6 ⟨A6, c6, ws, rfl, hown, hb6, hmem⟩
        have HWO := kept hown
        have HIX6 := kept (HIX5.out.next hb6)
        have HM6 := kept (HM5.out.next hb6)
        have HBW6 := kept (HBW5.out.trans (hb6.mono HBW5.out.size))
        have HME := kept hmem
        have hwc := hown.cap
        have hwx := OwnK.form hown
        obtain ⟨A9, c9, e9, hwn, hwm, -⟩ := hwx
        have hwl : ws.length ≤ 9223372036854775807 := Nat.le_trans hwn hwm
        clear hown hb6 hmem CW HIX5 HM5 HBW5 hwc hwn hwm e9 A9 c9
        go_wp2_with fail
        go_loopw [14] (fun si wr => ∃ k : Nat, k ≤ ws.length ∧ si = .int .i64 (k : Int) ∧ Kept (Below w6.heap.size w6 wr)) (fun si _ => ws.length - (intOf si).toNat)
        case atStart => exact ⟨0, Nat.zero_le _, rfl, ⟨Below.refl _ _⟩⟩
        case round =>
          obtain ⟨k, hk, rfl, HB7⟩ := hrel
          by_cases hlt : k < ws.length
          · obtain ⟨s, hs⟩ : ∃ s, ws[k]? = some s := ⟨_, List.getElem?_eq_getElem hlt⟩
            have hkn : (k : Int) < (ws.length : Int) := by omega
            obtain ⟨b3, o3, rfl, hb3, hc3⟩ := (strE_rd.1 (HWO.out.next HB7.out).rd) (by intro e; rw [List.map_eq_nil_iff.1 e] at hlt; exact absurd hlt (Nat.not_lt_zero _))
            have y0 := hc3 k (.string s) (by unfold SB; rw [List.getElem?_map, hs]; rfl)
            obtain ⟨i, hi⟩ := HME.out s (List.mem_of_getElem? hs)
            obtain ⟨y, hy, hsy⟩ := pairs_mem hi
            have hsz := wordsC_size (HYT.out y hy) hsy
            have hpos := found_word hy hsy
            have CFD := kept (ffind_any gi A c2 ys B b s wr (HIX6.out.next HB7.out) hn2 hsz (HM6.out.next HB7.out))
            have HPO := kept hpos
            clear hc3 hs hi hy hsy hpos hsz
            go_wp2_with fail
            refine CFD.out.mono ?_
            rintro e w8 ⟨A8, c8, us, rfl, hup, -, hb8⟩
            have hul : 0 < us.length := by
              have := congrArg List.length hup
              rw [List.length_map, List.length_map] at this
              rw [this]
              exact HPO.out
            have HB8 := kept (HB7.out.trans (hb8.mono HB7.out.size))
            have hu0 : ¬ (us.length : Int) = 0 := by omega
            have hub : ((us.length : Int) == 0) = false := beq_eq_false_iff_ne.2 hu0
            have hu1 : ¬ us.length = 0 := by omega
            have hu2 : ¬ us = [] := fun e => by rw [e] at hul; exact absurd hul (Nat.lt_irrefl _)
            clear hup hb8 CFD HPO HB7 y0
            go_wp2_with fail
            go_roundw
            case rel => exact ⟨k + 1, by omega, by go_num, HB8⟩
            case measure => simp [intOf]; omega
          · obtain rfl : k = ws.length := by omega
            have CFD := kept (ffind_any gi A c2 ys B b ⟨#[32]⟩ wr (HIX6.out.next HB7.out) hn2 (by show (1 : Nat) ≤ _; decide) (HM6.out.next HB7.out))
            have HBW7 := kept (HBW6.out.trans (HB7.out.mono HBW6.out.size))
            have hvz : (vs.length : Int) ≤ (zs.length : Int) := by omega
            clear HWO HME HB7
            go_wp2_with fail
            refine CFD.out.mono ?_
            rintro e w8 ⟨A8, c8, us, rfl, hup, -, hb8⟩
            have hul : us.length = l.length := by
              have := congrArg List.length hup
              rw [List.length_map, List.length_map, wordsB_blank, found_none] at this
              rw [this]
              exact HYL.out
            have HB8 := kept (HBW7.out.trans (hb8.mono HBW7.out.size))
            have heq : ((us.length : Int) == (l.length : Int)) = true := by rw [hul]; exact beq_self_eq_true _
            clear hup hb8 CFD HBW7 HIX6 HM6 HBW6 hul
            go_wp2_with fail
            refine (fworks_any _ (HM.out.next HB8.out)).mono ?_
            rintro e w9 ⟨rfl, hb9⟩
            have HB9 := kept (HB8.out.trans (hb9.mono HB8.out.size))
            clear hb9 HB8
            go_wp2_with fail
            go_ret
            exact ⟨rfl, HB9.out⟩
  · have HM := kept hm
    have hq : Chg.fewC l → p.size ≤ 200 → ¬ q.size ≤ 200 := fun h1 h2 h3 => hall ⟨h1, h2, h3⟩
    clear hr hm
    go_enter Tryd.func6, Tryd.ntmps6
    go_wp2_with fail
    refine CF.out.mono ?_
    rintro e w0 ⟨rfl, rfl⟩
    clear CF
    by_cases h1 : Chg.fewC l
    · rw [decide_eq_true h1]
      by_cases h2 : p.size ≤ 200
      · have h3 := hq h1 h2
        have hp3 : ¬ (200 : Int) < (p.size : Int) := by omega
        have hq3 : (200 : Int) < (q.size : Int) := by omega
        clear hq h1 hall
        go_wp2_with fail
        refine (fworks_any _ HM.out).mono ?_
        rintro e w9 ⟨rfl, hb9⟩
        go_wp2_with fail
        go_ret
        exact ⟨rfl, hb9⟩
      · have hp3 : (200 : Int) < (p.size : Int) := by omega
        clear hq h1 hall
        go_wp2_with fail
        refine (fworks_any _ HM.out).mono ?_
        rintro e w9 ⟨rfl, hb9⟩
        go_wp2_with fail
        go_ret
        exact ⟨rfl, hb9⟩
    · rw [decide_eq_false h1]
      clear hq h1 hall
      go_wp2_with fail
      refine (fworks_any _ HM.out).mono ?_
      rintro e w9 ⟨rfl, hb9⟩
      go_wp2_with fail
      go_ret
      exact ⟨rfl, hb9⟩
end Go.Proofs.YtfkfpanhbanljaaDoor.Find
