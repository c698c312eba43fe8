import Derived.Test.YtfkfpanhbanljaaGreatDoorSet70
import Derived.KernelRfl
import Derived.BigQuiet
import Derived.Deep.DeepCutAuto
import Derived.Test.YtfkfpanhbanljaaGreatDoorListPlain
import Derived.Test.YtfkfpanhbanljaaGreatDoorSet5
import Derived.Sort.Walk0
import Derived.Shelf.SlIter.Nil
import Derived.Shelf.SortM.Plain
import Derived.Shelf.SortM.SortNone
import Derived.Sort.KeysCollected
import Derived.Test.YtfkfpanhbanljaaGreatDoorSet7
/- Layer 45 (find): the chapter's example. -/
namespace Go.Proofs.YtfkfpanhbanljaaGreatDoor.Find
open Go.RowKit Go.Proofs.YtfkfpanhbanljaaGreatDoor.Mem Go.Proofs.YtfkfpanhbanljaaGreatDoor.Card Go.Proofs.YtfkfpanhbanljaaGreatDoor.Laid Go.Proofs.YtfkfpanhbanljaaGreatDoor.Fold Go.Proofs.YtfkfpanhbanljaaGreatDoor.Twin Go.Proofs.YtfkfpanhbanljaaGreatDoor.List44 Go.Proofs.YtfkfpanhbanljaaGreatDoor.Stab

def exS1 : ByteArray := ⟨#[65, 110, 110, 32, 76, 101, 101]⟩
def exS2 : ByteArray := ⟨#[53, 32, 72, 105, 103, 104, 32, 83, 116, 114, 101, 101, 116]⟩
/-- the example's card -/
def exC (g : Nat) : CardM := ⟨5, some ⟨g, 0, none⟩, [⟨1, exS1, none, [], 0⟩, ⟨5, exS2, none, [], 0⟩], 2⟩
theorem ex_found (g : Nat) : (foundL [exC g] (wordsB ⟨#[115, 116, 114, 32, 97, 110]⟩)).length = 1 := by kernel_rfl
theorem ex_not (g : Nat) : fitsL (exC g).ls (wordsB ⟨#[101, 101, 116]⟩) = false := by kernel_rfl
theorem ex_tame (g : Nat) : Tame (exC g).ls := ⟨by show (2 : Nat) ≤ 12; decide, fun z hz => by
  simp only [exC, List.mem_cons, List.not_mem_nil, or_false] at hz
  rcases hz with rfl | rfl
  · exact ⟨by show (7 : Nat) ≤ 2000000; decide, by show (0 : Nat) ≤ 10; decide, fun q hq => by cases hq⟩
  · exact ⟨by show (13 : Nat) ≤ 2000000; decide, by show (0 : Nat) ≤ 10; decide, fun q hq => by cases hq⟩⟩
theorem ex_ok {W : World} {g : Nat} (hk : Blk W g [.int .u8 1, .string exS1, .slice none 0 0, .int .u8 5, .string exS2, .slice none 0 0] 44) : (exC g).Ok W W.heap.size :=
  ⟨by show (5 : Nat) < _; decide, ⟨hk.rd, fun z hz => by
    simp only [exC, List.mem_cons, List.not_mem_nil, or_false] at hz
    rcases hz with rfl | rfl
    · exact ⟨Mem.Rd.nil, by show (1 : Nat) < 256; decide, Nat.le_refl _, Nat.zero_le _⟩
    · exact ⟨Mem.Rd.nil, by show (5 : Nat) < 256; decide, Nat.le_refl _, Nat.zero_le _⟩⟩, by show (2 : Nat) ≤ 2; decide, by show (2 : Nat) ≤ _; decide⟩
theorem ex_short (g : Nat) : Short [exC g] := fun x hx => by
  obtain rfl := List.mem_singleton.1 hx
  exact Nat.le_trans (title_size (n := 13) fun z hz => by
    simp only [exC, List.mem_cons, List.not_mem_nil, or_false] at hz
    rcases hz with rfl | rfl
    · show (7 : Nat) ≤ 13; decide
    · show (13 : Nat) ≤ 13; decide) (by decide)
theorem wordsC_p {a b : List LineM} (h : a.map LineM.p = b.map LineM.p) : wordsC a = wordsC b := by
  have e : ∀ l : List LineM, wordsC l = (l.map LineM.p).flatMap fun q => wordsB q.2.1 ++ q.2.2.flatMap wordsB := fun l => by
    unfold wordsC
    rw [List.flatMap_map]
    rfl
  rw [e a, e b, h]
theorem fits_p {x y : CardM} (h : x.p = y.p) (hs : List ByteArray) : fitsL x.ls hs = fitsL y.ls hs := by
  unfold fitsL
  rw [wordsC_p (congrArg Prod.snd h)]
theorem found_p (hs : List ByteArray) : ∀ {a b : List CardM}, a.map CardM.p = b.map CardM.p → (foundL a hs).map CardM.p = (foundL b hs).map CardM.p
  | [], [], _ => rfl
  | [], _ :: _, h => by cases h
  | _ :: _, [], h => by cases h
  | x :: a, y :: b, h => by
    simp only [List.map_cons, List.cons.injEq] at h
    have ih := found_p hs h.2
    have e := fits_p h.1 hs
    unfold foundL at ih ⊢
    rw [List.filter_cons, List.filter_cons, e]
    split
    · rw [List.map_cons, List.map_cons, ih, h.1]
    · exact ih
set_option maxRecDepth 100000 in
set_option maxHeartbeats 8000000 in
theorem fworks_any (w : World) (hm : ML w) : Calls Tryz.prog 8 #[] w fun e w' => e = .returned (.bool true) ∧ Below w.heap.size w w' := by
  have HM := kept hm
  clear hm
  obtain ⟨wa, hwa⟩ : ∃ wa, w.alloc (.cells #[.int .u8 1, .string exS1, .slice none 0 0, .int .u8 5, .string exS2, .slice none 0 0] 44) = wa := ⟨_, rfl⟩
  have sa : wa.heap.size = w.heap.size + 1 := by rw [← hwa]; exact Array.size_push ..
  have ka : Blk wa w.heap.size [.int .u8 1, .string exS1, .slice none 0 0, .int .u8 5, .string exS2, .slice none 0 0] 44 := by rw [← hwa]; exact Blk.new w _ _
  have ba : Below w.heap.size w wa := by rw [← hwa]; exact (Below.refl _ _).alloc (Nat.le_refl _) _
  obtain ⟨wb, hwb⟩ : ∃ wb, wa.alloc (.cells #[.int .u64 5, .slice (some ⟨w.heap.size, 0, none⟩) 2 2] 31) = wb := ⟨_, rfl⟩
  have sb : wb.heap.size = w.heap.size + 1 + 1 := by rw [← hwb, ← sa]; exact Array.size_push ..
  have bb : Below wa.heap.size wa wb := by rw [← hwb]; exact (Below.refl _ _).alloc (Nat.le_refl _) _
  have kb : Blk wb (w.heap.size + 1) [.int .u64 5, .slice (some ⟨w.heap.size, 0, none⟩) 2 2] 31 := by rw [← hwb, ← sa]; exact Blk.new wa _ _
  obtain ⟨wd, hwd⟩ : ∃ wd, wb.alloc (.cells #[.int .u64 5, .slice (some ⟨w.heap.size, 0, none⟩) 2 2] 31) = wd := ⟨_, rfl⟩
  have bd : Below wb.heap.size wb wd := by rw [← hwd]; exact (Below.refl _ _).alloc (Nat.le_refl _) _
  have kd : Blk wd (w.heap.size + 1 + 1) [.int .u64 5, .slice (some ⟨w.heap.size, 0, none⟩) 2 2] 31 := by rw [← hwd, ← sb]; exact Blk.new wb _ _
  have KA := kept ((ka.next bb).next bd)
  have KB := kept (kb.next bd)
  have BD : Kept (Below w.heap.size w wd) := ⟨ba.trans ((bb.mono ba.size).trans (bd.mono (by omega)))⟩
  have CN := kept (fnew_any (some ⟨w.heap.size + 1 + 1, 0, none⟩) [exC w.heap.size] 1 wd ⟨kd.rd, fun x hx => by rw [List.mem_singleton.1 hx]; exact ex_ok KA.out⟩ (by show (1 : Nat) ≤ 25; decide) (ex_short _) (fun x hx => by rw [List.mem_singleton.1 hx]; exact ex_tame _) (HM.out.next BD.out))
  have hww : (((w.alloc (.cells #[.int .u8 1, .string exS1, .slice none 0 0, .int .u8 5, .string exS2, .slice none 0 0] 44)).alloc (.cells #[.int .u64 5, .slice (some ⟨w.heap.size, 0, none⟩) 2 2] 31)).alloc (.cells #[.int .u64 5, .slice (some ⟨w.heap.size, 0, none⟩) 2 2] 31)) = wd := by rw [hwa, hwb, hwd]
  have HWW := kept hww
  clear hww hwa hwb hwd sa sb ka kb kd ba bb bd
  go_enter Tryz.func8, Tryz.ntmps8
  go_wp2_with fail
  have hww := HWW.out
  unfold exS1 exS2 at hww
  rw [hww]
  clear hww
  refine CN.out.mono ?_
  rintro e w2 ⟨gi, A, c2, ys, B, b, rfl, hp, hix, hbb, hb⟩
  have hyl : ys.length = 1 := by
    have := congrArg List.length hp
    rwa [List.length_map, List.length_map, stab_len] at this
  have B2 := kept (BD.out.trans (hb.mono BD.out.size))
  have KA2 := kept (KA.out.next hb)
  have KB2 := kept (KB.out.next hb)
  have hps : ys.map CardM.p = [exC w.heap.size].map CardM.p := hp.trans rfl
  have hfl := congrArg List.length (found_p (wordsB ⟨#[115, 116, 114, 32, 97, 110]⟩) hps)
  rw [List.length_map, List.length_map, ex_found] at hfl
  have HFL := kept hfl
  have CF := kept (ffind_any gi A c2 ys B b ⟨#[115, 116, 114, 32, 97, 110]⟩ w2 hix (by omega) (by show (6 : Nat) ≤ _; decide) (HM.out.next B2.out))
  clear hp hix hbb hb CN KA KB BD hps hfl HWW hyl
  go_wp2_with fail
  refine CF.out.mono ?_
  rintro e w3 ⟨A3, c3, zs, rfl, hz, -, hb3⟩
  have hzl : zs.length = 1 := by
    have := congrArg List.length hz
    rw [List.length_map, List.length_map] at this
    exact this.trans HFL.out
  have B3 := kept (B2.out.trans (hb3.mono B2.out.size))
  have KA3 := kept (KA2.out.next hb3)
  have KB3 := KB2.out.next hb3
  have p0 := KB3.cell (j := 0) rfl
  have p1 := KB3.cell (j := 1) rfl
  have CM := fmatch_any (exC w.heap.size) ⟨#[101, 101, 116]⟩ w3 (ex_ok KA3.out) (ex_tame _) (by show (3 : Nat) ≤ _; decide) (HM.out.next B3.out)
  rw [ex_not] at CM
  have CM : Kept (Calls Tryz.prog 10 #[.agg #[.int .u64 5, .slice (some ⟨w.heap.size, 0, none⟩) 2 2], .string ⟨#[101, 101, 116]⟩] w3 fun e w' => e = .returned (.bool false) ∧ Below w3.heap.size w3 w') := ⟨CM⟩
  clear hz hb3 KA2 KB2 KB3 CF B2 HFL
  rw [hzl]
  clear hzl
  go_wp2_with fail
  refine CM.out.mono ?_
  rintro e w4 ⟨rfl, hb4⟩
  have B4 := kept (B3.out.trans (hb4.mono B3.out.size))
  clear hb4 CM
  go_wp2_with fail
  go_ret
  exact ⟨rfl, B4.out⟩
end Go.Proofs.YtfkfpanhbanljaaGreatDoor.Find

/- Layer 45 (find): plain words for the laws. -/
namespace Go.Proofs.YtfkfpanhbanljaaGreatDoor.Find
open Go.RowKit Go.Proofs.YtfkfpanhbanljaaGreatDoor.Mem Go.Proofs.YtfkfpanhbanljaaGreatDoor.Card Go.Proofs.YtfkfpanhbanljaaGreatDoor.Laid Go.Proofs.YtfkfpanhbanljaaGreatDoor.Fold Go.Proofs.YtfkfpanhbanljaaGreatDoor.Twin Go.Proofs.YtfkfpanhbanljaaGreatDoor.List44 Go.Proofs.YtfkfpanhbanljaaGreatDoor.Stab
open Go.Lib hiding Kept

theorem splitS_mid : ∀ (a b : List UInt8), splitS (a ++ 32 :: b) = splitS a ++ splitS b
  | [], b => by rw [List.nil_append, splitS_blank]; rfl
  | c :: a, b => by
    have ih := splitS_mid a b
    obtain ⟨w, r, hwr⟩ := splitS_form a
    by_cases hc : c = 32
    · subst hc
      rw [List.cons_append, splitS_blank, splitS_blank, ih]; rfl
    · rw [hwr, List.cons_append] at ih
      rw [List.cons_append, splitS_other hc ih, splitS_other hc hwr]; rfl
theorem words_mid (a b : List UInt8) : words (a ++ 32 :: b) = words a ++ words b := by
  unfold words
  rw [List.map_append, List.map_cons, show letter 32 = 32 from by decide, splitS_mid, List.filter_append]
theorem data_app (a b : ByteArray) : (a ++ b).data.toList = a.data.toList ++ b.data.toList := by
  rw [ByteArray.data_append, Array.toList_append]
theorem wordsB_mid (p q : ByteArray) : wordsB (p ++ ⟨#[32]⟩ ++ q) = wordsB p ++ wordsB q := by
  unfold wordsB
  rw [data_app, data_app, List.append_assoc]
  show (words (p.data.toList ++ 32 :: q.data.toList)).map bOf = _
  rw [words_mid, List.map_append]
theorem wordsB_blank : wordsB ⟨#[32]⟩ = [] := by kernel_rfl
/-- a word is its own word -/
theorem wordsB_one {t s : ByteArray} (h : s ∈ wordsB t) : wordsB s = [s] := by
  obtain ⟨y, hy, rfl⟩ := List.mem_map.1 h
  have hg := words_good _ y hy
  have h1 : words (Lib.join [y] [32]) = [y] := words_join [y] fun w hw => by rw [List.mem_singleton.1 hw]; exact hg
  have h2 : Lib.join [y] [32] = y := by simp [Lib.join]
  rw [h2] at h1
  unfold wordsB
  rw [data_bOf, h1]
  rfl
theorem wordsC_one {ls : List LineM} {s : ByteArray} (h : s ∈ wordsC ls) : wordsB s = [s] := by
  obtain ⟨z, _, hz⟩ := List.mem_flatMap.1 h
  rcases List.mem_append.1 hz with h1 | h1
  · exact wordsB_one h1
  · obtain ⟨q, _, h2⟩ := List.mem_flatMap.1 h1
    exact wordsB_one h2
theorem hasP_self (s : ByteArray) : hasP s s = true := by
  unfold hasP Lib.hasPrefix
  exact List.isPrefixOf_iff_prefix.2 (List.prefix_refl _)
theorem pairs_mem {ys : List CardM} {s : ByteArray} {i : Nat} (h : (s, i) ∈ pairsK ys ys.length) : ∃ y ∈ ys, s ∈ wordsC y.ls := by
  obtain ⟨k, hk, h2⟩ := List.mem_flatMap.1 h
  obtain ⟨x, hx, e⟩ := List.mem_map.1 h2
  have hkl : k < ys.length := List.mem_range.1 hk
  have e1 : x = s := congrArg Prod.fst e
  have e2 : ys.getD k ⟨0, none, [], 0⟩ = ys[k] := by simp [List.getD, hkl]
  rw [e2] at hx
  exact ⟨ys[k], List.getElem_mem hkl, e1 ▸ hx⟩
theorem found_word {ys : List CardM} {y : CardM} {s : ByteArray} (hy : y ∈ ys) (hs : s ∈ wordsC y.ls) : 0 < (foundL ys (wordsB s)).length := by
  rw [wordsC_one hs]
  refine List.length_pos_of_mem (a := y) (List.mem_filter.2 ⟨hy, ?_⟩)
  unfold fitsL
  rw [List.all_cons, List.all_nil, Bool.and_true, List.any_eq_true]
  exact ⟨s, hs, hasP_self s⟩
theorem found_none (ys : List CardM) : foundL ys [] = ys := List.filter_eq_self.2 fun _ _ => rfl
theorem fits_app (ls : List LineM) (a b : List ByteArray) : fitsL ls (a ++ b) = (fitsL ls a && fitsL ls b) := by
  unfold fitsL
  rw [List.all_append]
theorem found_app (ys : List CardM) (a b : List ByteArray) : foundL ys (a ++ b) = foundL (foundL ys a) b := by
  unfold foundL
  rw [List.filter_filter]
  refine List.filter_congr fun y _ => ?_
  rw [fits_app, Bool.and_comm]
theorem found_swap (ys : List CardM) (a b : List ByteArray) : foundL ys (a ++ b) = foundL (foundL ys b) a := by
  rw [← found_app]
  unfold foundL
  refine List.filter_congr fun y _ => ?_
  rw [fits_app, fits_app, Bool.and_comm]
theorem found_le (ys : List CardM) (a : List ByteArray) : (foundL ys a).length ≤ ys.length := List.length_filter_le _ _
/-- the next one that is found twice -/
theorem found_at {xs bs : List CardM} {hs : List ByteArray} {k : Nat} {x : CardM} (hb : bs.map CardM.p = (foundL xs hs).map CardM.p) (hx : xs[k]? = some x) (hf : fitsL x.ls hs = true) :
    ∃ y, bs[(foundL (xs.take k) hs).length]? = some y ∧ y.p = x.p := by
  have h1 : foundL xs hs = foundL (xs.take k) hs ++ (x :: foundL (xs.drop (k + 1)) hs) := by
    obtain ⟨h2, h3⟩ := List.getElem?_eq_some_iff.1 hx
    have e : xs = xs.take k ++ x :: xs.drop (k + 1) := by rw [← h3, List.getElem_cons_drop, List.take_append_drop]
    unfold foundL
    conv => lhs; rw [e]
    rw [List.filter_append, List.filter_cons, if_pos hf]
  have h4 : (bs.map CardM.p)[(foundL (xs.take k) hs).length]? = some x.p := by
    rw [hb, h1, List.map_append, List.getElem?_append_right (by rw [List.length_map]; exact Nat.le_refl _), List.length_map, Nat.sub_self]
    rfl
  rw [List.getElem?_map] at h4
  cases h5 : bs[(foundL (xs.take k) hs).length]? with
  | none => rw [h5] at h4; cases h4
  | some y => rw [h5] at h4; exact ⟨y, rfl, Option.some.inj h4⟩
end Go.Proofs.YtfkfpanhbanljaaGreatDoor.Find

/- Layer 45 (find): texts in order, each once (plain). -/
namespace Go.Proofs.YtfkfpanhbanljaaGreatDoor.Find
open Go.Lib Go.Sort Go.Proofs.YtfkfpanhbanljaaGreatDoor.Card

def db (s : ByteArray) : List UInt8 := s.data.toList
theorem lt_totF {x y : List UInt8} (h : ¬ x < y) (h2 : ¬ y < x) : x = y := List.le_antisymm (List.not_lt.1 h2) (List.not_lt.1 h)
theorem db_inj {a b : ByteArray} (h : db a = db b) : a = b := by
  obtain ⟨⟨x⟩⟩ := a
  obtain ⟨⟨y⟩⟩ := b
  have : x = y := h
  rw [this]
/-- texts in order, each once -/
def IncF (l : List ByteArray) : Prop := l.Pairwise fun a b => db a < db b
theorem incF_ext : ∀ {a b : List ByteArray}, IncF a → IncF b → (∀ x, x ∈ a ↔ x ∈ b) → a = b
  | [], [], _, _, _ => rfl
  | [], y :: b, _, _, h => absurd ((h y).2 List.mem_cons_self) List.not_mem_nil
  | x :: a, [], _, _, h => absurd ((h x).1 List.mem_cons_self) List.not_mem_nil
  | x :: a, y :: b, ha, hb, h => by
    obtain ⟨h1, h2⟩ := List.pairwise_cons.1 ha
    obtain ⟨h3, h4⟩ := List.pairwise_cons.1 hb
    have e : x = y := by
      rcases List.mem_cons.1 ((h x).1 List.mem_cons_self) with e | e
      · exact e
      · rcases List.mem_cons.1 ((h y).2 List.mem_cons_self) with e2 | e2
        · exact e2.symm
        · exact absurd (List.lt_trans (h3 x e) (h1 y e2)) (List.lt_irrefl _)
    subst e
    rw [incF_ext h2 h4 fun z => ⟨fun hz => ?_, fun hz => ?_⟩]
    · rcases List.mem_cons.1 ((h z).1 (List.mem_cons_of_mem _ hz)) with e | e
      · subst e; exact absurd (h1 z hz) (List.lt_irrefl _)
      · exact e
    · rcases List.mem_cons.1 ((h z).2 (List.mem_cons_of_mem _ hz)) with e | e
      · subst e; exact absurd (h3 z hz) (List.lt_irrefl _)
      · exact e
/-- a text more, in its place -/
def putF (l : List ByteArray) (s : ByteArray) : List ByteArray := l.filter (fun x => Op.bytesLess x.toList s.toList) ++ s :: l.filter (fun x => Op.bytesLess s.toList x.toList)
theorem less_db (a b : ByteArray) : Op.bytesLess a.toList b.toList = decide (db a < db b) := by rw [bytesLess_eq, ByteArray.toList_eq, ByteArray.toList_eq]; rfl
theorem putF_inc {l : List ByteArray} (h : IncF l) (s : ByteArray) : IncF (putF l s) := by
  unfold putF IncF
  refine List.pairwise_append.2 ⟨List.Pairwise.sublist List.filter_sublist h, List.pairwise_cons.2 ⟨fun x hx => ?_, List.Pairwise.sublist List.filter_sublist h⟩, fun a ha b hb => ?_⟩
  · have := (List.mem_filter.1 hx).2
    rw [less_db] at this
    exact of_decide_eq_true this
  · have h1 := (List.mem_filter.1 ha).2
    rw [less_db] at h1
    have h1 := of_decide_eq_true h1
    rcases List.mem_cons.1 hb with rfl | hb
    · exact h1
    · have h2 := (List.mem_filter.1 hb).2
      rw [less_db] at h2
      exact List.lt_trans h1 (of_decide_eq_true h2)
theorem putF_mem {l : List ByteArray} {s x : ByteArray} : x ∈ putF l s ↔ x ∈ l ∨ x = s := by
  unfold putF
  simp only [List.mem_append, List.mem_cons, List.mem_filter, less_db, decide_eq_true_eq]
  constructor
  · rintro (h | h | h)
    · exact .inl h.1
    · exact .inr h
    · exact .inl h.1
  · rintro (h | h)
    · by_cases h1 : db x < db s
      · exact .inl ⟨h, h1⟩
      · by_cases h2 : db s < db x
        · exact .inr (.inr ⟨h, h2⟩)
        · exact .inr (.inl (db_inj (lt_totF h1 h2)))
    · exact .inr (.inl h)
def putsF (l : List ByteArray) : List ByteArray := l.foldl putF []
theorem putsF_from (l : List ByteArray) : ∀ a : List ByteArray, IncF a → IncF (l.foldl putF a) ∧ ∀ x, x ∈ l.foldl putF a ↔ x ∈ a ∨ x ∈ l := by
  induction l with
  | nil => intro a h; exact ⟨h, fun x => by simp⟩
  | cons s l ih =>
    intro a h
    obtain ⟨h1, h2⟩ := ih (putF a s) (putF_inc h s)
    refine ⟨h1, fun x => ?_⟩
    rw [List.foldl_cons, h2 x, putF_mem, List.mem_cons]
    exact or_assoc
theorem putsF_inc (l : List ByteArray) : IncF (putsF l) := (putsF_from l [] List.Pairwise.nil).1
theorem putsF_mem {l : List ByteArray} {x : ByteArray} : x ∈ putsF l ↔ x ∈ l := by
  have := (putsF_from l [] List.Pairwise.nil).2 x
  rw [show (x ∈ putsF l) = (x ∈ l.foldl putF []) from rfl, this]
  simp
theorem putsF_snoc (l : List ByteArray) (x : ByteArray) : putsF (l ++ [x]) = putF (putsF l) x := by unfold putsF; rw [List.foldl_append]; rfl
theorem two_filters {α : Type} (p q : α → Bool) (h : ∀ x, p x = true → q x = false) : ∀ l : List α, (l.filter p).length + (l.filter q).length ≤ l.length
  | [] => Nat.le_refl _
  | x :: l => by
    have ih := two_filters p q h l
    rw [List.filter_cons, List.filter_cons]
    cases hp : p x with
    | true => rw [h x hp]; simp; omega
    | false => cases q x <;> simp <;> omega
theorem putF_length (l : List ByteArray) (s : ByteArray) : (putF l s).length ≤ l.length + 1 := by
  unfold putF
  rw [List.length_append, List.length_cons]
  have := two_filters (fun x => Op.bytesLess x.toList s.toList) (fun x : ByteArray => Op.bytesLess s.toList x.toList) (fun x h => by
    rw [less_db] at h ⊢
    exact decide_eq_false fun h2 => List.lt_irrefl _ (List.lt_trans (of_decide_eq_true h) h2)) l
  omega
theorem putsF_length (l : List ByteArray) : (putsF l).length ≤ l.length := by
  have : ∀ (l a : List ByteArray), (l.foldl putF a).length ≤ a.length + l.length := by
    intro l
    induction l with
    | nil => intro a; exact Nat.le_refl _
    | cons s l ih =>
      intro a
      rw [List.foldl_cons, List.length_cons]
      have h1 := ih (putF a s)
      have h2 := putF_length a s
      omega
  simpa [putsF] using this l []
theorem filterF_snoc {α : Type} (p : α → Bool) {l : List α} {j : Nat} {x : α} (h : l[j]? = some x) : (l.take (j + 1)).filter p = (l.take j).filter p ++ (if p x then [x] else []) := by
  have hlt := (List.getElem?_eq_some_iff.1 h).1
  have hx := (List.getElem?_eq_some_iff.1 h).2
  rw [List.take_succ_eq_append_getElem hlt, hx, List.filter_append]
  congr 1
  by_cases hp : p x = true
  · simp [hp]
  · simp [hp]
theorem gtF_yes {x s : ByteArray} (h : Op.bytesLess s.toList x.toList = true) : Op.bytesLess x.toList s.toList = false ∧ (x.toList == s.toList) = false := by
  rw [less_db, decide_eq_true_eq] at h
  refine ⟨?_, ?_⟩
  · rw [less_db]
    exact decide_eq_false fun h2 => List.lt_irrefl _ (List.lt_trans h h2)
  · rw [str_beq]
    exact decide_eq_false fun e => by rw [e] at h; exact List.lt_irrefl _ h
theorem gtF_no {x s : ByteArray} (h : Op.bytesLess s.toList x.toList = false) : Op.bytesLess x.toList s.toList = true ∨ (Op.bytesLess x.toList s.toList = false ∧ (x.toList == s.toList) = true) := by
  rw [less_db, decide_eq_false_iff_not] at h
  by_cases h2 : db x < db s
  · left; rw [less_db]; exact decide_eq_true h2
  · right
    rw [less_db, str_beq]
    exact ⟨decide_eq_false h2, decide_eq_true (db_inj (lt_totF h2 h))⟩
end Go.Proofs.YtfkfpanhbanljaaGreatDoor.Find

/- Contracts of maps.Keys, slices.Sorted on texts off the kit's shelf, laid at this translation (written by the kit's lay-plain.mjs, turned into a template by tools/mklaid.py). -/
namespace Go.Proofs.YtfkfpanhbanljaaGreatDoor.LaidI
open Go.Shelf Go.RowKit Go.Maps Go.Sort
def laysKeys_ren : Go.Shelf.Ren := ⟨fun | 7 => 40 | 10 => 79 | n => n, fun | 23 => 40 | 26 => 9 | 3 => 53 | 28 => 64 | 0 => 0 | 27 => 63 | 33 => 57 | 4 => 4 | n => n, fun | n => n⟩
theorem laysKeys : Go.Proofs.SlLaysZ.n7 Tryz.prog laysKeys_ren := {
  mixed := by kernel_rfl
  f7 := ⟨Tryz.f40.name, by decide, Tryz.func40.trans (congrArg some (by kernel_rfl))⟩
  f10 := ⟨Tryz.f79.name, by decide, Tryz.func79.trans (congrArg some (by kernel_rfl))⟩
  t0 := Tryz.underlying0
  a0 := Tryz.isAgg0
  z0 := Tryz.sizeOf0
  v0 := Tryz.zeroValue0
  t4 := Tryz.underlying4
  a4 := Tryz.isAgg4
  z4 := Tryz.sizeOf4
  v4 := Tryz.zeroValue4
  t23 := Tryz.underlying40
  a23 := Tryz.isAgg40
  z23 := Tryz.sizeOf40
  v23 := Tryz.zeroValue40
  t26 := Tryz.underlying9
  a26 := Tryz.isAgg9
  z26 := Tryz.sizeOf9
  v26 := Tryz.zeroValue9
  t27 := Tryz.underlying63
  a27 := Tryz.isAgg63
  z27 := Tryz.sizeOf63
  v27 := Tryz.zeroValue63
  t28 := Tryz.underlying64
  a28 := Tryz.isAgg64
  z28 := Tryz.sizeOf64
  v28 := Tryz.zeroValue64
  t33 := Tryz.underlying57
  a33 := Tryz.isAgg57
  z33 := Tryz.sizeOf57
  v33 := Tryz.zeroValue57 }
def laysSorted_ren : Go.Shelf.Ren := ⟨fun | 6 => 39 | 8 => 77 | 9 => 78 | 11 => 96 | 13 => 87 | 12 => 97 | 23 => 117 | 24 => 118 | 14 => 127 | 15 => 128 | 16 => 129 | 17 => 130 | 18 => 131 | 19 => 132 | 20 => 133 | 21 => 134 | 22 => 135 | 25 => 157 | 26 => 146 | 27 => 147 | 28 => 158 | 29 => 159 | 30 => 152 | 31 => 172 | n => n, fun | 26 => 9 | 28 => 64 | 24 => 36 | 0 => 0 | 3 => 3 | 37 => 97 | 48 => 131 | 50 => 28 | 4 => 4 | 40 => 123 | 39 => 122 | 45 => 128 | 5 => 5 | 9 => 9 | 51 => 151 | 55 => 155 | 57 => 167 | 58 => 168 | 33 => 57 | n => n, fun | n => n⟩
theorem laysSorted : Go.Proofs.SlLaysZ.n6 Tryz.prog laysSorted_ren := {
  mixed := by kernel_rfl
  f6 := ⟨Tryz.f39.name, by decide, Tryz.func39.trans (congrArg some (by kernel_rfl))⟩
  f8 := ⟨Tryz.f77.name, by decide, Tryz.func77.trans (congrArg some (by kernel_rfl))⟩
  f11 := ⟨Tryz.f96.name, by decide, Tryz.func96.trans (congrArg some (by kernel_rfl))⟩
  t0 := Tryz.underlying0
  a0 := Tryz.isAgg0
  z0 := Tryz.sizeOf0
  v0 := Tryz.zeroValue0
  t24 := Tryz.underlying36
  a24 := Tryz.isAgg36
  z24 := Tryz.sizeOf36
  v24 := Tryz.zeroValue36
  t26 := Tryz.underlying9
  a26 := Tryz.isAgg9
  z26 := Tryz.sizeOf9
  v26 := Tryz.zeroValue9
  t28 := Tryz.underlying64
  a28 := Tryz.isAgg64
  z28 := Tryz.sizeOf64
  v28 := Tryz.zeroValue64
  i26 := by kernel_rfl }
def laysSort_ren : Go.Shelf.Ren := ⟨fun | 6 => 78 | 8 => 87 | 9 => 97 | 19 => 117 | 20 => 118 | 21 => 127 | 22 => 128 | 23 => 129 | 24 => 130 | 25 => 131 | 26 => 132 | 27 => 133 | 28 => 134 | 29 => 135 | 36 => 157 | 31 => 146 | 32 => 147 | 37 => 158 | 38 => 159 | 39 => 152 | 41 => 172 | n => n, fun | 27 => 36 | 29 => 9 | 3 => 3 | 32 => 97 | 26 => 36 | 0 => 0 | 44 => 131 | 46 => 28 | 4 => 4 | 36 => 123 | 35 => 122 | 41 => 128 | 5 => 5 | 9 => 9 | 53 => 151 | 57 => 155 | 63 => 167 | 64 => 168 | n => n, fun | n => n⟩
theorem laysSort : Go.Proofs.SlLaysM.n6 Tryz.prog laysSort_ren := {
  mixed := by kernel_rfl
  f6 := ⟨Tryz.f78.name, by decide, Tryz.func78.trans (congrArg some (by kernel_rfl))⟩
  f8 := Tryz.func87.trans (congrArg some (by kernel_rfl))
  f9 := ⟨Tryz.f97.name, by decide, Tryz.func97.trans (congrArg some (by kernel_rfl))⟩
  f19 := Tryz.func117.trans (congrArg some (by kernel_rfl))
  f20 := Tryz.func118.trans (congrArg some (by kernel_rfl))
  f21 := ⟨Tryz.f127.name, by decide, Tryz.func127.trans (congrArg some (by kernel_rfl))⟩
  f22 := ⟨Tryz.f128.name, by decide, Tryz.func128.trans (congrArg some (by kernel_rfl))⟩
  f23 := ⟨Tryz.f129.name, by decide, Tryz.func129.trans (congrArg some (by kernel_rfl))⟩
  f24 := ⟨Tryz.f130.name, by decide, Tryz.func130.trans (congrArg some (by kernel_rfl))⟩
  f25 := ⟨Tryz.f131.name, by decide, Tryz.func131.trans (congrArg some (by kernel_rfl))⟩
  f26 := ⟨Tryz.f132.name, by decide, Tryz.func132.trans (congrArg some (by kernel_rfl))⟩
  f27 := ⟨Tryz.f133.name, by decide, Tryz.func133.trans (congrArg some (by kernel_rfl))⟩
  f28 := ⟨Tryz.f134.name, by decide, Tryz.func134.trans (congrArg some (by kernel_rfl))⟩
  f29 := ⟨Tryz.f135.name, by decide, Tryz.func135.trans (congrArg some (by kernel_rfl))⟩
  f31 := Tryz.func146.trans (congrArg some (by kernel_rfl))
  f32 := Tryz.func147.trans (congrArg some (by kernel_rfl))
  f36 := ⟨Tryz.f157.name, by decide, Tryz.func157.trans (congrArg some (by kernel_rfl))⟩
  f37 := ⟨Tryz.f158.name, by decide, Tryz.func158.trans (congrArg some (by kernel_rfl))⟩
  f38 := ⟨Tryz.f159.name, by decide, Tryz.func159.trans (congrArg some (by kernel_rfl))⟩
  f39 := ⟨Tryz.f152.name, by decide, Tryz.func152.trans (congrArg some (by kernel_rfl))⟩
  f41 := ⟨Tryz.f172.name, by decide, Tryz.func172.trans (congrArg some (by kernel_rfl))⟩
  t0 := Tryz.underlying0
  a0 := Tryz.isAgg0
  z0 := Tryz.sizeOf0
  v0 := Tryz.zeroValue0
  t3 := Tryz.underlying3
  a3 := Tryz.isAgg3
  z3 := Tryz.sizeOf3
  v3 := Tryz.zeroValue3
  t4 := Tryz.underlying4
  a4 := Tryz.isAgg4
  z4 := Tryz.sizeOf4
  v4 := Tryz.zeroValue4
  t5 := Tryz.underlying5
  a5 := Tryz.isAgg5
  z5 := Tryz.sizeOf5
  v5 := Tryz.zeroValue5
  t9 := Tryz.underlying9
  a9 := Tryz.isAgg9
  z9 := Tryz.sizeOf9
  v9 := Tryz.zeroValue9
  t26 := Tryz.underlying36
  a26 := Tryz.isAgg36
  z26 := Tryz.sizeOf36
  v26 := Tryz.zeroValue36
  t27 := Tryz.underlying36
  a27 := Tryz.isAgg36
  z27 := Tryz.sizeOf36
  v27 := Tryz.zeroValue36
  t29 := Tryz.underlying9
  a29 := Tryz.isAgg9
  z29 := Tryz.sizeOf9
  v29 := Tryz.zeroValue9
  t32 := Tryz.underlying97
  a32 := Tryz.isAgg97
  z32 := Tryz.sizeOf97
  v32 := Tryz.zeroValue97
  t35 := Tryz.underlying122
  a35 := Tryz.isAgg122
  z35 := Tryz.sizeOf122
  v35 := Tryz.zeroValue122
  t36 := Tryz.underlying123
  a36 := Tryz.isAgg123
  z36 := Tryz.sizeOf123
  v36 := Tryz.zeroValue123
  t41 := Tryz.underlying128
  a41 := Tryz.isAgg128
  z41 := Tryz.sizeOf128
  v41 := Tryz.zeroValue128
  t44 := Tryz.underlying131
  a44 := Tryz.isAgg131
  z44 := Tryz.sizeOf131
  v44 := Tryz.zeroValue131
  t46 := Tryz.underlying28
  a46 := Tryz.isAgg28
  z46 := Tryz.sizeOf28
  v46 := Tryz.zeroValue28
  t53 := Tryz.underlying151
  a53 := Tryz.isAgg151
  z53 := Tryz.sizeOf151
  v53 := Tryz.zeroValue151
  t57 := Tryz.underlying155
  a57 := Tryz.isAgg155
  z57 := Tryz.sizeOf155
  v57 := Tryz.zeroValue155
  t63 := Tryz.underlying167
  a63 := Tryz.isAgg167
  z63 := Tryz.sizeOf167
  v63 := Tryz.zeroValue167
  t64 := Tryz.underlying168
  a64 := Tryz.isAgg168
  z64 := Tryz.sizeOf168
  v64 := Tryz.zeroValue168 }
theorem sortsI (m : Nat) : AnyZ.SortsIn Tryz.prog laysSorted_ren Fence.wide m :=
  ⟨fun blk off cap ss W hH hblk hsz => callsIn_wide.2 (AnyM.slices_Sort_string laysSort blk off cap ss W hH hblk hsz),
   fun p cap W => callsIn_wide.2 (AnyM.slices_Sort_string_none laysSort p cap W)⟩
theorem keysI (mb : Option Nat) (W : World) : CallsIn Fence.wide 5 Tryz.prog 40 #[.map mb] W fun e w' => e = .returned (.func (.func 79) #[] #[.pointer (some ⟨W.heap.size, 0, none⟩)]) ∧ w' = W.alloc (.cells #[.map mb] 40) :=
  AnyZ.keys_in laysKeys Fence.wide 5 trivial rfl mb W
set_option maxHeartbeats 1000000 in
theorem sortedI {H : Type} (b nn : Nat) (D0 : DataW H) (R : Value → Option (DataW H × List MemPlace)) (w : World) (hown : w.ownsMap Tryz.prog 9 R b nn D0) (hmax : Maps.size D0 ≤ maxLen) (hbytes : Maps.size D0 * 16 ≤ 140737488355328) :
    CallsIn Fence.wide 5 Tryz.prog 39 #[.func (.func 79) #[] #[.pointer (some ⟨w.heap.size, 0, none⟩)]] (w.alloc (.cells #[.map (some b)] 40)) fun e w' => ∃ (v : Value) (ss : List (List UInt8)), e = .returned v ∧ ss.Perm (strKeys D0) ∧
      w'.ownsRow (w.alloc (.cells #[.map (some b)] 40)).heap.size 9 1 v ss.length ((ss.mergeSort (fun x y => decide (x ≤ y))).map encStr) ∧ (v = .slice none 0 0 ↔ ss = []) ∧ Below (w.alloc (.cells #[.map (some b)] 40)).heap.size (w.alloc (.cells #[.map (some b)] 40)) w' := by
  have hbl := hown.lt
  have hseq : SeqGives Fence.wide 2 Tryz.prog 79 #[.pointer (some ⟨w.heap.size, 0, none⟩)] encStr (fun ss => ss.Perm (strKeys D0)) (Maps.size D0) (w.alloc (.cells #[.map (some b)] 40)) :=
    AnyZ.keys_gives (ρ := laysKeys_ren) { laysKeys with } Fence.wide _ trivial rfl (by omega) w.heap.size b nn D0 _ (by simp) (by simp) (by
      obtain ⟨es, clock, hb, Ft, hs, hD⟩ := hown
      exact ⟨es, clock, (Below.heap_alloc _ _ b hbl).trans hb, Ft, hs, hD⟩)
  exact AnyZ.sorted_in laysSorted Fence.wide 5 trivial trivial trivial trivial rfl (by omega) (sortsI _) (enters_of Tryz.func78 (by kernel_rfl) rfl) 79 #[.pointer (some ⟨w.heap.size, 0, none⟩)] trivial (enters_of Tryz.func79 (by kernel_rfl) rfl) _ _ hmax hbytes _ hseq
end Go.Proofs.YtfkfpanhbanljaaGreatDoor.LaidI

/- Layer 45 (find): Words. -/
namespace Go.Proofs.YtfkfpanhbanljaaGreatDoor.Find
open Go.RowKit Go.Maps Go.Sort Go.Proofs.YtfkfpanhbanljaaGreatDoor.Mem Go.Proofs.YtfkfpanhbanljaaGreatDoor.Card Go.Proofs.YtfkfpanhbanljaaGreatDoor.Laid Go.Proofs.YtfkfpanhbanljaaGreatDoor.Fold Go.Proofs.YtfkfpanhbanljaaGreatDoor.Twin Go.Proofs.YtfkfpanhbanljaaGreatDoor.List44

theorem enc_bOf (l : List (List UInt8)) : l.map encStr = SB (l.map bOf) := by
  unfold SB
  rw [List.map_map]
  rfl
theorem size_le {w : World} {R : Value → Option (DataW Unit × List MemPlace)} {b n : Nat} {D : DataW Unit} (h : w.ownsMap Tryz.prog 9 R b n D) : Maps.size D ≤ n := by
  obtain ⟨es, clock, hb, F, hs, rfl⟩ := h
  rw [Maps.size_eq, length_sorted, List.length_map]
  simpa using hs
theorem key_has {w : World} {R : Value → Option (DataW Unit × List MemPlace)} {b n : Nat} {D : DataW Unit} (h : w.ownsMap Tryz.prog 9 R b n D) {x : List UInt8} (hx : x ∈ strKeys D) : Maps.has D (.string x) = true := by
  obtain ⟨es, rfl, hko⟩ := h.keysOf
  obtain ⟨p, hp, e⟩ := List.mem_map.1 hx
  rw [Maps.has_eq, List.any_eq_true]
  refine ⟨p, hp, ?_⟩
  obtain ⟨v, hv⟩ := hko p hp
  obtain ⟨y, _, hy, -⟩ := Maps.keyOf_str Tryz.underlying9 hv
  rw [hy] at e ⊢
  have e2 : y = x := e
  subst e2
  simp [Lit.sameKey]
theorem has_key {w : World} {R : Value → Option (DataW Unit × List MemPlace)} {b n : Nat} {D : DataW Unit} (h : w.ownsMap Tryz.prog 9 R b n D) {x : List UInt8} (hx : Maps.has D (.string x) = true) : x ∈ strKeys D := by
  obtain ⟨es, rfl, hko⟩ := h.keysOf
  rw [Maps.has_eq, List.any_eq_true] at hx
  obtain ⟨p, hp, hs⟩ := hx
  obtain ⟨v, hv⟩ := hko p hp
  obtain ⟨y, _, hy, -⟩ := Maps.keyOf_str Tryz.underlying9 hv
  rw [hy] at hs
  have e : y = x := by simpa [Lit.sameKey] using hs
  exact List.mem_map.2 ⟨p, hp, by rw [hy]; exact e⟩
theorem keys_nodup {w : World} {R : Value → Option (DataW Unit × List MemPlace)} {b n : Nat} {D : DataW Unit} (h : w.ownsMap Tryz.prog 9 R b n D) : (strKeys D).Nodup := by
  obtain ⟨es0, rfl, hko⟩ := h.keysOf
  obtain ⟨es, e, hp, -⟩ := h.entries lawS
  cases e
  show (es0.map fun p => strOf p.1).Nodup
  refine List.pairwise_map.2 (hp.imp_of_mem fun {p q} hp' hq' hne e => hne ?_)
  obtain ⟨u, hu⟩ := hko p hp'
  obtain ⟨v, hv⟩ := hko q hq'
  obtain ⟨a, _, ha, -⟩ := Maps.keyOf_str Tryz.underlying9 hu
  obtain ⟨b, _, hb, -⟩ := Maps.keyOf_str Tryz.underlying9 hv
  rw [ha, hb] at e ⊢
  exact congrArg _ e
theorem inc_sorted {ss : List (List UInt8)} (h : ss.Nodup) : IncF ((ss.mergeSort fun x y => decide (x ≤ y)).map bOf) := by
  have tr : ∀ a b c : List UInt8, decide (a ≤ b) = true → decide (b ≤ c) = true → decide (a ≤ c) = true := fun a b c h1 h2 => by simp only [decide_eq_true_eq] at *; exact List.le_trans h1 h2
  have ttl : ∀ a b : List UInt8, (decide (a ≤ b) || decide (b ≤ a)) = true := fun a b => by simp only [Bool.or_eq_true, decide_eq_true_eq]; exact List.le_total a b
  have h1 := List.pairwise_mergeSort tr ttl ss
  have h2 : (ss.mergeSort fun x y => decide (x ≤ y)).Nodup := (List.mergeSort_perm ss _).nodup_iff.2 h
  unfold IncF
  refine List.pairwise_map.2 ((h1.and h2).imp fun {a b} hab => ?_)
  show db (bOf a) < db (bOf b)
  unfold db
  rw [data_bOf, data_bOf]
  obtain ⟨h3, h4⟩ := hab
  by_cases h5 : a < b
  · exact h5
  · exact absurd (List.le_antisymm (of_decide_eq_true h3) (List.not_lt.1 h5)) h4
set_option maxRecDepth 100000 in
set_option maxHeartbeats 4000000 in
theorem fwds2_any (g : Nat) (A : Option Addr) (c : Nat) (ys : List CardM) (B b : Nat) (w : World) (hx : IxAt w g A c ys B b) (hlen : (pairsK ys ys.length).length ≤ 8000000000000) :
    Calls Tryz.prog 16 #[.pointer (some ⟨g, 0, none⟩)] w fun e w' => ∃ (A2 : Option Addr) (c2 : Nat) (ws : List ByteArray), e = .returned (.slice A2 ws.length c2) ∧ strE.Own w' w.heap.size 9 (.slice A2 ws.length c2) ws ∧ Below w.heap.size w w' ∧ IncF ws ∧ ∀ s, s ∈ ws ↔ ∃ i, (s, i) ∈ pairsK ys ys.length := by
  obtain ⟨D, ht, hown⟩ := hx.map.own (Below.refl w.heap.size w)
  have hsz := size_le hown
  have CK := kept (callsIn_wide.1 (LaidI.keysI (some b) w))
  have CS := kept (callsIn_wide.1 (LaidI.sortedI b _ D _ w hown (Nat.le_trans hsz (Nat.le_of_lt (few_max hlen))) (by omega)))
  have a1 := hx.box.cell (j := 1) rfl
  have HB0 : Kept (Below w.heap.size w (w.alloc (.cells #[.map (some b)] 40))) := ⟨(Below.refl _ _).alloc (Nat.le_refl _) _⟩
  have HIN : Kept (∀ x, x ∈ strKeys D ↔ ∃ i, (bOf x, i) ∈ pairsK ys ys.length) := ⟨fun x => by
    have h2 : kS (bOf x) = .string x := by unfold kS; rw [data_bOf]
    have h0 : x ∈ strKeys D ↔ Maps.has D (.string x) = true := ⟨key_has hown, has_key hown⟩
    rw [h0, ← h2, ht.has_]
    cases h3 : idx (pairsK ys ys.length) (bOf x) with
    | nil => exact ⟨(fun h1 => by cases h1), (fun ⟨i, hi⟩ => by rw [← mem_idx, h3] at hi; cases hi)⟩
    | cons z l =>
      have h4 : z ∈ idx (pairsK ys ys.length) (bOf x) := by rw [h3]; exact List.mem_cons_self
      obtain ⟨i, rfl, -⟩ := idx_lt h4
      exact ⟨fun _ => ⟨i, mem_idx.1 h4⟩, fun _ => rfl⟩⟩
  have HND := kept (keys_nodup hown)
  clear hx ht hown hsz hlen
  go_enter Tryz.func16, Tryz.ntmps16
  go_wp2_with fail
  refine CK.out.mono ?_
  rintro e w1 ⟨rfl, rfl⟩
  go_wp2_with fail
  refine CS.out.mono ?_
  rintro e w2 ⟨v, ss, rfl, hss, hrow, -, hb⟩
  have HB2 := kept (HB0.out.trans (hb.mono HB0.out.size))
  rw [enc_bOf] at hrow
  obtain ⟨ws, hws⟩ : ∃ ws, (ss.mergeSort fun x y => decide (x ≤ y)).map bOf = ws := ⟨_, rfl⟩
  have hwl : ss.length = ws.length := by rw [← hws, List.length_map, List.length_mergeSort]
  have HM : Kept (IncF ws ∧ ∀ s, s ∈ ws ↔ ∃ i, (s, i) ∈ pairsK ys ys.length) := ⟨by rw [← hws]; exact inc_sorted (hss.nodup_iff.2 HND.out), fun s => by
    rw [← hws, List.mem_map]
    constructor
    · rintro ⟨x, hx, rfl⟩
      exact (HIN.out x).1 (hss.mem_iff.1 ((List.mergeSort_perm _ _).mem_iff.1 hx))
    · intro h
      have e : bOf s.data.toList = s := by obtain ⟨⟨x⟩⟩ := s; rfl
      refine ⟨s.data.toList, (List.mergeSort_perm _ _).mem_iff.2 (hss.mem_iff.2 ((HIN.out _).2 ?_)), e⟩
      rw [e]
      exact h⟩
  rw [hws, hwl] at hrow
  have HO : Kept (OwnK 1 w2 w.heap.size 9 v ws.length (SB ws)) := ⟨OwnK.mono hrow (by have := HB0.out.size; exact this)⟩
  obtain ⟨A2, c2, rfl, -, -, -⟩ := OwnK.form HO.out
  have HO2 : Kept (strE.Own w2 w.heap.size 9 (.slice A2 ws.length c2) ws) := ⟨by
    unfold Elem.Own
    rw [strE_cells]
    exact HO.out⟩
  clear hws hwl hrow hss hb HIN HND CK CS a1 HO HB0
  go_wp2_with fail
  go_ret
  exact ⟨A2, c2, ws, rfl, HO2.out, HB2.out, HM.out⟩
theorem fwds_any (g : Nat) (A : Option Addr) (c : Nat) (ys : List CardM) (B b : Nat) (w : World) (hx : IxAt w g A c ys B b) (hlen : (pairsK ys ys.length).length ≤ 8000000000000) :
    Calls Tryz.prog 16 #[.pointer (some ⟨g, 0, none⟩)] w fun e w' => ∃ (A2 : Option Addr) (c2 : Nat) (ws : List ByteArray), e = .returned (.slice A2 ws.length c2) ∧ strE.Own w' w.heap.size 9 (.slice A2 ws.length c2) ws ∧ Below w.heap.size w w' ∧ ∀ s ∈ ws, ∃ i, (s, i) ∈ pairsK ys ys.length :=
  (fwds2_any g A c ys B b w hx hlen).mono fun _ _ ⟨A2, c2, ws, h1, h2, h3, _, h5⟩ => ⟨A2, c2, ws, h1, h2, h3, fun s hs => (h5 s).1 hs⟩
end Go.Proofs.YtfkfpanhbanljaaGreatDoor.Find

/- The document's Same of two cards, by a name of its own. -/
namespace Go.Proofs.YtfkfpanhbanljaaGreatDoor.Card
open Go.RowKit Go.Proofs.YtfkfpanhbanljaaGreatDoor.Mem

theorem cref_same (x y : CardM) (w : World) (hx : x.Ok w w.heap.size) (hy : y.Ok w w.heap.size) :
    Calls Tryz.prog 35 #[x.val, y.val] w fun e w' => e = .returned (.bool (decide (x.p = y.p))) ∧ Below w.heap.size w w' := rsame_any x y w hx hy
end Go.Proofs.YtfkfpanhbanljaaGreatDoor.Card
