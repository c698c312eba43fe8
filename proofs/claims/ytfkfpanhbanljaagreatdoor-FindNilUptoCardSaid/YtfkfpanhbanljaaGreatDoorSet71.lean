import Derived.Test.YtfkfpanhbanljaaGreatDoorSet70
import Derived.KernelRfl
import Derived.BigQuiet
import Derived.Deep.DeepCutAuto
import Derived.Test.YtfkfpanhbanljaaGreatDoorListPlain
import Derived.Test.YtfkfpanhbanljaaGreatDoorSet5
import Derived.Sort.Walk0
import Derived.Test.YtfkfpanhbanljaaGreatDoorSet7
/- Layer 45 (find): the chapter's example. -/
namespace Go.Proofs.YtfkfpanhbanljaaGreatDoor.Find
open Go.RowKit Go.Proofs.YtfkfpanhbanljaaGreatDoor.Mem Go.Proofs.YtfkfpanhbanljaaGreatDoor.Card Go.Proofs.YtfkfpanhbanljaaGreatDoor.Laid Go.Proofs.YtfkfpanhbanljaaGreatDoor.Fold Go.Proofs.YtfkfpanhbanljaaGreatDoor.Twin Go.Proofs.YtfkfpanhbanljaaGreatDoor.List44 Go.Proofs.YtfkfpanhbanljaaGreatDoor.Stab

def exS1 : ByteArray := ⟨#[65, 110, 110, 32, 76, 101, 101]⟩
def exS2 : ByteArray := ⟨#[53, 32, 72, 105, 103, 104, 32, 83, 116, 114, 101, 101, 116]⟩
/-- the example's card -/
def exC (g : Nat) : CardM := ⟨5, some ⟨g, 0, none⟩, [⟨1, exS1, none, [], 0⟩, ⟨5, exS2, none, [], 0⟩], 2⟩
theorem ex_found (g : Nat) : (foundL [exC g] (wordsB ⟨#[115, 116, 114, 32, 97, 110]⟩)).length = 1 := by kernel_rfl
theorem ex_not (g : Nat) : fitsL (exC g).ls (wordsB ⟨#[101, 101, 116]⟩) = false := by kernel_rfl
theorem ex_tame (g : Nat) : Tame (exC g).ls := ⟨by show (2 : Nat) ≤ 12; decide, fun z hz => by
  simp only [exC, List.mem_cons, List.not_mem_nil, or_false] at hz
  rcases hz with rfl | rfl
  · exact ⟨by show (7 : Nat) ≤ 2000000; decide, by show (0 : Nat) ≤ 10; decide, fun q hq => by cases hq⟩
  · exact ⟨by show (13 : Nat) ≤ 2000000; decide, by show (0 : Nat) ≤ 10; decide, fun q hq => by cases hq⟩⟩
theorem ex_ok {W : World} {g : Nat} (hk : Blk W g [.int .u8 1, .string exS1, .slice none 0 0, .int .u8 5, .string exS2, .slice none 0 0] 44) : (exC g).Ok W W.heap.size :=
  ⟨by show (5 : Nat) < _; decide, ⟨hk.rd, fun z hz => by
    simp only [exC, List.mem_cons, List.not_mem_nil, or_false] at hz
    rcases hz with rfl | rfl
    · exact ⟨Mem.Rd.nil, by show (1 : Nat) < 256; decide, Nat.le_refl _, Nat.zero_le _⟩
    · exact ⟨Mem.Rd.nil, by show (5 : Nat) < 256; decide, Nat.le_refl _, Nat.zero_le _⟩⟩, by show (2 : Nat) ≤ 2; decide, by show (2 : Nat) ≤ _; decide⟩
theorem ex_short (g : Nat) : Short [exC g] := fun x hx => by
  obtain rfl := List.mem_singleton.1 hx
  exact Nat.le_trans (title_size (n := 13) fun z hz => by
    simp only [exC, List.mem_cons, List.not_mem_nil, or_false] at hz
    rcases hz with rfl | rfl
    · show (7 : Nat) ≤ 13; decide
    · show (13 : Nat) ≤ 13; decide) (by decide)
theorem wordsC_p {a b : List LineM} (h : a.map LineM.p = b.map LineM.p) : wordsC a = wordsC b := by
  have e : ∀ l : List LineM, wordsC l = (l.map LineM.p).flatMap fun q => wordsB q.2.1 ++ q.2.2.flatMap wordsB := fun l => by
    unfold wordsC
    rw [List.flatMap_map]
    rfl
  rw [e a, e b, h]
theorem fits_p {x y : CardM} (h : x.p = y.p) (hs : List ByteArray) : fitsL x.ls hs = fitsL y.ls hs := by
  unfold fitsL
  rw [wordsC_p (congrArg Prod.snd h)]
theorem found_p (hs : List ByteArray) : ∀ {a b : List CardM}, a.map CardM.p = b.map CardM.p → (foundL a hs).map CardM.p = (foundL b hs).map CardM.p
  | [], [], _ => rfl
  | [], _ :: _, h => by cases h
  | _ :: _, [], h => by cases h
  | x :: a, y :: b, h => by
    simp only [List.map_cons, List.cons.injEq] at h
    have ih := found_p hs h.2
    have e := fits_p h.1 hs
    unfold foundL at ih ⊢
    rw [List.filter_cons, List.filter_cons, e]
    split
    · rw [List.map_cons, List.map_cons, ih, h.1]
    · exact ih
set_option maxRecDepth 100000 in
set_option maxHeartbeats 8000000 in
theorem fworks_any (w : World) (hm : ML w) : Calls Tryz.prog 8 #[] w fun e w' => e = .returned (.bool true) ∧ Below w.heap.size w w' := by
  have HM := kept hm
  clear hm
  obtain ⟨wa, hwa⟩ : ∃ wa, w.alloc (.cells #[.int .u8 1, .string exS1, .slice none 0 0, .int .u8 5, .string exS2, .slice none 0 0] 44) = wa := ⟨_, rfl⟩
  have sa : wa.heap.size = w.heap.size + 1 := by rw [← hwa]; exact Array.size_push ..
  have ka : Blk wa w.heap.size [.int .u8 1, .string exS1, .slice none 0 0, .int .u8 5, .string exS2, .slice none 0 0] 44 := by rw [← hwa]; exact Blk.new w _ _
  have ba : Below w.heap.size w wa := by rw [← hwa]; exact (Below.refl _ _).alloc (Nat.le_refl _) _
  obtain ⟨wb, hwb⟩ : ∃ wb, wa.alloc (.cells #[.int .u64 5, .slice (some ⟨w.heap.size, 0, none⟩) 2 2] 31) = wb := ⟨_, rfl⟩
  have sb : wb.heap.size = w.heap.size + 1 + 1 := by rw [← hwb, ← sa]; exact Array.size_push ..
  have bb : Below wa.heap.size wa wb := by rw [← hwb]; exact (Below.refl _ _).alloc (Nat.le_refl _) _
  have kb : Blk wb (w.heap.size + 1) [.int .u64 5, .slice (some ⟨w.heap.size, 0, none⟩) 2 2] 31 := by rw [← hwb, ← sa]; exact Blk.new wa _ _
  obtain ⟨wd, hwd⟩ : ∃ wd, wb.alloc (.cells #[.int .u64 5, .slice (some ⟨w.heap.size, 0, none⟩) 2 2] 31) = wd := ⟨_, rfl⟩
  have bd : Below wb.heap.size wb wd := by rw [← hwd]; exact (Below.refl _ _).alloc (Nat.le_refl _) _
  have kd : Blk wd (w.heap.size + 1 + 1) [.int .u64 5, .slice (some ⟨w.heap.size, 0, none⟩) 2 2] 31 := by rw [← hwd, ← sb]; exact Blk.new wb _ _
  have KA := kept ((ka.next bb).next bd)
  have KB := kept (kb.next bd)
  have BD : Kept (Below w.heap.size w wd) := ⟨ba.trans ((bb.mono ba.size).trans (bd.mono (by omega)))⟩
  have CN := kept (fnew_any (some ⟨w.heap.size + 1 + 1, 0, none⟩) [exC w.heap.size] 1 wd ⟨kd.rd, fun x hx => by rw [List.mem_singleton.1 hx]; exact ex_ok KA.out⟩ (by show (1 : Nat) ≤ 25; decide) (ex_short _) (fun x hx => by rw [List.mem_singleton.1 hx]; exact ex_tame _) (HM.out.next BD.out))
  have hww : (((w.alloc (.cells #[.int .u8 1, .string exS1, .slice none 0 0, .int .u8 5, .string exS2, .slice none 0 0] 44)).alloc (.cells #[.int .u64 5, .slice (some ⟨w.heap.size, 0, none⟩) 2 2] 31)).alloc (.cells #[.int .u64 5, .slice (some ⟨w.heap.size, 0, none⟩) 2 2] 31)) = wd := by rw [hwa, hwb, hwd]
  have HWW := kept hww
  clear hww hwa hwb hwd sa sb ka kb kd ba bb bd
  go_enter Tryz.func8, Tryz.ntmps8
  go_wp2_with fail
  have hww := HWW.out
  unfold exS1 exS2 at hww
  rw [hww]
  clear hww
  refine CN.out.mono ?_
  rintro e w2 ⟨gi, A, c2, ys, B, b, rfl, hp, hix, hbb, hb⟩
  have hyl : ys.length = 1 := by
    have := congrArg List.length hp
    rwa [List.length_map, List.length_map, stab_len] at this
  have B2 := kept (BD.out.trans (hb.mono BD.out.size))
  have KA2 := kept (KA.out.next hb)
  have KB2 := kept (KB.out.next hb)
  have hps : ys.map CardM.p = [exC w.heap.size].map CardM.p := hp.trans rfl
  have hfl := congrArg List.length (found_p (wordsB ⟨#[115, 116, 114, 32, 97, 110]⟩) hps)
  rw [List.length_map, List.length_map, ex_found] at hfl
  have HFL := kept hfl
  have CF := kept (ffind_any gi A c2 ys B b ⟨#[115, 116, 114, 32, 97, 110]⟩ w2 hix (by omega) (by show (6 : Nat) ≤ _; decide) (HM.out.next B2.out))
  clear hp hix hbb hb CN KA KB BD hps hfl HWW hyl
  go_wp2_with fail
  refine CF.out.mono ?_
  rintro e w3 ⟨A3, c3, zs, rfl, hz, -, hb3⟩
  have hzl : zs.length = 1 := by
    have := congrArg List.length hz
    rw [List.length_map, List.length_map] at this
    exact this.trans HFL.out
  have B3 := kept (B2.out.trans (hb3.mono B2.out.size))
  have KA3 := kept (KA2.out.next hb3)
  have KB3 := KB2.out.next hb3
  have p0 := KB3.cell (j := 0) rfl
  have p1 := KB3.cell (j := 1) rfl
  have CM := fmatch_any (exC w.heap.size) ⟨#[101, 101, 116]⟩ w3 (ex_ok KA3.out) (ex_tame _) (by show (3 : Nat) ≤ _; decide) (HM.out.next B3.out)
  rw [ex_not] at CM
  have CM : Kept (Calls Tryz.prog 10 #[.agg #[.int .u64 5, .slice (some ⟨w.heap.size, 0, none⟩) 2 2], .string ⟨#[101, 101, 116]⟩] w3 fun e w' => e = .returned (.bool false) ∧ Below w3.heap.size w3 w') := ⟨CM⟩
  clear hz hb3 KA2 KB2 KB3 CF B2 HFL
  rw [hzl]
  clear hzl
  go_wp2_with fail
  refine CM.out.mono ?_
  rintro e w4 ⟨rfl, hb4⟩
  have B4 := kept (B3.out.trans (hb4.mono B3.out.size))
  clear hb4 CM
  go_wp2_with fail
  go_ret
  exact ⟨rfl, B4.out⟩
end Go.Proofs.YtfkfpanhbanljaaGreatDoor.Find

/- Layer 45 (find): plain words for the laws. -/
namespace Go.Proofs.YtfkfpanhbanljaaGreatDoor.Find
open Go.RowKit Go.Proofs.YtfkfpanhbanljaaGreatDoor.Mem Go.Proofs.YtfkfpanhbanljaaGreatDoor.Card Go.Proofs.YtfkfpanhbanljaaGreatDoor.Laid Go.Proofs.YtfkfpanhbanljaaGreatDoor.Fold Go.Proofs.YtfkfpanhbanljaaGreatDoor.Twin Go.Proofs.YtfkfpanhbanljaaGreatDoor.List44 Go.Proofs.YtfkfpanhbanljaaGreatDoor.Stab
open Go.Lib hiding Kept

theorem splitS_mid : ∀ (a b : List UInt8), splitS (a ++ 32 :: b) = splitS a ++ splitS b
  | [], b => by rw [List.nil_append, splitS_blank]; rfl
  | c :: a, b => by
    have ih := splitS_mid a b
    obtain ⟨w, r, hwr⟩ := splitS_form a
    by_cases hc : c = 32
    · subst hc
      rw [List.cons_append, splitS_blank, splitS_blank, ih]; rfl
    · rw [hwr, List.cons_append] at ih
      rw [List.cons_append, splitS_other hc ih, splitS_other hc hwr]; rfl
theorem words_mid (a b : List UInt8) : words (a ++ 32 :: b) = words a ++ words b := by
  unfold words
  rw [List.map_append, List.map_cons, show letter 32 = 32 from by decide, splitS_mid, List.filter_append]
theorem data_app (a b : ByteArray) : (a ++ b).data.toList = a.data.toList ++ b.data.toList := by
  rw [ByteArray.data_append, Array.toList_append]
theorem wordsB_mid (p q : ByteArray) : wordsB (p ++ ⟨#[32]⟩ ++ q) = wordsB p ++ wordsB q := by
  unfold wordsB
  rw [data_app, data_app, List.append_assoc]
  show (words (p.data.toList ++ 32 :: q.data.toList)).map bOf = _
  rw [words_mid, List.map_append]
theorem wordsB_blank : wordsB ⟨#[32]⟩ = [] := by kernel_rfl
/-- a word is its own word -/
theorem wordsB_one {t s : ByteArray} (h : s ∈ wordsB t) : wordsB s = [s] := by
  obtain ⟨y, hy, rfl⟩ := List.mem_map.1 h
  have hg := words_good _ y hy
  have h1 : words (Lib.join [y] [32]) = [y] := words_join [y] fun w hw => by rw [List.mem_singleton.1 hw]; exact hg
  have h2 : Lib.join [y] [32] = y := by simp [Lib.join]
  rw [h2] at h1
  unfold wordsB
  rw [data_bOf, h1]
  rfl
theorem wordsC_one {ls : List LineM} {s : ByteArray} (h : s ∈ wordsC ls) : wordsB s = [s] := by
  obtain ⟨z, _, hz⟩ := List.mem_flatMap.1 h
  rcases List.mem_append.1 hz with h1 | h1
  · exact wordsB_one h1
  · obtain ⟨q, _, h2⟩ := List.mem_flatMap.1 h1
    exact wordsB_one h2
theorem hasP_self (s : ByteArray) : hasP s s = true := by
  unfold hasP Lib.hasPrefix
  exact List.isPrefixOf_iff_prefix.2 (List.prefix_refl _)
theorem pairs_mem {ys : List CardM} {s : ByteArray} {i : Nat} (h : (s, i) ∈ pairsK ys ys.length) : ∃ y ∈ ys, s ∈ wordsC y.ls := by
  obtain ⟨k, hk, h2⟩ := List.mem_flatMap.1 h
  obtain ⟨x, hx, e⟩ := List.mem_map.1 h2
  have hkl : k < ys.length := List.mem_range.1 hk
  have e1 : x = s := congrArg Prod.fst e
  have e2 : ys.getD k ⟨0, none, [], 0⟩ = ys[k] := by simp [List.getD, hkl]
  rw [e2] at hx
  exact ⟨ys[k], List.getElem_mem hkl, e1 ▸ hx⟩
theorem found_word {ys : List CardM} {y : CardM} {s : ByteArray} (hy : y ∈ ys) (hs : s ∈ wordsC y.ls) : 0 < (foundL ys (wordsB s)).length := by
  rw [wordsC_one hs]
  refine List.length_pos_of_mem (a := y) (List.mem_filter.2 ⟨hy, ?_⟩)
  unfold fitsL
  rw [List.all_cons, List.all_nil, Bool.and_true, List.any_eq_true]
  exact ⟨s, hs, hasP_self s⟩
theorem found_none (ys : List CardM) : foundL ys [] = ys := List.filter_eq_self.2 fun _ _ => rfl
theorem fits_app (ls : List LineM) (a b : List ByteArray) : fitsL ls (a ++ b) = (fitsL ls a && fitsL ls b) := by
  unfold fitsL
  rw [List.all_append]
theorem found_app (ys : List CardM) (a b : List ByteArray) : foundL ys (a ++ b) = foundL (foundL ys a) b := by
  unfold foundL
  rw [List.filter_filter]
  refine List.filter_congr fun y _ => ?_
  rw [fits_app, Bool.and_comm]
theorem found_swap (ys : List CardM) (a b : List ByteArray) : foundL ys (a ++ b) = foundL (foundL ys b) a := by
  rw [← found_app]
  unfold foundL
  refine List.filter_congr fun y _ => ?_
  rw [fits_app, fits_app, Bool.and_comm]
theorem found_le (ys : List CardM) (a : List ByteArray) : (foundL ys a).length ≤ ys.length := List.length_filter_le _ _
/-- the next one that is found twice -/
theorem found_at {xs bs : List CardM} {hs : List ByteArray} {k : Nat} {x : CardM} (hb : bs.map CardM.p = (foundL xs hs).map CardM.p) (hx : xs[k]? = some x) (hf : fitsL x.ls hs = true) :
    ∃ y, bs[(foundL (xs.take k) hs).length]? = some y ∧ y.p = x.p := by
  have h1 : foundL xs hs = foundL (xs.take k) hs ++ (x :: foundL (xs.drop (k + 1)) hs) := by
    obtain ⟨h2, h3⟩ := List.getElem?_eq_some_iff.1 hx
    have e : xs = xs.take k ++ x :: xs.drop (k + 1) := by rw [← h3, List.getElem_cons_drop, List.take_append_drop]
    unfold foundL
    conv => lhs; rw [e]
    rw [List.filter_append, List.filter_cons, if_pos hf]
  have h4 : (bs.map CardM.p)[(foundL (xs.take k) hs).length]? = some x.p := by
    rw [hb, h1, List.map_append, List.getElem?_append_right (by rw [List.length_map]; exact Nat.le_refl _), List.length_map, Nat.sub_self]
    rfl
  rw [List.getElem?_map] at h4
  cases h5 : bs[(foundL (xs.take k) hs).length]? with
  | none => rw [h5] at h4; cases h4
  | some y => rw [h5] at h4; exact ⟨y, rfl, Option.some.inj h4⟩
end Go.Proofs.YtfkfpanhbanljaaGreatDoor.Find

/- Layer 45 (find): texts in order, each once (plain). -/
namespace Go.Proofs.YtfkfpanhbanljaaGreatDoor.Find
open Go.Lib Go.Sort Go.Proofs.YtfkfpanhbanljaaGreatDoor.Card

def db (s : ByteArray) : List UInt8 := s.data.toList
theorem lt_totF {x y : List UInt8} (h : ¬ x < y) (h2 : ¬ y < x) : x = y := List.le_antisymm (List.not_lt.1 h2) (List.not_lt.1 h)
theorem db_inj {a b : ByteArray} (h : db a = db b) : a = b := by
  obtain ⟨⟨x⟩⟩ := a
  obtain ⟨⟨y⟩⟩ := b
  have : x = y := h
  rw [this]
/-- texts in order, each once -/
def IncF (l : List ByteArray) : Prop := l.Pairwise fun a b => db a < db b
theorem incF_ext : ∀ {a b : List ByteArray}, IncF a → IncF b → (∀ x, x ∈ a ↔ x ∈ b) → a = b
  | [], [], _, _, _ => rfl
  | [], y :: b, _, _, h => absurd ((h y).2 List.mem_cons_self) List.not_mem_nil
  | x :: a, [], _, _, h => absurd ((h x).1 List.mem_cons_self) List.not_mem_nil
  | x :: a, y :: b, ha, hb, h => by
    obtain ⟨h1, h2⟩ := List.pairwise_cons.1 ha
    obtain ⟨h3, h4⟩ := List.pairwise_cons.1 hb
    have e : x = y := by
      rcases List.mem_cons.1 ((h x).1 List.mem_cons_self) with e | e
      · exact e
      · rcases List.mem_cons.1 ((h y).2 List.mem_cons_self) with e2 | e2
        · exact e2.symm
        · exact absurd (List.lt_trans (h3 x e) (h1 y e2)) (List.lt_irrefl _)
    subst e
    rw [incF_ext h2 h4 fun z => ⟨fun hz => ?_, fun hz => ?_⟩]
    · rcases List.mem_cons.1 ((h z).1 (List.mem_cons_of_mem _ hz)) with e | e
      · subst e; exact absurd (h1 z hz) (List.lt_irrefl _)
      · exact e
    · rcases List.mem_cons.1 ((h z).2 (List.mem_cons_of_mem _ hz)) with e | e
      · subst e; exact absurd (h3 z hz) (List.lt_irrefl _)
      · exact e
/-- a text more, in its place -/
def putF (l : List ByteArray) (s : ByteArray) : List ByteArray := l.filter (fun x => Op.bytesLess x.toList s.toList) ++ s :: l.filter (fun x => Op.bytesLess s.toList x.toList)
theorem less_db (a b : ByteArray) : Op.bytesLess a.toList b.toList = decide (db a < db b) := by rw [bytesLess_eq, ByteArray.toList_eq, ByteArray.toList_eq]; rfl
theorem putF_inc {l : List ByteArray} (h : IncF l) (s : ByteArray) : IncF (putF l s) := by
  unfold putF IncF
  refine List.pairwise_append.2 ⟨List.Pairwise.sublist List.filter_sublist h, List.pairwise_cons.2 ⟨fun x hx => ?_, List.Pairwise.sublist List.filter_sublist h⟩, fun a ha b hb => ?_⟩
  · have := (List.mem_filter.1 hx).2
    rw [less_db] at this
    exact of_decide_eq_true this
  · have h1 := (List.mem_filter.1 ha).2
    rw [less_db] at h1
    have h1 := of_decide_eq_true h1
    rcases List.mem_cons.1 hb with rfl | hb
    · exact h1
    · have h2 := (List.mem_filter.1 hb).2
      rw [less_db] at h2
      exact List.lt_trans h1 (of_decide_eq_true h2)
theorem putF_mem {l : List ByteArray} {s x : ByteArray} : x ∈ putF l s ↔ x ∈ l ∨ x = s := by
  unfold putF
  simp only [List.mem_append, List.mem_cons, List.mem_filter, less_db, decide_eq_true_eq]
  constructor
  · rintro (h | h | h)
    · exact .inl h.1
    · exact .inr h
    · exact .inl h.1
  · rintro (h | h)
    · by_cases h1 : db x < db s
      · exact .inl ⟨h, h1⟩
      · by_cases h2 : db s < db x
        · exact .inr (.inr ⟨h, h2⟩)
        · exact .inr (.inl (db_inj (lt_totF h1 h2)))
    · exact .inr (.inl h)
def putsF (l : List ByteArray) : List ByteArray := l.foldl putF []
theorem putsF_from (l : List ByteArray) : ∀ a : List ByteArray, IncF a → IncF (l.foldl putF a) ∧ ∀ x, x ∈ l.foldl putF a ↔ x ∈ a ∨ x ∈ l := by
  induction l with
  | nil => intro a h; exact ⟨h, fun x => by simp⟩
  | cons s l ih =>
    intro a h
    obtain ⟨h1, h2⟩ := ih (putF a s) (putF_inc h s)
    refine ⟨h1, fun x => ?_⟩
    rw [List.foldl_cons, h2 x, putF_mem, List.mem_cons]
    exact or_assoc
theorem putsF_inc (l : List ByteArray) : IncF (putsF l) := (putsF_from l [] List.Pairwise.nil).1
theorem putsF_mem {l : List ByteArray} {x : ByteArray} : x ∈ putsF l ↔ x ∈ l := by
  have := (putsF_from l [] List.Pairwise.nil).2 x
  rw [show (x ∈ putsF l) = (x ∈ l.foldl putF []) from rfl, this]
  simp
theorem putsF_snoc (l : List ByteArray) (x : ByteArray) : putsF (l ++ [x]) = putF (putsF l) x := by unfold putsF; rw [List.foldl_append]; rfl
theorem two_filters {α : Type} (p q : α → Bool) (h : ∀ x, p x = true → q x = false) : ∀ l : List α, (l.filter p).length + (l.filter q).length ≤ l.length
  | [] => Nat.le_refl _
  | x :: l => by
    have ih := two_filters p q h l
    rw [List.filter_cons, List.filter_cons]
    cases hp : p x with
    | true => rw [h x hp]; simp; omega
    | false => cases q x <;> simp <;> omega
theorem putF_length (l : List ByteArray) (s : ByteArray) : (putF l s).length ≤ l.length + 1 := by
  unfold putF
  rw [List.length_append, List.length_cons]
  have := two_filters (fun x => Op.bytesLess x.toList s.toList) (fun x : ByteArray => Op.bytesLess s.toList x.toList) (fun x h => by
    rw [less_db] at h ⊢
    exact decide_eq_false fun h2 => List.lt_irrefl _ (List.lt_trans (of_decide_eq_true h) h2)) l
  omega
theorem putsF_length (l : List ByteArray) : (putsF l).length ≤ l.length := by
  have : ∀ (l a : List ByteArray), (l.foldl putF a).length ≤ a.length + l.length := by
    intro l
    induction l with
    | nil => intro a; exact Nat.le_refl _
    | cons s l ih =>
      intro a
      rw [List.foldl_cons, List.length_cons]
      have h1 := ih (putF a s)
      have h2 := putF_length a s
      omega
  simpa [putsF] using this l []
theorem filterF_snoc {α : Type} (p : α → Bool) {l : List α} {j : Nat} {x : α} (h : l[j]? = some x) : (l.take (j + 1)).filter p = (l.take j).filter p ++ (if p x then [x] else []) := by
  have hlt := (List.getElem?_eq_some_iff.1 h).1
  have hx := (List.getElem?_eq_some_iff.1 h).2
  rw [List.take_succ_eq_append_getElem hlt, hx, List.filter_append]
  congr 1
  by_cases hp : p x = true
  · simp [hp]
  · simp [hp]
theorem gtF_yes {x s : ByteArray} (h : Op.bytesLess s.toList x.toList = true) : Op.bytesLess x.toList s.toList = false ∧ (x.toList == s.toList) = false := by
  rw [less_db, decide_eq_true_eq] at h
  refine ⟨?_, ?_⟩
  · rw [less_db]
    exact decide_eq_false fun h2 => List.lt_irrefl _ (List.lt_trans h h2)
  · rw [str_beq]
    exact decide_eq_false fun e => by rw [e] at h; exact List.lt_irrefl _ h
theorem gtF_no {x s : ByteArray} (h : Op.bytesLess s.toList x.toList = false) : Op.bytesLess x.toList s.toList = true ∨ (Op.bytesLess x.toList s.toList = false ∧ (x.toList == s.toList) = true) := by
  rw [less_db, decide_eq_false_iff_not] at h
  by_cases h2 : db x < db s
  · left; rw [less_db]; exact decide_eq_true h2
  · right
    rw [less_db, str_beq]
    exact ⟨decide_eq_false h2, decide_eq_true (db_inj (lt_totF h2 h))⟩
end Go.Proofs.YtfkfpanhbanljaaGreatDoor.Find

/- The document's Same of two cards, by a name of its own. -/
namespace Go.Proofs.YtfkfpanhbanljaaGreatDoor.Card
open Go.RowKit Go.Proofs.YtfkfpanhbanljaaGreatDoor.Mem

theorem cref_same (x y : CardM) (w : World) (hx : x.Ok w w.heap.size) (hy : y.Ok w w.heap.size) :
    Calls Tryz.prog 35 #[x.val, y.val] w fun e w' => e = .returned (.bool (decide (x.p = y.p))) ∧ Below w.heap.size w w' := rsame_any x y w hx hy
end Go.Proofs.YtfkfpanhbanljaaGreatDoor.Card
