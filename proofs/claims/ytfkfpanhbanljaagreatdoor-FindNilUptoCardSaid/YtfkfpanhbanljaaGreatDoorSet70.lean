import Derived.Test.YtfkfpanhbanljaaGreatDoorTwinTexts
import Derived.Test.YtfkfpanhbanljaaGreatDoorSet45
import Derived.Test.YtfkfpanhbanljaaGreatDoorFoldRef
import Derived.BigQuiet
import Derived.Deep.DeepCutAuto
import Derived.Maps.OwnRows
import Derived.Maps.Views
import Derived.Maps.RangeWalk
import Derived.Test.YtfkfpanhbanljaaGreatDoorListSort
import Derived.Maps.GroupsBeside
import Derived.Deep.RegionLaw
import Derived.Test.YtfkfpanhbanljaaGreatDoorTwinSt
/- Layer 45 (find): all words of a card (the program's). -/
namespace Go.Proofs.YtfkfpanhbanljaaGreatDoor.Find
open Go.RowKit Go.Proofs.YtfkfpanhbanljaaGreatDoor.Mem Go.Proofs.YtfkfpanhbanljaaGreatDoor.Card Go.Proofs.YtfkfpanhbanljaaGreatDoor.Laid Go.Proofs.YtfkfpanhbanljaaGreatDoor.Fold Go.Proofs.YtfkfpanhbanljaaGreatDoor.Twin

/-- all words of a line, of a card's lines -/
def wordsZ (z : LineM) : List ByteArray := wordsB z.t ++ z.m.flatMap wordsB
def wordsC (ls : List LineM) : List ByteArray := ls.flatMap wordsZ
/-- few lines, with texts that are not too long -/
def Tame (ls : List LineM) : Prop := ls.length ≤ 12 ∧ ∀ z ∈ ls, z.t.size ≤ 2000000 ∧ z.m.length ≤ 10 ∧ ∀ q ∈ z.m, q.size ≤ 2000000
theorem wordsC_next {ls : List LineM} {k : Nat} {z : LineM} (hz : ls[k]? = some z) : wordsC (ls.take (k + 1)) = wordsC (ls.take k) ++ wordsZ z := by
  obtain ⟨h1, h2⟩ := List.getElem?_eq_some_iff.1 hz
  unfold wordsC
  rw [List.take_succ_eq_append_getElem h1, h2, List.flatMap_append]
  simp
theorem wordsM_next {m : List ByteArray} {j : Nat} {q : ByteArray} (hq : m[j]? = some q) : (m.take (j + 1)).flatMap wordsB = (m.take j).flatMap wordsB ++ wordsB q := by
  obtain ⟨h1, h2⟩ := List.getElem?_eq_some_iff.1 hq
  rw [List.take_succ_eq_append_getElem h1, h2, List.flatMap_append]
  simp
theorem flat_le {α β : Type} (f : α → List β) (M : Nat) : ∀ l : List α, (∀ x ∈ l, (f x).length ≤ M) → (l.flatMap f).length ≤ l.length * M
  | [], _ => by simp
  | x :: l, h => by
    have h1 := flat_le f M l fun y hy => h y (List.mem_cons_of_mem _ hy)
    have h2 := h x List.mem_cons_self
    rw [List.flatMap_cons, List.length_append, List.length_cons, Nat.succ_mul]
    omega
theorem words_few {q : ByteArray} (h : q.size ≤ 2000000) : (wordsB q).length ≤ 2000001 := Nat.le_trans (wordsB_le q) (Nat.succ_le_succ h)
theorem more_few {m : List ByteArray} (h1 : m.length ≤ 10) (h2 : ∀ q ∈ m, q.size ≤ 2000000) : (m.flatMap wordsB).length ≤ 20000010 :=
  Nat.le_trans (flat_le wordsB 2000001 m fun q hq => words_few (h2 q hq)) (Nat.le_trans (Nat.mul_le_mul_right _ h1) (by decide))
theorem wordsC_few {ls : List LineM} (h : Tame ls) (k : Nat) : (wordsC (ls.take k)).length ≤ 264000132 := by
  have h1 : (wordsC (ls.take k)).length ≤ (ls.take k).length * 22000011 := flat_le wordsZ 22000011 _ fun z hz => by
    have h3 := h.2 z (List.mem_of_mem_take hz)
    unfold wordsZ
    rw [List.length_append]
    exact Nat.le_trans (Nat.add_le_add (words_few h3.1) (more_few h3.2.1 h3.2.2)) (by decide)
  have h2 : (ls.take k).length ≤ 12 := Nat.le_trans (List.length_take_le' _ _) h.1
  exact Nat.le_trans h1 (Nat.le_trans (Nat.mul_le_mul_right _ h2) (by decide))
theorem size_few {n : Nat} (h : n ≤ 300000000) : n * 16 ≤ 140737488355328 := Nat.le_trans (Nat.mul_le_mul_right _ h) (by decide)
theorem sum3_few {a b c : Nat} (h1 : a ≤ 264000132) (h2 : b ≤ 2000001) (h3 : c ≤ 20000010) : a + b + c ≤ 300000000 := Nat.le_trans (Nat.add_le_add (Nat.add_le_add h1 h2) h3) (by decide)
set_option maxRecDepth 100000 in
set_option maxHeartbeats 4000000 in
theorem fwords_any (x : CardM) (w : World) (hx : x.Ok w w.heap.size) (ht : Tame x.ls) (hml : ML w) :
    Calls Tryz.prog 27 #[x.val] w (strE.Gives 9 w (wordsC x.ls)) := by
  obtain ⟨xcid, xX, xls, xc⟩ := x
  have HX := kept hx
  have HT := kept ht
  have HML := kept hml
  dsimp only at ht
  have hl := ht.1
  have h0 : Below w.heap.size w (w.alloc (.cells #[.int .u64 (xcid : Int), .slice xX xls.length xc] 31)) := (Below.refl _ _).alloc (Nat.le_refl _) _
  have HS0 : Kept (TxSt w (w.alloc (.cells #[.int .u64 (xcid : Int), .slice xX xls.length xc] 31)) ⟨xcid, xX, xls, xc⟩ none 0 []) := ⟨⟨h0, Blk.new w _ _, Elem.Own.nilv _ _ _ _⟩⟩
  clear h0 hx ht hml
  unfold CardM.val
  dsimp only
  go_enter Tryz.func27, Tryz.ntmps27
  go_wp2_with fail
  go_loopw [3, 11] (fun s i wr => ∃ (k : Nat) (A : Option Addr) (c : Nat) (out : List ByteArray), k ≤ xls.length ∧ i = .int .i64 (k : Int) ∧ s = .slice A out.length c ∧ Kept (out = wordsC (xls.take k)) ∧ Kept (TxSt w wr ⟨xcid, xX, xls, xc⟩ A c out)) (fun _ i _ => xls.length - (intOf i).toNat)
  case atStart => exact ⟨0, none, 0, [], Nat.zero_le _, rfl, rfl, ⟨rfl⟩, HS0⟩
  case round =>
    clear HS0
    obtain ⟨k, A, c, out, hk, rfl, rfl, HO, HS⟩ := hrel
    by_cases hlt : k < xls.length
    · obtain ⟨⟨zf, zt, zA, zm, zc⟩, hz⟩ : ∃ z, xls[k]? = some z := ⟨_, List.getElem?_eq_getElem hlt⟩
      obtain ⟨b1, o1, rfl, hbB, x0, x1, x2, hzo⟩ := HX.out.2.1.at_ hz
      have hkn : (k : Int) < (xls.length : Int) := by omega
      have HTZ := kept (HT.out.2 _ (List.mem_of_getElem? hz))
      have HNX := kept (wordsC_next hz)
      have x0 := (HS.out.1.cell (p := ⟨b1, o1 + k * 3, none⟩) hbB).trans x0
      have x1 := (HS.out.1.cell (p := ⟨b1, o1 + k * 3 + 1, none⟩) hbB).trans x1
      have x2 := (HS.out.1.cell (p := ⟨b1, o1 + k * 3 + 2, none⟩) hbB).trans x2
      dsimp only at x0 x1 x2
      have hbA : Below wr.heap.size wr (wr.alloc (.cells #[.int .u8 (zf : Int), .string zt, .slice zA zm.length zc] 44)) := (Below.refl _ _).alloc (Nat.le_refl _) _
      have HS1 := kept (HS.out.next hbA)
      have HZR := kept (fun (W : World) (hb : Below w.heap.size w W) => strE_rd.2 ((hzo.1.keep fun _ hp => hb.cell hp).more hb.size))
      have HKB := kept (Blk.new wr [.int .u8 (zf : Int), .string zt, .slice zA zm.length zc] 44)
      clear hz hbA HS hzo
      go_upto_region 5 with fail
      clear x0 x1 x2
      generalize wr.alloc (.cells #[.int .u8 (zf : Int), .string zt, .slice zA zm.length zc] 44) = w1 at *
      generalize wr.heap.size = gx at *
      have p1 := HKB.out.cell (j := 1) rfl
      have CW := kept (words_any zt w1 (by have := HTZ.out.1; dsimp only at this; omega) (HML.out.next HS1.out.1))
      have HWL := kept (words_few HTZ.out.1)
      have hzm : zm.length ≤ 10 := HTZ.out.2.1
      go_wp2_with fail
      refine CW.out.mono ?_
      rintro e w2 ⟨Aw, cw, rfl, hownw, hcw, hb⟩
      have HS2 := kept (HS1.out.next hb)
      have HKB2 := kept (HKB.out.next hb)
      have hrd := hownw.rd
      have hz1 : (out.length + (wordsB zt).length) * 16 ≤ 140737488355328 := size_few (sum3_few (c := 0) (by rw [HO.out]; exact wordsC_few HT.out k) HWL.out (Nat.zero_le _))
      have hbase : w.heap.size + 1 ≤ w2.heap.size := HS2.out.2.1.lt
      clear hb HS1 HKB p1 CW hownw
      go_wp2_with (at_builtin; refine wpl_appEU _ strE rfl (.tmp 15) (.tmp 18) 36 rfl (w.heap.size + 1) 9 Tryz.underlying36 str_info rfl _ out rfl HS2.out.2.2 _ Aw _ cw (wordsB zt) rfl rfl hrd hz1 (by decide) hbase ?_; intro A9 c9 w9 r9 hr9 hown9 hu9 hx9; have HS9 := kept (HS2.out.app hown9 hu9); have HK9 := kept (HS2.out.box HKB2.out hu9); have p2 := HK9.out.cell (j := 2) rfl; have HR9 := kept hr9; clear hr9 hown9 hu9 hx9)
      have HO9 : Kept (r9 = wordsC (xls.take k) ++ wordsB zt ++ (zm.take 0).flatMap wordsB) := ⟨by rw [HR9.out.out, ← HO.out]; exact (List.append_nil _).symm⟩
      clear HR9 hz1 hrd HS2 HKB2 p2 HO
      go_loopw [3, 23] (fun s i wi => ∃ (j : Nat) (A : Option Addr) (c : Nat) (out : List ByteArray), j ≤ zm.length ∧ i = .int .i64 (j : Int) ∧ s = .slice A out.length c ∧ Kept (out = wordsC (xls.take k) ++ wordsB zt ++ (zm.take j).flatMap wordsB) ∧ Kept (TxSt w wi ⟨xcid, some ⟨b1, o1, none⟩, xls, xc⟩ A c out)) (fun _ i _ => zm.length - (intOf i).toNat)
      case atStart => exact ⟨0, A9, c9, r9, Nat.zero_le _, rfl, rfl, HO9, HS9⟩
      case round =>
        clear HS9 HO9 HK9
        obtain ⟨j, A, c, out, hj, rfl, rfl, HO, HS⟩ := hrel
        by_cases hjl : j < zm.length
        · obtain ⟨q, hq⟩ : ∃ q, zm[j]? = some q := ⟨_, List.getElem?_eq_getElem hjl⟩
          have hjn : (j : Int) < (zm.length : Int) := by omega
          have hrz := strE_rd.1 (HZR.out _ HS.out.1)
          obtain ⟨b2, o2, rfl, hb2, hc2⟩ := hrz (by intro e; rw [List.map_eq_nil_iff.1 e] at hjl; exact absurd hjl (Nat.not_lt_zero _))
          have y0 := hc2 j (.string q) (by unfold SB; rw [List.getElem?_map, hq]; rfl)
          have hqs : q.size ≤ 2000000 := HTZ.out.2.2 q (List.mem_of_getElem? hq)
          have HQN := kept (wordsM_next hq)
          have CW := kept (words_any q wr (by omega) (HML.out.next HS.out.1))
          have HWL2 := kept (words_few hqs)
          clear hrz hc2 hq
          go_wp2_with fail
          refine CW.out.mono ?_
          rintro e w2 ⟨Aw, cw, rfl, hownw, hcw, hb⟩
          have HS2 := kept (HS.out.next hb)
          have hrd := hownw.rd
          have hz1 : (out.length + (wordsB q).length) * 16 ≤ 140737488355328 := size_few (by
            rw [← List.length_append, HO.out, List.append_assoc, ← HQN.out, List.length_append, List.length_append]
            exact sum3_few (wordsC_few HT.out k) HWL.out (more_few (Nat.le_trans (List.length_take_le' _ _) hzm) fun y hy => HTZ.out.2.2 y (List.mem_of_mem_take hy)))
          have hbase : w.heap.size + 1 ≤ w2.heap.size := HS2.out.2.1.lt
          clear hb y0 CW hownw HS
          go_wp2_with (at_builtin; refine wpl_appEU _ strE rfl (.tmp 27) (.tmp 29) 36 rfl (w.heap.size + 1) 9 Tryz.underlying36 str_info rfl _ out rfl HS2.out.2.2 _ Aw _ cw (wordsB q) rfl rfl hrd hz1 (by decide) hbase ?_; intro A9 c9 w9 r9 hr9 hown9 hu9 hx9; have HS9 := kept (HS2.out.app hown9 hu9); have HR9 := kept hr9; clear hr9 hown9 hu9 hx9)
          have HO9 : Kept (r9 = wordsC (xls.take k) ++ wordsB zt ++ (zm.take (j + 1)).flatMap wordsB) := ⟨by rw [HR9.out.out, HQN.out, HO.out]; exact List.append_assoc _ _ _⟩
          clear HR9 hz1 hrd HS2 HO HQN
          go_roundw
          case rel => exact ⟨j + 1, A9, c9, r9, by omega, by go_num, rfl, HO9, HS9⟩
          case measure => simp [intOf]; omega
        · obtain rfl : j = zm.length := by omega
          have HO4 : Kept (out = wordsC (xls.take (k + 1))) := ⟨by rw [HO.out, HNX.out, List.take_length]; exact List.append_assoc _ _ _⟩
          clear HO HNX
          go_wp2_with fail
          go_roundw
          case rel => exact ⟨k + 1, A, c, out, by omega, by go_num, rfl, HO4, HS⟩
          case measure => simp [intOf]; omega
    · obtain rfl : k = xls.length := by omega
      rw [List.take_length] at HO
      have HG : Kept (∀ q, q = out → strE.Gives 9 w (wordsC xls) (.returned (.slice A q.length c)) wr) := ⟨fun q hq => by
        subst hq
        exact Elem.gives HO.out (HS.out.2.2.mono (by omega)) HS.out.1⟩
      go_wp2_with fail
      go_ret
      exact HG.out out rfl
end Go.Proofs.YtfkfpanhbanljaaGreatDoor.Find

/- Layer 45 (find): a map of words to rows of numbers that the call makes; the steps of a region that appends to one of its rows. -/
namespace Go.Proofs.YtfkfpanhbanljaaGreatDoor.Find
open Go.RowKit Go.Proofs.YtfkfpanhbanljaaGreatDoor.Mem Go.Proofs.YtfkfpanhbanljaaGreatDoor.Card

def kS (s : ByteArray) : Lit := .string s.data.toList
theorem kS_inj {s t : ByteArray} (h : kS s = kS t) : s = t := by
  have h1 : s.data.toList = t.data.toList := Lit.string.inj h
  have h2 : s.data = t.data := Array.toList_inj.1 h1
  cases s; cases t
  exact congrArg ByteArray.mk h2
theorem kS_key (s : ByteArray) : WideAt.IsKeyLit (kS s) := trivial
/-- the numbers that stand at a word -/
def idx (G : List (ByteArray × Nat)) (s : ByteArray) : List Int := (G.filter fun p => decide (p.1 = s)).map fun p => (p.2 : Int)
theorem idx_same (G : List (ByteArray × Nat)) (s : ByteArray) (i : Nat) : idx (G ++ [(s, i)]) s = idx G s ++ [(i : Int)] := by
  unfold idx
  simp
theorem idx_other (G : List (ByteArray × Nat)) {s t : ByteArray} (i : Nat) (h : s ≠ t) : idx (G ++ [(s, i)]) t = idx G t := by
  unfold idx
  simp [h]
theorem idx_le (G : List (ByteArray × Nat)) (s : ByteArray) : (idx G s).length ≤ G.length := by
  unfold idx
  rw [List.length_map]
  exact List.length_filter_le _ _
def datI (zs : List Int) : DataW Unit := if zs = [] then .nil else .slice (Go.ChangeShapes.lits .i64 zs) []
/-- a datum tells these pairs -/
structure Tells (D : DataW Unit) (G : List (ByteArray × Nat)) : Prop where
  map : Go.Maps.IsMap D
  at_ : ∀ s, D.atKey (kS s) .nil = datI (idx G s)
  has_ : ∀ s, Go.Maps.has D (kS s) = !(idx G s).isEmpty
theorem Tells.none : Tells (.map []) [] := ⟨Go.Maps.isMap_empty, fun _ => rfl, fun _ => rfl⟩
theorem Tells.put {D : DataW Unit} {G : List (ByteArray × Nat)} (h : Tells D G) (s : ByteArray) (i : Nat) : Tells (D.put (kS s) (.slice (Go.ChangeShapes.lits .i64 (idx G s ++ [(i : Int)])) [])) (G ++ [(s, i)]) := by
  refine ⟨h.map.put _ _, fun t => ?_, fun t => ?_⟩
  · by_cases e : s = t
    · subst e
      rw [Go.Maps.atKey_put_same h.map (kS_key s), idx_same]
      unfold datI
      rw [if_neg (by simp)]
    · rw [Go.Maps.atKey_put_other (fun e2 => e (kS_inj e2).symm), idx_other G i e]
      exact h.at_ t
  · by_cases e : s = t
    · subst e
      rw [Go.Maps.has_put_same h.map (kS_key s), idx_same]
      simp
    · rw [Go.Maps.has_put_other (fun e2 => e (kS_inj e2).symm), idx_other G i e]
      exact h.has_ t
theorem lits_inj {a b : List Int} (h : Go.ChangeShapes.lits (H := Unit) .i64 a = Go.ChangeShapes.lits .i64 b) : a = b :=
  (List.map_inj_right (fun x y hxy => by cases hxy; rfl)).1 h
theorem lawS : Go.Maps.Keyed Tryz.prog 9 := Go.Maps.string_keyed Tryz.underlying9
theorem zeroG (w : World) : (zeroValue 53).run Tryz.prog w = .ok (.slice none 0 0) w := by kernel_rfl
theorem info_int : (Tryz.prog.info? 3).map (fun i => (i.zero, i.size, i.bytes)) = some (some (.int .i64 0), 1, 8) := by kernel_rfl
/-- block b is a map that tells these pairs; its rows lie from block B on -/
def MapG (w : World) (B b : Nat) (G : List (ByteArray × Nat)) : Prop := ∃ D : DataW Unit, w.ownsGroups Tryz.prog 9 B 3 .i64 b G.length D ∧ Tells D G
theorem MapG.made (w : World) (B : Nat) (hB : w.heap.size < B) : MapG (w.alloc (.map #[] 0)) B w.heap.size [] :=
  ⟨.map [], ⟨#[], 0, (Go.MapKept.heap_alloc w _).1, ⟨by simp, Go.MapKept.stamped_empty 0, by simp⟩, Nat.le_refl _, rfl, hB, by simp, by simp⟩, Tells.none⟩
theorem MapG.drew {w : World} {B b : Nat} {G : List (ByteArray × Nat)} (h : MapG w B b G) : MapG w.drew B b G := h
/-- behind a look-up: the row that stands at a word, and the way back -/
structure Way (w0 : World) (B b : Nat) (G : List (ByteArray × Nat)) (s : ByteArray) (D : DataW Unit) (v : Value) : Prop where
  tells : Tells D G
  owns : w0.ownsInts B 3 .i64 v (idx G s)
  back : w0.groupBack Tryz.prog 40 9 B 3 .i64 b G.length D (.string s) (kS s) v
theorem MapG.look {w : World} {B b : Nat} {G : List (ByteArray × Nat)} {s : ByteArray} (h : MapG w B b G) (hn : G.length < maxLen) (hs : s.size ≤ maxLen) :
    ∃ v D, (Instr.lookup 40 (.map (some b)) (.string s) false).run Tryz.prog w = .ok v w ∧ Way w B b G s D v := by
  obtain ⟨D, hown, ht⟩ := h
  obtain ⟨v, zs, hrun, hat, hoi, -, hback⟩ := hown.at lawS Tryz.underlying40 (zeroG w) hn (Go.WideMaps.keyOf_string_mk Tryz.underlying9 hs)
  have hz : zs = idx G s := by
    have h1 := (ht.at_ s).symm.trans hat
    unfold datI at h1
    rcases hoi.datum (H := Unit) with ⟨h2, h3⟩ | h2
    · rw [h2] at h1
      rw [h3]
      split at h1
      · rename_i h4; exact h4.symm
      · cases h1
    · rw [h2] at h1
      split at h1
      · cases h1
      · exact (lits_inj (DataW.slice.inj h1).1).symm
  subst hz
  exact ⟨v, D, hrun, ht, hoi, hback⟩
/-- behind the append: what the row holds now, and where it lies -/
structure Way2 (w0 w1 : World) (B b : Nat) (G : List (ByteArray × Nat)) (s : ByteArray) (i : Nat) (D : DataW Unit) (v v' : Value) : Prop where
  way : Way w0 B b G s D v
  grown : w0.grownBy w1 v.ownBlock
  owns : w1.ownsInts B 3 .i64 v' (idx G s ++ [(i : Int)])
  loc : v'.ownBlock = v.ownBlock ∨ ∃ g, v'.ownBlock = some g ∧ w0.heap.size ≤ g
/-- the ground of the map: its own block, and the blocks of its rows -/
def Gnd (B b : Nat) : Nat → Prop := fun k => k = b ∨ B ≤ k
theorem Way2.upd {w0 w1 : World} {B b : Nat} {G : List (ByteArray × Nat)} {s : ByteArray} {i : Nat} {D : DataW Unit} {v v' : Value} (h : Way2 w0 w1 B b G s i D v v') : Upd (Gnd B b) w0 w1 :=
  (Upd.refl _ _).grown h.grown fun k hk => .inl (.inr (h.way.owns.1.lt k hk).1)
theorem Way2.store {w0 w1 : World} {B b : Nat} {G : List (ByteArray × Nat)} {s : ByteArray} {i : Nat} {D : DataW Unit} {v v' : Value} (h : Way2 w0 w1 B b G s i D v v') :
    ∃ w2, (Instr.mapUpdate 40 (.map (some b)) (.string s) v').run Tryz.prog w1 = .ok () w2 ∧ MapG w2 B b (G ++ [(s, i)]) ∧ Upd (Gnd B b) w0 w2 := by
  obtain ⟨w2, hrun, r1, r2⟩ := h.way.back w1 v' (idx G s ++ [(i : Int)]) h.grown h.owns (by rw [List.length_append]; have := idx_le G s; simp; omega) h.loc
  refine ⟨w2, hrun, ⟨_, ?_, h.way.tells.put s i⟩, h.upd.grown r2 fun k hk => .inl (.inl (Option.some.inj hk).symm)⟩
  rw [h.owns.datum_pos (by simp)] at r1
  rw [List.length_append]
  exact r1
section
variable {ops : Array Oper} {o : Oper} {a : Act} {K : Act → World → Prop} {Q : Exit → Act → World → Prop} {F : Prop}
theorem step_look (w : World) (hgd : o.guard = none) (m x : Operand) (hop : o.op = Op.lookup 40 m x false) (B b : Nat) (G : List (ByteArray × Nat)) (s : ByteArray) (hm : a.eval m = .map (some b)) (hx : a.eval x = .string s)
    (h : MapG w B b G) (hn : G.length < maxLen) (hs : s.size ≤ maxLen) (hK : ∀ v D, Way w B b G s D v → K (a.put o.dst v) w) : if Region.wanted o (yielded ops a.tmps) = true then Oper.wp Tryz.prog o a w K Q else F := by
  have hw : Region.wanted o (yielded ops a.tmps) = true := by simp [Region.wanted, hgd]
  rw [if_pos hw]
  obtain ⟨v, D, hrun, hway⟩ := h.look hn hs
  unfold Oper.wp
  simp [execOp, hop, hm, hx, hrun, Result.andThen]
  exact hK v D hway
theorem step_store (w : World) (hgd : o.guard = none) (m x y : Operand) (hop : o.op = Op.mapUpdate 40 m x y) (w0 : World) (B b : Nat) (G : List (ByteArray × Nat)) (s : ByteArray) (i : Nat) (D : DataW Unit) (v v' : Value) (hm : a.eval m = .map (some b)) (hx : a.eval x = .string s) (hv : a.eval y = v')
    (h : Way2 w0 w B b G s i D v v') (hK : ∀ w2, MapG w2 B b (G ++ [(s, i)]) → Upd (Gnd B b) w0 w2 → K (a.put o.dst undef) w2) : if Region.wanted o (yielded ops a.tmps) = true then Oper.wp Tryz.prog o a w K Q else F := by
  have hw : Region.wanted o (yielded ops a.tmps) = true := by simp [Region.wanted, hgd]
  rw [if_pos hw]
  obtain ⟨w2, hrun, h1, h2⟩ := h.store
  unfold Oper.wp
  simp [execOp, hop, hm, hx, hv, hrun, Result.andThen]
  exact hK w2 h1 h2
theorem step_appI (w : World) (hgd : o.guard = none) (x y : Operand) (ho : o.op = .call { callee := .builtin .append, args := #[x, y], argTypes := #[53, 53] }) (w0 : World) (B b : Nat) (G : List (ByteArray × Nat)) (s : ByteArray) (i : Nat) (D : DataW Unit) (v : Value) (hx : a.eval x = v)
    (ad : Addr) (c : Nat) (hy : a.eval y = .slice (some ad) 1 c) (hc : w.cell? ad = some (.int .i64 (i : Int))) (h : Way w0 B b G s D v) (hg : w0.grownBy w none) (hi : (i : Int) < 9223372036854775808) (hlen : G.length ≤ 8000000000000) (hB : B ≤ w.heap.size)
    (hK : ∀ v' w', Way2 w0 w' B b G s i D v v' → K (a.put o.dst v') w') : if Region.wanted o (yielded ops a.tmps) = true then Oper.wp Tryz.prog o a w K Q else F := by
  have hw : Region.wanted o (yielded ops a.tmps) = true := by simp [Region.wanted, hgd]
  rw [if_pos hw]
  obtain ⟨i0, hi0, hz0, hz1, hz2⟩ := info_parts info_int
  have hoi : w.ownsInts B 3 .i64 v (idx G s) := h.owns.kept hg (by cases v.ownBlock <;> simp)
  have hle := idx_le G s
  obtain ⟨v', w', hr, h2, h3, -, h5⟩ := run_append_own_at (P := Tryz.prog) w B 53 o.type 3 i0 (.int .i64 0) 1 8 Tryz.underlying53 hi0 hz0 hz1 hz2 rfl (by decide) v _ _ hoi.1 ad 1 c [.int .i64 (i : Int)] rfl (by
      intro j u hj
      match j, hj with
      | 0, hj =>
        simp at hj
        subst hj
        simpa [Addr.add] using hc) (by simp [Value.oneCell']) (by unfold maxLen; omega) (by omega) hB
  unfold Oper.wp execOp
  simp only [ho, resolve, invoke, builtin, Sem.run_bind, Sem.run_pure, Result.andThen_ok, List.map_toArray, List.map_cons, List.map_nil, hx, hy, hr]
  refine hK v' w' ⟨h, (hg.but _).trans h3, hoi.appended h2 (WalkArith.wf_i64 (by omega)), ?_⟩
  rcases h5 with h5 | h5
  · exact .inl h5
  · exact .inr ⟨_, h5, hg.size⟩
end
end Go.Proofs.YtfkfpanhbanljaaGreatDoor.Find

/- Layer 45 (find): what New's loops keep. -/
namespace Go.Proofs.YtfkfpanhbanljaaGreatDoor.Find
open Go.RowKit Go.Proofs.YtfkfpanhbanljaaGreatDoor.Mem Go.Proofs.YtfkfpanhbanljaaGreatDoor.Card Go.Proofs.YtfkfpanhbanljaaGreatDoor.Laid Go.Proofs.YtfkfpanhbanljaaGreatDoor.Fold

/-- rows and boxes of other things than numbers stay as they are -/
structure Oth (w w' : World) : Prop where
  os : w'.os = w.os
  tape : w'.tape = w.tape
  output : w'.output = w.output
  size : w.heap.size ≤ w'.heap.size
  stay : ∀ (g : Nat) (cs : Array Value) (t : TypeId) (fr : Nat × Nat), w.heap[g]? = some (Obj.cells cs t fr) → t ≠ 3 → w'.heap[g]? = w.heap[g]?
theorem Oth.upd {w w' : World} (h : Oth w w') : Upd (fun k => w'.heap[k]? ≠ w.heap[k]?) w w' := ⟨h.os, h.tape, h.output, h.size, fun _ _ hk => Classical.not_not.1 hk⟩
theorem Oth.below {w w' : World} (h : Below w.heap.size w w') : Oth w w' := ⟨h.os, h.tape, h.output, h.size, fun g _ _ _ hg _ => h.block g (Array.getElem?_eq_some_iff.1 hg).1⟩
theorem Oth.trans {w w1 w2 : World} (h : Oth w w1) (k : Oth w1 w2) : Oth w w2 :=
  ⟨k.os.trans h.os, k.tape.trans h.tape, k.output.trans h.output, Nat.le_trans h.size k.size, fun g cs t fr hg ht => (k.stay g cs t fr ((h.stay g cs t fr hg ht).trans hg) ht).trans (h.stay g cs t fr hg ht)⟩
theorem Oth.blk {w w' : World} {g : Nat} {cs : List Value} {t : TypeId} (h : Oth w w') (hk : Blk w g cs t) (ht : t ≠ 3) : Blk w' g cs t := (h.stay g _ t _ hk ht).trans hk
theorem own_stays {w w' : World} {size base n : Nat} {e : TypeId} {v : Value} {xs : List Value} (h : OwnK size w base e v n xs) (he : e ≠ 3) (ho : Oth w w') : OwnK size w' base e v n xs := by
  refine OwnK.upd h ho.upd fun k hk => ?_
  rcases h.2 with ⟨rfl, _⟩ | ⟨g, cap, cur, rfl, _, hh, _⟩
  · cases hk
  · obtain rfl : g = k := Option.some.inj hk
    exact fun hc => hc (ho.stay g _ e _ hh he)
/-- what stands in a row of numbers turns nothing else -/
theorem grown_oth {w w' : World} {B n : Nat} {v : Value} {zs : List Int} (h : w.grownBy w' v.ownBlock) (hv : w.ownsInts B 3 .i64 v zs) (_hn : n = zs.length) : Oth w w' :=
  ⟨h.os, h.tape, h.output, h.size, fun g cs t fr hg ht => h.block g (Array.getElem?_eq_some_iff.1 hg).1 (fun e => by
    rcases hv.1.2 with ⟨rfl, _⟩ | ⟨g2, cap, cur, rfl, _, hh, _⟩
    · cases e
    · obtain rfl : g = g2 := Option.some.inj e
      rw [hg] at hh
      injection hh with h3
      injection h3 with _ h4
      exact ht h4)⟩
theorem MapG.next {w w' : World} {B b : Nat} {G : List (ByteArray × Nat)} (h : MapG w B b G) (hb : Below w.heap.size w w') : MapG w' B b G := by
  obtain ⟨D, ho, ht⟩ := h
  have hg : w.grownBy w' none := ⟨hb.os, hb.tape, hb.output, hb.size, fun i hi _ => hb.block i hi⟩
  exact ⟨D, ho.kept hg (by simp) fun es clock _ x _ => by cases x.val.ownBlock <;> simp, ht⟩
theorem Way2.oth {w0 w1 w2 : World} {B b : Nat} {G : List (ByteArray × Nat)} {s : ByteArray} {i : Nat} {D : DataW Unit} {v v' : Value} (h : Way2 w0 w1 B b G s i D v v') (hg : w1.grownBy w2 (some b)) (hm : ∃ es clock, w1.heap[b]? = some (.map es clock)) : Oth w0 w2 :=
  (grown_oth h.grown h.way.owns rfl).trans ⟨hg.os, hg.tape, hg.output, hg.size, fun g cs t fr hk ht => hg.block g (Array.getElem?_eq_some_iff.1 hk).1 (fun e => by
    obtain ⟨es, clock, hh⟩ := hm
    obtain rfl : g = b := Option.some.inj e
    rw [hk] at hh
    cases hh)⟩
theorem Way2.store2 {w0 w1 : World} {B b : Nat} {G : List (ByteArray × Nat)} {s : ByteArray} {i : Nat} {D : DataW Unit} {v v' : Value} (h : Way2 w0 w1 B b G s i D v v') (h0 : MapG w0 B b G) :
    ∃ w2, (Instr.mapUpdate 40 (.map (some b)) (.string s) v').run Tryz.prog w1 = .ok () w2 ∧ MapG w2 B b (G ++ [(s, i)]) ∧ Upd (Gnd B b) w0 w2 ∧ Oth w0 w2 := by
  obtain ⟨w2, hrun, r1, r2⟩ := h.way.back w1 v' (idx G s ++ [(i : Int)]) h.grown h.owns (by rw [List.length_append]; have := idx_le G s; simp; omega) h.loc
  have hm : ∃ es clock, w1.heap[b]? = some (.map es clock) := by
    obtain ⟨D0, ⟨es, clock, hb, _, _, _, hbB, _⟩, _⟩ := h0
    refine ⟨es, clock, ?_⟩
    rw [h.grown.block b (Array.getElem?_eq_some_iff.1 hb).1 (fun e => ?_)]
    · exact hb
    · have := (h.way.owns.1.lt b e.symm).1
      omega
  refine ⟨w2, hrun, ⟨_, ?_, h.way.tells.put s i⟩, h.upd.grown r2 fun k hk => .inl (.inl (Option.some.inj hk).symm), h.oth r2 hm⟩
  rw [h.owns.datum_pos (by simp)] at r1
  rw [List.length_append]
  exact r1
/-- what New's loops keep: the index's box, the map; behind the world w1 nothing else has turned -/
structure NS (w1 wr : World) (A : Option Addr) (n c : Nat) (G : List (ByteArray × Nat)) : Prop where
  upd : Upd (Gnd (w1.heap.size + 2) w1.heap.size) w1 wr
  blk : Blk wr (w1.heap.size + 1) [.slice A n c, .map (some w1.heap.size)] 42
  map : MapG wr (w1.heap.size + 2) w1.heap.size G
section
variable {w1 wr w' : World} {A Aw : Option Addr} {n c cw bs : Nat} {G : List (ByteArray × Nat)} {ws : List ByteArray}
theorem NS.below (h : NS w1 wr A n c G) : Below w1.heap.size w1 wr := h.upd.below (Nat.le_refl _) fun k _ e => by
  rcases e with e | e <;> omega
theorem NS.next (h : NS w1 wr A n c G) (hb : Below wr.heap.size wr w') : NS w1 w' A n c G := ⟨h.upd.next hb, h.blk.next hb, h.map.next hb⟩
theorem NS.drew (h : NS w1 wr A n c G) : NS w1 wr.drew A n c G := ⟨h.upd.drew, h.blk, h.map⟩
theorem NS.start (hm : A = A) : NS w1 ((w1.alloc (.map #[] 0)).alloc (.cells #[.slice A n c, .map (some w1.heap.size)] 42)) A n c [] := by
  have e : (w1.alloc (.map #[] 0)).heap.size = w1.heap.size + 1 := Array.size_push ..
  have hb : Below (w1.alloc (.map #[] 0)).heap.size (w1.alloc (.map #[] 0)) ((w1.alloc (.map #[] 0)).alloc (.cells #[.slice A n c, .map (some w1.heap.size)] 42)) := (Below.refl _ _).alloc (Nat.le_refl _) _
  refine ⟨((Upd.refl _ _).alloc _).alloc _, ?_, (MapG.made w1 _ (by omega)).next hb⟩
  have := Blk.new (w1.alloc (.map #[] 0)) [.slice A n c, .map (some w1.heap.size)] 42
  rw [e] at this
  exact this
theorem NS.cell1 (h : NS w1 wr A n c G) : wr.cell? ⟨w1.heap.size + 1, 1, none⟩ = some (.map (some w1.heap.size)) := h.blk.cell (j := 1) rfl
/-- and a row of words beside it -/
structure NI (w1 wr : World) (A : Option Addr) (n c : Nat) (G : List (ByteArray × Nat)) (Aw : Option Addr) (cw bs : Nat) (ws : List ByteArray) : Prop where
  ns : NS w1 wr A n c G
  row : strE.Own wr bs 9 (.slice Aw ws.length cw) ws
theorem NI.drew (h : NI w1 wr A n c G Aw cw bs ws) : NI w1 wr.drew A n c G Aw cw bs ws := ⟨h.ns.drew, h.row⟩
theorem NI.next (h : NI w1 wr A n c G Aw cw bs ws) (hb : Below wr.heap.size wr w') : NI w1 w' A n c G Aw cw bs ws := ⟨h.ns.next hb, h.row.next hb⟩
theorem NI.store {w2 : World} {s : ByteArray} {i : Nat} {D : DataW Unit} {v v' : Value} (h : NI w1 wr A n c G Aw cw bs ws) (hw : Way2 wr w2 (w1.heap.size + 2) w1.heap.size G s i D v v') :
    ∃ w3, (Instr.mapUpdate 40 (.map (some w1.heap.size)) (.string s) v').run Tryz.prog w2 = .ok () w3 ∧ NI w1 w3 A n c (G ++ [(s, i)]) Aw cw bs ws ∧ w2.cell? ⟨w1.heap.size + 1, 1, none⟩ = some (.map (some w1.heap.size)) := by
  obtain ⟨w3, hrun, hm, hu, ho⟩ := hw.store2 h.ns.map
  refine ⟨w3, hrun, ⟨⟨h.ns.upd.trans hu, ho.blk h.ns.blk (by decide), hm⟩, own_stays h.row (by decide) ho⟩, ?_⟩
  exact ((grown_oth hw.grown hw.way.owns rfl).blk h.ns.blk (by decide)).cell (j := 1) rfl
end
/-- the pairs of the first k cards -/
def pairsK (ys : List CardM) (k : Nat) : List (ByteArray × Nat) := (List.range k).flatMap fun i => (wordsC (ys.getD i ⟨0, none, [], 0⟩).ls).map fun x => (x, i)
theorem pairs_next {ys : List CardM} {k : Nat} {x : CardM} (hx : ys[k]? = some x) : pairsK ys (k + 1) = pairsK ys k ++ (wordsC x.ls).map fun s => (s, k) := by
  unfold pairsK
  rw [List.range_succ, List.flatMap_append]
  simp [List.getD, hx]
theorem pairs_few {ys : List CardM} (ht : ∀ x ∈ ys, Tame x.ls) (hn : ys.length ≤ 25) {k : Nat} (hk : k ≤ ys.length) : (pairsK ys k).length ≤ 6600003300 := by
  have h1 : (pairsK ys k).length ≤ (List.range k).length * 264000132 := flat_le _ 264000132 _ fun i hi => by
    rw [List.length_map]
    have hik : i < ys.length := Nat.lt_of_lt_of_le (List.mem_range.1 hi) hk
    have e : ys.getD i ⟨0, none, [], 0⟩ = ys[i] := by simp [List.getD, hik]
    rw [e]
    have := wordsC_few (ht ys[i] (List.getElem_mem hik)) ys[i].ls.length
    rwa [List.take_length] at this
  rw [List.length_range] at h1
  exact Nat.le_trans h1 (Nat.le_trans (Nat.mul_le_mul_right _ (Nat.le_trans hk hn)) (by decide))
theorem few_sum {a b : Nat} (h1 : a ≤ 6600003300) (h2 : b ≤ 264000132) : a + b ≤ 8000000000000 := Nat.le_trans (Nat.add_le_add h1 h2) (by decide)
theorem few_max {a : Nat} (h : a ≤ 8000000000000) : a < maxLen := Nat.lt_of_le_of_lt h (by decide)
end Go.Proofs.YtfkfpanhbanljaaGreatDoor.Find

/- Layer 45 (find): New. -/
namespace Go.Proofs.YtfkfpanhbanljaaGreatDoor.Find
open Go.RowKit Go.Proofs.YtfkfpanhbanljaaGreatDoor.Mem Go.Proofs.YtfkfpanhbanljaaGreatDoor.Card Go.Proofs.YtfkfpanhbanljaaGreatDoor.Laid Go.Proofs.YtfkfpanhbanljaaGreatDoor.Fold Go.Proofs.YtfkfpanhbanljaaGreatDoor.Stab Go.Proofs.YtfkfpanhbanljaaGreatDoor.List44 Go.Proofs.YtfkfpanhbanljaaGreatDoor.Twin

theorem wordsB_size {s x : ByteArray} (h : x ∈ wordsB s) : x.size ≤ s.size := by
  obtain ⟨y, hy, rfl⟩ := List.mem_map.1 h
  rw [bOf_size]
  have h1 : ∀ (l : List (List UInt8)), y ∈ l → y.length ≤ Go.Lib.lens l := by
    intro l
    induction l with
    | nil => intro h; cases h
    | cons a l ih =>
      intro h
      rcases List.mem_cons.1 h with rfl | h
      · unfold Go.Lib.lens; simp
      · have := ih h
        unfold Go.Lib.lens at this ⊢
        simp at this ⊢
        omega
  have h2 := h1 _ hy
  have h3 := words_lens s.data.toList
  have h4 : s.data.toList.length = s.size := by simp
  have h5 : 0 < (words s.data.toList).length := List.length_pos_of_mem hy
  omega
theorem wordsC_size {ls : List LineM} (ht : Tame ls) {x : ByteArray} (hx : x ∈ wordsC ls) : x.size ≤ 2000000 := by
  obtain ⟨z, hz, hx⟩ := List.mem_flatMap.1 hx
  rcases List.mem_append.1 hx with h | h
  · exact Nat.le_trans (wordsB_size h) (ht.2 z hz).1
  · obtain ⟨q, hq, h⟩ := List.mem_flatMap.1 h
    exact Nat.le_trans (wordsB_size h) ((ht.2 z hz).2.2 q hq)
theorem tame_p {x y : CardM} (h : y.p = x.p) (hy : Tame y.ls) : Tame x.ls := by
  have h1 : y.ls.map LineM.p = x.ls.map LineM.p := congrArg Prod.snd h
  have h2 := congrArg List.length h1
  rw [List.length_map, List.length_map] at h2
  refine ⟨h2 ▸ hy.1, fun z hz => ?_⟩
  have h3 : z.p ∈ y.ls.map LineM.p := by rw [h1]; exact List.mem_map_of_mem hz
  obtain ⟨u, hu, e⟩ := List.mem_map.1 h3
  have h4 := hy.2 u hu
  have e1 : u.t = z.t := congrArg (fun q => q.2.1) e
  have e2 : u.m = z.m := congrArg (fun q => q.2.2) e
  rwa [e1, e2] at h4
/-- an index: its box, its cards, its map -/
structure IxAt (w : World) (g : Nat) (A : Option Addr) (c : Nat) (ys : List CardM) (B b : Nat) : Prop where
  box : Blk w g [.slice A ys.length c, .map (some b)] 42
  rd : RdCards w w.heap.size A ys
  map : MapG w B b (pairsK ys ys.length)
  ap : g < B
set_option maxRecDepth 100000 in
set_option maxHeartbeats 8000000 in
theorem fnew2_any (X : Option Addr) (l : List CardM) (c : Nat) (w : World) (hr : RdCards w w.heap.size X l) (hn : l.length ≤ 25) (hs : Short l) (ht : ∀ x ∈ l, Tame x.ls) (hm : ML w) :
    Calls Tryz.prog 9 #[.slice X l.length c] w fun e w' => ∃ (g : Nat) (A : Option Addr) (c2 : Nat) (ys : List CardM) (B b : Nat), e = .returned (.pointer (some ⟨g, 0, none⟩)) ∧ ys.map CardM.p = (stab ltC l).map CardM.p ∧ IxAt w' g A c2 ys B b ∧ w.heap.size ≤ b ∧ Below w.heap.size w w' ∧ RowF w' w.heap.size A c2 ys ∧ w.heap.size ≤ g := by
  have CS := kept (lsort_any X l c w hr (by omega) hs hm)
  have HML := kept hm
  have HTL : Kept (∀ ys : List CardM, ys.map CardM.p = (stab ltC l).map CardM.p → ys.length ≤ 25 ∧ ∀ x ∈ ys, Tame x.ls) := ⟨fun ys h => by
    have h1 := congrArg List.length h
    rw [List.length_map, List.length_map, stab_len] at h1
    refine ⟨by omega, fun x hx => ?_⟩
    have h2 : x.p ∈ (stab ltC l).map CardM.p := by rw [← h]; exact List.mem_map_of_mem hx
    obtain ⟨y, hy, e⟩ := List.mem_map.1 h2
    exact tame_p e (ht y ((stab_perm l).mem_iff.1 hy))⟩
  have hmm := @run_makeMap Tryz.prog
  clear hr hs ht hm
  go_enter Tryz.func9, Tryz.ntmps9
  go_wp2_with fail
  refine CS.out.mono ?_
  rintro e w1 ⟨A, c2, ys, rfl, hp, hrow, hb⟩
  obtain ⟨hyl, hyt⟩ := HTL.out ys hp
  have HP := kept hp
  have HYT := kept hyt
  have HR := kept (hrow.rd)
  have HRF := kept hrow
  have HB := kept hb
  have HML1 := kept (HML.out.next hb)
  have HN0 := kept (NS.start (w1 := w1) (A := A) (n := ys.length) (c := c2) rfl)
  clear hp hrow hb hyt CS HTL HML
  go_upto_region 2 with fail
  have a0 := HN0.out.blk.cell (j := 0) rfl
  generalize ((w1.alloc (.map #[] 0)).alloc (.cells #[.slice A ys.length c2, .map (some w1.heap.size)] 42)) = wr0 at *
  go_wp2_with fail
  go_loopw [18] (fun i wr => ∃ k : Nat, k ≤ ys.length ∧ i = .int .i64 (k : Int) ∧ Kept (NS w1 wr A ys.length c2 (pairsK ys k))) (fun i _ => ys.length - (intOf i).toNat)
  case atStart => exact ⟨0, Nat.zero_le _, rfl, HN0⟩
  case round =>
    clear HN0 a0
    obtain ⟨k, hk, rfl, HN⟩ := hrel
    by_cases hlt : k < ys.length
    · obtain ⟨⟨zcid, zX, zls, zc⟩, hz⟩ : ∃ z, ys[k]? = some z := ⟨_, List.getElem?_eq_getElem hlt⟩
      obtain ⟨b1, o1, rfl, hbB, x0, x1, hzo⟩ := HR.out.at_ hz
      have hkn : (k : Int) < (ys.length : Int) := by omega
      have x0 := (HN.out.below.cell (p := ⟨b1, o1 + k * 2, none⟩) hbB).trans x0
      have x1 := (HN.out.below.cell (p := ⟨b1, o1 + k * 2 + 1, none⟩) hbB).trans x1
      dsimp only at x0 x1
      have hbA : Below wr.heap.size wr (wr.alloc (.cells #[.int .u64 (zcid : Int), .slice zX zls.length zc] 31)) := (Below.refl _ _).alloc (Nat.le_refl _) _
      have HN1 := kept (HN.out.next hbA)
      have HKB := kept (Blk.new wr [.int .u64 (zcid : Int), .slice zX zls.length zc] 31)
      have HTZ : Kept (Tame zls) := ⟨HYT.out _ (List.mem_of_getElem? hz)⟩
      have HNX : Kept (pairsK ys (k + 1) = pairsK ys k ++ (wordsC zls).map fun s => (s, k)) := ⟨pairs_next hz⟩
      have HGF := kept (pairs_few HYT.out hyl hk)
      have CW := fwords_any ⟨zcid, zX, zls, zc⟩ _ (hzo.next HN1.out.below) HTZ.out (HML1.out.next HN1.out.below)
      unfold CardM.val at CW
      dsimp only at CW
      have CW := kept CW
      clear hz hbA HN hzo
      go_upto_region 5 with fail
      clear x0 x1
      generalize wr.alloc (.cells #[.int .u64 (zcid : Int), .slice zX zls.length zc] 31) = w2 at *
      generalize wr.heap.size = gx at *
      have p0 := HKB.out.cell (j := 0) rfl
      have p1 := HKB.out.cell (j := 1) rfl
      go_wp2_with fail
      refine CW.out.mono ?_
      rintro e w3 ⟨Aw, cw, rfl, hown, hcw, hb3⟩
      obtain ⟨ws, hws⟩ : ∃ ws, wordsC zls = ws := ⟨_, rfl⟩
      rw [hws] at hown HNX ⊢
      have HWS : Kept (∀ x ∈ ws, x.size ≤ 2000000) := ⟨fun x hx => wordsC_size HTZ.out (by rw [hws]; exact hx)⟩
      have HWL : Kept (ws.length ≤ 264000132) := ⟨by have := wordsC_few HTZ.out zls.length; rwa [List.take_length, hws] at this⟩
      have HI0 : Kept (NI w1 w3 (some ⟨b1, o1, none⟩) ys.length c2 (pairsK ys k ++ (ws.take 0).map fun s => (s, k)) Aw cw w2.heap.size ws) := ⟨⟨by rw [List.take_zero, List.map_nil, List.append_nil]; exact HN1.out.next hb3, hown⟩⟩
      clear hws hown hb3 CW HKB p0 p1 HN1 HTZ
      generalize w2.heap.size = bs at *
      go_wp2_with fail
      go_loopw [26] (fun i wr => ∃ j : Nat, j ≤ ws.length ∧ i = .int .i64 (j : Int) ∧ Kept (NI w1 wr (some ⟨b1, o1, none⟩) ys.length c2 (pairsK ys k ++ (ws.take j).map fun s => (s, k)) Aw cw bs ws)) (fun i _ => ws.length - (intOf i).toNat)
      case atStart => exact ⟨0, Nat.zero_le _, rfl, HI0⟩
      case round =>
        clear HI0
        obtain ⟨j, hj, rfl, HI⟩ := hrel
        by_cases hjl : j < ws.length
        · obtain ⟨s, hs⟩ : ∃ s, ws[j]? = some s := ⟨_, List.getElem?_eq_getElem hjl⟩
          have hjn : (j : Int) < (ws.length : Int) := by omega
          have hwl := HWL.out
          have hrz := strE_rd.1 HI.out.row.rd
          obtain ⟨b2, o2, rfl, hb2, hc2⟩ := hrz (by intro e; rw [List.map_eq_nil_iff.1 e] at hjl; exact absurd hjl (Nat.not_lt_zero _))
          have y0 := hc2 j (.string s) (by unfold SB; rw [List.getElem?_map, hs]; rfl)
          have hss : s.size ≤ maxLen := Nat.le_trans (HWS.out s (List.mem_of_getElem? hs)) (by decide)
          have HGX : Kept (pairsK ys k ++ (ws.take (j + 1)).map (fun s => (s, k)) = (pairsK ys k ++ (ws.take j).map fun s => (s, k)) ++ [(s, k)]) := ⟨by
            obtain ⟨h1, h2⟩ := List.getElem?_eq_some_iff.1 hs
            rw [List.take_succ_eq_append_getElem h1, h2, List.map_append, List.append_assoc]
            rfl⟩
          have hGl : (pairsK ys k ++ (ws.take j).map fun s => (s, k)).length ≤ 8000000000000 := by
            rw [List.length_append, List.length_map]
            exact few_sum HGF.out (Nat.le_trans (List.length_take_le' _ _) HWL.out)
          generalize (pairsK ys k ++ (ws.take j).map fun s => (s, k)) = G at *
          clear hrz hc2 hs
          go_upto_region 8 with fail
          have HA := kept HI.out.drew
          have HC := kept (HI.out.next ((Below.refl wr.heap.size wr).alloc (Nat.le_refl _) (.cells #[.int .i64 (k : Int)] 3))).drew
          obtain ⟨v1, D1, hrun1, hway1⟩ := HA.out.ns.map.look (few_max hGl) hss
          obtain ⟨v2, D2, hrun2, hway2⟩ := HC.out.ns.map.look (few_max hGl) hss
          have HW1 := kept hway1
          have HW2 := kept hway2
          have dW := HI.out.ns.cell1
          have dA := HA.out.ns.cell1
          have dC := HC.out.ns.cell1
          have hgA : Kept (wr.drew.grownBy (wr.alloc (.cells #[.int .i64 (k : Int)] 3)).drew none) := ⟨by
            have h := World.grownBy_alloc wr (.cells #[.int .i64 (k : Int)] 3) none
            exact ⟨h.os, h.tape, h.output, h.size, h.block⟩⟩
          have hgC : Kept ((wr.alloc (.cells #[.int .i64 (k : Int)] 3)).drew.grownBy (wr.alloc (.cells #[.int .i64 (k : Int)] 3)).drew none) := ⟨rfl, rfl, rfl, Nat.le_refl _, fun _ _ _ => rfl⟩
          have HCC : Kept ((wr.alloc (.cells #[.int .i64 (k : Int)] 3)).drew.cell? ⟨wr.heap.size, 0, none⟩ = some (.int .i64 (k : Int))) := ⟨(Blk.new wr [.int .i64 (k : Int)] 3).cell (j := 0) rfl⟩
          have hki : (k : Int) < 9223372036854775808 := by omega
          have HBS : Kept (w1.heap.size + 2 ≤ (wr.alloc (.cells #[.int .i64 (k : Int)] 3)).drew.heap.size) := ⟨by have := HC.out.ns.blk.lt; omega⟩
          clear hway1 hway2 HI y0
          go_region_law (first
            | (refine step_appI _ (by rfl) (.tmp 40) (.tmp 42) (by rfl) wr.drew (w1.heap.size + 2) w1.heap.size G s k D1 v1 (by rfl) ⟨wr.heap.size, 0, none⟩ 1 (by rfl) HCC.out HW1.out hgA.out hki hGl HBS.out ?_; intro v9 wx hw9; obtain ⟨w5, hrun5, hni5, hcell5⟩ := HA.out.store hw9)
            | (refine step_appI _ (by rfl) (.tmp 40) (.tmp 42) (by rfl) (wr.alloc (.cells #[.int .i64 (k : Int)] 3)).drew (w1.heap.size + 2) w1.heap.size G s k D2 v2 (by rfl) ⟨wr.heap.size, 0, none⟩ 1 (by rfl) HCC.out HW2.out hgC.out hki hGl HBS.out ?_; intro v9 wx hw9; obtain ⟨w5, hrun5, hni5, hcell5⟩ := HC.out.store hw9))
          all_goals (have HNI := kept hni5)
          all_goals (rw [← HGX.out] at HNI)
          all_goals clear hni5 hcell5 hw9 HA HC HW1 HW2 hgA hgC HCC HBS hrun1 hrun2 dW dA dC
          all_goals go_wp2_with fail
          all_goals go_roundw
          all_goals first | exact ⟨j + 1, by omega, by go_num, HNI⟩ | (simp [intOf]; omega)
        · obtain rfl : j = ws.length := by omega
          rw [List.take_length, ← HNX.out] at HI
          have HN2 := kept HI.out.ns
          clear HI
          go_wp2_with fail
          go_roundw
          case rel => exact ⟨k + 1, by omega, by go_num, HN2⟩
          case measure => simp [intOf]; omega
    · obtain rfl : k = ys.length := by omega
      have HE : Kept (IxAt wr (w1.heap.size + 1) A c2 ys (w1.heap.size + 2) w1.heap.size ∧ w.heap.size ≤ w1.heap.size ∧ Below w.heap.size w wr ∧ RowF wr w.heap.size A c2 ys ∧ w.heap.size ≤ w1.heap.size + 1) := ⟨⟨HN.out.blk, HR.out.next HN.out.below, HN.out.map, by omega⟩, HB.out.size, HB.out.trans (HN.out.below.mono HB.out.size), HRF.out.next HN.out.below, Nat.le_succ_of_le HB.out.size⟩
      clear HN HR HB HRF
      go_wp2_with fail
      go_ret
      exact ⟨_, _, _, ys, _, _, rfl, HP.out, HE.out⟩
theorem fnew_any (X : Option Addr) (l : List CardM) (c : Nat) (w : World) (hr : RdCards w w.heap.size X l) (hn : l.length ≤ 25) (hs : Short l) (ht : ∀ x ∈ l, Tame x.ls) (hm : ML w) :
    Calls Tryz.prog 9 #[.slice X l.length c] w fun e w' => ∃ (g : Nat) (A : Option Addr) (c2 : Nat) (ys : List CardM) (B b : Nat), e = .returned (.pointer (some ⟨g, 0, none⟩)) ∧ ys.map CardM.p = (stab ltC l).map CardM.p ∧ IxAt w' g A c2 ys B b ∧ w.heap.size ≤ b ∧ Below w.heap.size w w' :=
  (fnew2_any X l c w hr hn hs ht hm).mono fun _ _ ⟨g, A, c2, ys, B, b, h1, h2, h3, h4, h5, _⟩ => ⟨g, A, c2, ys, B, b, h1, h2, h3, h4, h5⟩
end Go.Proofs.YtfkfpanhbanljaaGreatDoor.Find

/- Layer 45 (find): what with's loops keep. -/
namespace Go.Proofs.YtfkfpanhbanljaaGreatDoor.Find
open Go.RowKit Go.Proofs.YtfkfpanhbanljaaGreatDoor.Mem Go.Proofs.YtfkfpanhbanljaaGreatDoor.Card Go.Proofs.YtfkfpanhbanljaaGreatDoor.Laid Go.Proofs.YtfkfpanhbanljaaGreatDoor.Fold Go.Proofs.YtfkfpanhbanljaaGreatDoor.Twin

def BLs (bs : List Bool) : List Value := bs.map Value.bool
def hasP (s h : ByteArray) : Bool := Lib.hasPrefix s.data.toList h.data.toList
/-- does a word at card i begin so, of those words that count? -/
def hit (G : List (ByteArray × Nat)) (h : ByteArray) (P : ByteArray → Bool) (i : Nat) : Bool := G.any fun p => decide (p.2 = i) && (hasP p.1 h && P p.1)
def hitsL (G : List (ByteArray × Nat)) (h : ByteArray) (P : ByteArray → Bool) (n : Nat) : List Bool := (List.range n).map (hit G h P)
theorem info_bool : (Tryz.prog.info? 4).map (fun i => (i.zero, i.size, i.bytes)) = some (some (.bool false), 1, 1) := by kernel_rfl
theorem make_bools (w : World) (n : Nat) (hn : n ≤ 1000000) : ∃ w', (Instr.makeSlice 59 (.int .i64 (n : Int)) (.int .i64 (n : Int))).run Tryz.prog w = .ok (.slice (some ⟨w.heap.size, 0, none⟩) n n) w' ∧
      Own w' w.heap.size 4 (.slice (some ⟨w.heap.size, 0, none⟩) n n) (BLs (List.replicate n false)) ∧ Below w.heap.size w w' := by
  obtain ⟨i0, hi0, hz0, hz1, hz2⟩ := info_parts info_bool
  obtain ⟨w', h1, h2, h3⟩ := run_make_full (P := Tryz.prog) w w.heap.size 59 4 i0 _ 1 Tryz.underlying59 hi0 hz0 hz1 .i64 .i64 n (by rw [hz2]; omega) (by simp only [maxLen]; omega) (Nat.le_refl _)
  have e : (madeCells (Value.bool false).cells (n * 1)).toList = BLs (List.replicate n false) := by
    rw [Nat.mul_one]
    show (madeCells #[Value.bool false] n).toList = _
    rw [toList_madeCells_one]
    simp [BLs]
  rw [e] at h2
  refine ⟨w', h1, ?_, (Below.refl _ _).grown h3 (Nat.le_refl _) (by simp)⟩
  unfold Own
  have el : (BLs (List.replicate n false)).length = n := by simp [BLs]
  rw [el]
  exact h2
theorem hitsL_none {G : List (ByteArray × Nat)} {h : ByteArray} {P : ByteArray → Bool} {n : Nat} (hP : ∀ p ∈ G, P p.1 = false) : hitsL G h P n = List.replicate n false := by
  unfold hitsL
  refine List.ext_getElem (by simp) fun i h1 h2 => ?_
  rw [List.getElem_map, List.getElem_replicate]
  unfold hit
  rw [List.any_eq_false]
  intro p hp
  simp [hP p hp]
theorem key_string {v : Value} {kl : Lit} (h : keyOf Tryz.prog 9 v = some kl) : ∃ s, v = .string s ∧ kl = kS s := by
  obtain ⟨s, e1, e2, -⟩ := Go.WideMaps.string_of_keyOf Tryz.underlying9 h
  exact ⟨s, e1, e2⟩
/-- a slice, by its three parts -/
def mkSl (q : Option Addr × Nat × Nat) : Value := .slice q.1 q.2.1 q.2.2
theorem row_slice {w : World} {B : Nat} {v : Value} {y : DataW Unit × List MemPlace} (h : rowElem w B 3 .i64 v = some y) : ∃ q, v = mkSl q := by
  obtain ⟨zs, ho, -⟩ := rowElem_inv h
  rcases ho.1.2 with ⟨rfl, _⟩ | ⟨g, cap, cur, rfl, _⟩
  · exact ⟨(none, 0, 0), rfl⟩
  · exact ⟨(some ⟨g, 0, none⟩, _, cap), rfl⟩
theorem MapG.own {w w' : World} {B b : Nat} {G : List (ByteArray × Nat)} (h : MapG w B b G) (hb : Below w.heap.size w w') : ∃ D, Tells D G ∧ w'.ownsMap Tryz.prog 9 (rowElem (H := Unit) w B 3 .i64) b G.length D := by
  obtain ⟨D, ⟨es, clock, h1, F, hs, hD, _⟩, ht⟩ := h
  exact ⟨D, ht, es, clock, (hb.block b (Array.getElem?_eq_some_iff.1 h1).1).trans h1, F, hs, hD⟩
/-- an element of the map is the row of its word -/
theorem row_is {w : World} {B : Nat} {v : Value} {G : List (ByteArray × Nat)} {D : DataW Unit} {s : ByteArray} {y : DataW Unit × List MemPlace} (h : rowElem w B 3 .i64 v = some y) (ht : Tells D G) (hat : ∀ zd, D.atKey (kS s) zd = y.1) : w.ownsInts B 3 .i64 v (idx G s) := by
  obtain ⟨zs, hoi, rfl⟩ := rowElem_inv h
  have hz : zs = idx G s := by
    have h1 := (ht.at_ s).symm.trans (hat .nil)
    unfold datI at h1
    rcases hoi.datum (H := Unit) with ⟨h2, h3⟩ | h2
    · rw [h2] at h1
      rw [h3]
      split at h1
      · rename_i h4; exact h4.symm
      · cases h1
    · rw [h2] at h1
      split at h1
      · cases h1
      · exact (lits_inj (DataW.slice.inj h1).1).symm
  subst hz
  exact hoi
theorem idx_lt {ys : List CardM} {k : Nat} {s : ByteArray} {z : Int} (h : z ∈ idx (pairsK ys k) s) : ∃ i : Nat, z = (i : Int) ∧ i < k := by
  obtain ⟨p, hp, rfl⟩ := List.mem_map.1 h
  obtain ⟨i, hi, hp2⟩ := List.mem_flatMap.1 (List.mem_filter.1 hp).1
  obtain ⟨x, _, e⟩ := List.mem_map.1 hp2
  exact ⟨i, by rw [← e], List.mem_range.1 hi⟩
theorem mem_idx {G : List (ByteArray × Nat)} {s : ByteArray} {i : Nat} : (i : Int) ∈ idx G s ↔ (s, i) ∈ G := by
  unfold idx
  rw [List.mem_map]
  constructor
  · rintro ⟨p, hp, e⟩
    obtain ⟨h1, h2⟩ := List.mem_filter.1 hp
    obtain ⟨a, b⟩ := p
    have e1 : b = i := Int.ofNat.inj e
    have e2 : a = s := of_decide_eq_true h2
    subst e1; subst e2
    exact h1
  · intro h
    exact ⟨(s, i), List.mem_filter.2 ⟨h, decide_eq_true rfl⟩, rfl⟩
/-- what one word adds -/
theorem hit_add {G : List (ByteArray × Nat)} {h s : ByteArray} {P P2 : ByteArray → Bool} (hP : ∀ t, P2 t = (P t || decide (t = s))) (i : Nat) : hit G h P2 i = (hit G h P i || (hasP s h && decide ((i : Int) ∈ idx G s))) := by
  unfold hit
  rw [Bool.eq_iff_iff]
  simp only [List.any_eq_true, Bool.or_eq_true, Bool.and_eq_true, decide_eq_true_eq]
  constructor
  · rintro ⟨p, hp, h1, h2, h3⟩
    rw [hP] at h3
    rw [Bool.or_eq_true] at h3
    rcases h3 with h4 | h4
    · exact .inl ⟨p, hp, h1, h2, h4⟩
    · obtain ⟨a, b⟩ := p
      have e : a = s := of_decide_eq_true h4
      dsimp only at h1 h2
      subst e; subst h1
      exact .inr ⟨h2, mem_idx.2 hp⟩
  · rintro (⟨p, hp, h1, h2, h3⟩ | ⟨h1, h2⟩)
    · exact ⟨p, hp, h1, h2, by rw [hP, h3]; rfl⟩
    · exact ⟨(s, i), mem_idx.1 h2, rfl, h1, by rw [hP]; simp⟩
end Go.Proofs.YtfkfpanhbanljaaGreatDoor.Find

/- Layer 45 (find): with: which cards have a word that begins so. -/
namespace Go.Proofs.YtfkfpanhbanljaaGreatDoor.Find
open Go.RowKit Go.Proofs.YtfkfpanhbanljaaGreatDoor.Mem Go.Proofs.YtfkfpanhbanljaaGreatDoor.Card Go.Proofs.YtfkfpanhbanljaaGreatDoor.Laid Go.Proofs.YtfkfpanhbanljaaGreatDoor.Fold Go.Proofs.YtfkfpanhbanljaaGreatDoor.Twin

/-- the row of yeses and noes that the call makes -/
structure WS (w wr : World) (n : Nat) (bs : List Bool) : Prop where
  below : Below w.heap.size w wr
  own : Own wr w.heap.size 4 (.slice (some ⟨w.heap.size, 0, none⟩) n n) (BLs bs)
section
variable {w wr w' : World} {n r i : Nat} {bs : List Bool}
theorem WS.len (h : WS w wr n bs) : bs.length = n := by
  have := h.own.len
  unfold BLs at this
  rw [List.length_map] at this
  exact this.symm
theorem WS.grow (h : WS w wr n bs) (hg : wr.grownBy w' (some r)) (hr : w.heap.size < r) : WS w w' n bs := by
  refine ⟨h.below.grown hg h.below.size (fun j hj => by cases hj; omega), ?_⟩
  have h2 : OwnK 1 wr w.heap.size 4 (.slice (some ⟨w.heap.size, 0, none⟩) n n) (BLs bs).length (BLs bs) := h.own
  exact OwnK.upd h2 ((Upd.refl (fun k => k = r) wr).grown hg fun k hk => .inl (Option.some.inj hk).symm) fun k hk e => by
    obtain rfl : w.heap.size = k := Option.some.inj hk
    omega
theorem WS.spot (h : WS w wr n bs) (hi : i < n) : (∃ u, wr.cell? ⟨w.heap.size, i, none⟩ = some (.bool u)) ∧ wr.frozen? ⟨w.heap.size, i, none⟩ = false ∧ WS w (wr.setCell ⟨w.heap.size, i, none⟩ (.bool true)) n (bs.set i true) ∧ wr.grownBy (wr.setCell ⟨w.heap.size, i, none⟩ (.bool true)) (some w.heap.size) := by
  have hl := h.len
  have hu : (BLs bs)[i]? = some (.bool (bs.getD i false)) := by simp [BLs, List.getD, show i < bs.length by omega]
  obtain ⟨g, h1, h2, -, h4, h5, h6⟩ := OwnK.spot h.own hu
  obtain rfl : w.heap.size = g := congrArg Addr.block (Option.some.inj h1)
  refine ⟨⟨_, h4⟩, h5, ⟨h.below.setCell (p := ⟨w.heap.size, i, none⟩) (Nat.le_refl _) _, ?_⟩, (h6 _).2⟩
  have h7 := (h6 (.bool true)).1
  have e : (BLs bs).set i (.bool true) = BLs (bs.set i true) := by simp [BLs, List.map_set]
  rw [e] at h7
  unfold Own
  have e2 : (BLs (bs.set i true)).length = (BLs bs).length := by simp [BLs]
  rw [e2]
  exact h7
end
def fillL (n : Nat) (f : Nat → Bool) (zs : List Int) : List Bool := (List.range n).map fun x => f x || decide ((x : Int) ∈ zs)
theorem fill_next {n i j : Nat} {f : Nat → Bool} {zs : List Int} (hj : zs[j]? = some (i : Int)) (hi : i < n) : (fillL n f (zs.take j)).set i true = fillL n f (zs.take (j + 1)) := by
  obtain ⟨h1, h2⟩ := List.getElem?_eq_some_iff.1 hj
  unfold fillL
  refine List.ext_getElem (by simp) fun x hx1 hx2 => ?_
  rw [List.getElem_set, List.getElem_map, List.getElem_map, List.getElem_range, List.take_succ_eq_append_getElem h1, h2]
  by_cases e : i = x
  · subst e
    simp
  · have e2 : ¬ (x : Int) = (i : Int) := by omega
    simp [e, e2]
theorem fill_start (n : Nat) (f : Nat → Bool) : fillL n f [] = (List.range n).map f := by
  unfold fillL
  refine List.map_congr_left fun x _ => ?_
  simp
theorem hits_next {G : List (ByteArray × Nat)} {h s : ByteArray} {left : Lit → Bool} {n : Nat} :
    hitsL G h (fun t => !(left (kS t) && !(kS t).sameKey (kS s))) n = if hasP s h = true then fillL n (hit G h fun t => !left (kS t)) (idx G s) else hitsL G h (fun t => !left (kS t)) n := by
  have hP : ∀ t, (fun t => !(left (kS t) && !(kS t).sameKey (kS s))) t = ((fun t => !left (kS t)) t || decide (t = s)) := fun t => by
    dsimp only
    by_cases e : t = s
    · subst e
      have h1 : (kS t).sameKey (kS t) = true := by simp [kS, Lit.sameKey]
      rw [h1]; simp
    · rw [Go.Maps.sameKey_ne (fun h => e (kS_inj h))]
      simp [e]
  have h2 := hit_add (G := G) (h := h) hP
  unfold hitsL fillL
  split
  · rename_i h3
    refine List.map_congr_left fun x _ => ?_
    rw [h2, h3, Bool.true_and]
  · rename_i h3
    refine List.map_congr_left fun x _ => ?_
    rw [h2, Bool.eq_false_iff.2 h3, Bool.false_and, Bool.or_false]
set_option maxRecDepth 100000 in
set_option maxHeartbeats 8000000 in
theorem fwith_any (g : Nat) (A : Option Addr) (c : Nat) (ys : List CardM) (B b : Nat) (hd : ByteArray) (w : World) (hx : IxAt w g A c ys B b) (hn : ys.length ≤ 25) :
    Calls Tryz.prog 36 #[.pointer (some ⟨g, 0, none⟩), .string hd] w fun e w' => e = .returned (.slice (some ⟨w.heap.size, 0, none⟩) ys.length ys.length) ∧ WS w w' ys.length (hitsL (pairsK ys ys.length) hd (fun _ => true) ys.length) := by
  obtain ⟨w1, hmk, hown1, hb1⟩ := make_bools w ys.length (by omega)
  have HX := kept hx
  have a0 := hx.box.cell (j := 0) rfl
  have hgw := hx.box.lt
  have a1 : w1.cell? ⟨g, 1, none⟩ = some (.map (some b)) := (hx.box.next hb1).cell (j := 1) rfl
  obtain ⟨D, ht, hown⟩ := hx.map.own hb1
  obtain ⟨G, hG⟩ : ∃ G, pairsK ys ys.length = G := ⟨_, rfl⟩
  rw [hG] at ht hown ⊢
  have HLT : Kept (∀ s z, z ∈ idx G s → ∃ i : Nat, z = (i : Int) ∧ i < ys.length) := ⟨fun s z h => by rw [← hG] at h; exact idx_lt h⟩
  have HT := kept ht
  have hs1 : w.heap.size < w1.heap.size := (OwnK.under hown1 _ rfl).2
  have HS1 : Kept (WS w w1 ys.length (hitsL G hd (fun t => !Go.Maps.has D (kS t)) ys.length)) := ⟨⟨hb1, by
    rw [hitsL_none fun p hp => ?_]
    · exact hown1
    · rw [ht.has_]
      have h1 : (p.2 : Int) ∈ idx G p.1 := mem_idx.2 hp
      cases h2 : idx G p.1 with
      | nil => rw [h2] at h1; cases h1
      | cons a l => rfl⟩⟩
  clear hx ht hG hown1 hb1
  go_enter Tryz.func36, Tryz.ntmps36
  go_wp2_with (at_range; refine wpList_range_own _ rfl (.tmp 19) 40 rfl 9 53 lawS Tryz.underlying40 (rowElem (H := Unit) w B 3 .i64) b G.length D rfl hown ?_; intro w2 hrg hg2 hs2)
  have HS2 := kept (HS1.out.grow (hg2.but (some w1.heap.size)) hs1)
  clear HS1 hg2 hs2 hmk a0 a1 hown
  generalize w1.heap.size = r at *
  have hbw : b < w.heap.size := by
    obtain ⟨D0, ⟨es, clock, h1, _⟩, _⟩ := HX.out.map
    exact (Array.getElem?_eq_some_iff.1 h1).1
  go_frame
  go_loopw [6] (fun _ wr => ∃ (left : Lit → Bool) (cnt : Nat), wr.ranges Tryz.prog 9 (rowElem (H := Unit) w B 3 .i64) b r G.length D left cnt ∧ Kept (WS w wr ys.length (hitsL G hd (fun t => !left (kS t)) ys.length))) (fun _ wr => wr.rangeLeft b r)
  case atStart => exact ⟨_, _, hrg, HS2⟩
  case round =>
    clear HS2 hrg
    obtain ⟨left, cnt, hrg, HS⟩ := hrel
    go_wp2_with (at_next; refine wpList_next_ranges _ rfl (.tmp 20) rfl 9 lawS (rowElem (H := Unit) w B 3 .i64) Value.string mkSl (fun _ _ h => by obtain ⟨s, e, -⟩ := key_string h; exact ⟨s, e⟩) (fun _ _ h => row_slice h) b r G.length D left cnt rfl hrg ?_ ?_)
    · intro _ hl0
      have HF : Kept (WS w wr ys.length (hitsL G hd (fun _ => true) ys.length)) := ⟨by
        have e : (fun t => !left (kS t)) = fun _ => true := funext fun t => by rw [hl0]; rfl
        have h := HS.out
        rwa [e] at h⟩
      clear HS hl0 hrg
      go_wp2_with fail
      go_ret
      exact ⟨rfl, HF.out⟩
    · intro x qa qn qc kl yd yp w3 cnt1 hkey hlx hRv hat hrg1 hlt hg1 hs3 hen
      obtain ⟨s, e0, rfl⟩ := key_string hkey
      obtain rfl : x = s := Value.string.inj e0
      have hoi := row_is (y := (yd, yp)) hRv HT.out hat
      have HS3 := kept (HS.out.grow hg1 hs1)
      have HNX := kept (hits_next (G := G) (h := hd) (s := x) (left := left) (n := ys.length))
      have HZL := kept (HLT.out x)
      unfold mkSl at hoi hen
      dsimp only at hoi hen
      have hrd := OwnK.rd (size := 1) hoi.1
      have hnum := OwnK.num (size := 1) hoi.1
      obtain ⟨A9, c9, -, hzn, hzm, -⟩ := OwnK.form (size := 1) hoi.1
      have hzl : (idx G x).length ≤ 9223372036854775807 := Nat.le_trans hzn hzm
      clear hzn hzm
      have HM1 := kept hlt
      have HM0 := kept hrg.left_eq
      clear hoi hkey hlx hRv hat HS hrg hg1 hs3 hlt e0 A9 c9
      generalize idx G x = zs at *
      subst hnum
      have CH := kept (fun W => hasPrefix_any x hd W)
      go_wp2_with fail
      refine (CH.out _).mono ?_
      rintro e w4 ⟨rfl, rfl⟩
      unfold hasP at HNX
      cases hph : Lib.hasPrefix x.data.toList hd.data.toList with
      | false =>
        have HS4 : Kept (WS w w4 ys.length (hitsL G hd (fun t => !(left (kS t) && !(kS t).sameKey (kS x))) ys.length)) := ⟨by rw [HNX.out, hph, if_neg Bool.false_ne_true]; exact HS3.out⟩
        clear HNX HS3 hph CH
        go_wp2_with fail
        go_roundw
        case rel => exact ⟨_, cnt1, hrg1, HS4⟩
        case measure => rw [hrg1.left_eq, HM0.out]; exact HM1.out
      | true =>
        have HFL : Kept (hitsL G hd (fun t => !(left (kS t) && !(kS t).sameKey (kS x))) ys.length = fillL ys.length (hit G hd fun t => !left (kS t)) zs) := ⟨by rw [HNX.out, hph, if_pos rfl]⟩
        have HS4 : Kept (WS w w4 ys.length (fillL ys.length (hit G hd fun t => !left (kS t)) (zs.take 0))) := ⟨by rw [List.take_zero, fill_start]; exact HS3.out⟩
        clear HNX HS3 hph CH
        go_wp2_with fail
        go_loopw [31] (fun i wr => ∃ j : Nat, j ≤ zs.length ∧ i = .int .i64 (j : Int) ∧ wr.ranges Tryz.prog 9 (rowElem (H := Unit) w B 3 .i64) b r G.length D (fun z => left z && !z.sameKey (kS x)) cnt1 ∧ Kept (WS w wr ys.length (fillL ys.length (hit G hd fun t => !left (kS t)) (zs.take j)))) (fun i _ => zs.length - (intOf i).toNat)
        case atStart => exact ⟨0, Nat.zero_le _, rfl, hrg1, HS4⟩
        case round =>
          clear HS4 hrg1
          obtain ⟨j, hj, rfl, hrg2, HS⟩ := hrel
          by_cases hjl : j < zs.length
          · obtain ⟨z, hz⟩ : ∃ z, zs[j]? = some z := ⟨_, List.getElem?_eq_getElem hjl⟩
            obtain ⟨i, rfl, hi⟩ := HZL.out z (List.mem_of_getElem? hz)
            have hjn : (j : Int) < (zs.length : Int) := by omega
            have hin : (i : Int) < (ys.length : Int) := by omega
            obtain ⟨b2, o2, rfl, hb2, hc2⟩ := hrd (by intro e; rw [List.map_eq_nil_iff.1 e] at hjl; exact absurd hjl (Nat.not_lt_zero _))
            have y0 := (HS.out.below.cell (p := ⟨b2, o2 + j, none⟩) hb2).trans (hc2 j (.int .i64 (i : Int)) (by rw [List.getElem?_map, hz]; rfl))
            obtain ⟨⟨u, c0⟩, f0, hs', hg'⟩ := HS.out.spot hi
            rw [fill_next hz hi] at hs'
            have HS5 := kept hs'
            have HR5 := kept (hrg2.kept hg' (fun e => by have := Option.some.inj e; omega) (fun e => by have := Option.some.inj e; omega))
            clear hc2 hz hs' hg' hrg2
            go_wp2_with fail
            go_roundw
            case rel => exact ⟨j + 1, by omega, by go_num, HR5.out, HS5⟩
            case measure => simp [intOf]; omega
          · obtain rfl : j = zs.length := by omega
            rw [List.take_length, ← HFL.out] at HS
            go_wp2_with fail
            go_roundw
            case rel => exact ⟨_, cnt1, hrg2, HS⟩
            case measure => rw [hrg2.left_eq, HM0.out]; exact HM1.out
end Go.Proofs.YtfkfpanhbanljaaGreatDoor.Find

/- Layer 45 (find): what Find's loops keep. -/
namespace Go.Proofs.YtfkfpanhbanljaaGreatDoor.Find
open Go.RowKit Go.Proofs.YtfkfpanhbanljaaGreatDoor.Mem Go.Proofs.YtfkfpanhbanljaaGreatDoor.Card Go.Proofs.YtfkfpanhbanljaaGreatDoor.Laid Go.Proofs.YtfkfpanhbanljaaGreatDoor.Fold Go.Proofs.YtfkfpanhbanljaaGreatDoor.Twin Go.Proofs.YtfkfpanhbanljaaGreatDoor.List44

section
variable {w wr w' : World} {A : Option Addr} {g c B b : Nat} {ys : List CardM}
theorem IxAt.next (h : IxAt w g A c ys B b) (hb : Below w.heap.size w w') : IxAt w' g A c ys B b := ⟨h.box.next hb, h.rd.next hb, h.map.next hb, h.ap⟩
end
/-- the row of counts, the row of heads -/
structure FS (w wr : World) (n : Nat) (cs : List Nat) (Ah : Option Addr) (ch bh : Nat) (hs : List ByteArray) : Prop where
  below : Below w.heap.size w wr
  own : Own wr w.heap.size 3 (.slice (some ⟨w.heap.size, 0, none⟩) n n) (UB cs)
  heads : strE.Own wr bh 9 (.slice Ah hs.length ch) hs
section
variable {w wr w' : World} {n i ch bh : Nat} {cs : List Nat} {Ah : Option Addr} {hs : List ByteArray}
theorem FS.next (h : FS w wr n cs Ah ch bh hs) (hb : Below wr.heap.size wr w') : FS w w' n cs Ah ch bh hs := ⟨h.below.trans (hb.mono h.below.size), h.own.next hb, h.heads.next hb⟩
theorem FS.len (h : FS w wr n cs Ah ch bh hs) : cs.length = n := by
  have := h.own.len
  unfold UB at this
  rw [List.length_map] at this
  exact this.symm
theorem FS.aside {size base m : Nat} {e : TypeId} {v : Value} {xs : List Value} (h : FS w wr n cs Ah ch bh hs) (ho : OwnK size wr base e v m xs) (he : e ≠ 3) (u : Value) : OwnK size (wr.setCell ⟨w.heap.size, i, none⟩ u) base e v m xs := by
  have h2 : OwnK 1 wr w.heap.size 3 (.slice (some ⟨w.heap.size, 0, none⟩) n n) (UB cs).length (UB cs) := h.own
  exact OwnK.upd ho ((Upd.refl (fun k => (Value.slice (some ⟨w.heap.size, 0, none⟩) n n).ownBlock = some k) wr).setCell (p := ⟨w.heap.size, i, none⟩) (.inl rfl) u) fun k hk e2 => own_apart ho h2 he k hk e2
theorem FS.spot (h : FS w wr n cs Ah ch bh hs) (hi : i < n) : wr.cell? ⟨w.heap.size, i, none⟩ = some (.int .i64 ((cs.getD i 0 : Nat) : Int)) ∧ wr.frozen? ⟨w.heap.size, i, none⟩ = false ∧ ∀ v : Nat, FS w (wr.setCell ⟨w.heap.size, i, none⟩ (.int .i64 (v : Int))) n (cs.set i v) Ah ch bh hs := by
  have hl := h.len
  obtain ⟨g, h1, h2, -, h4, h5, h6⟩ := OwnK.spot h.own (UB_get (up := cs) (i := i) (by omega))
  obtain rfl : w.heap.size = g := congrArg Addr.block (Option.some.inj h1)
  refine ⟨h4, h5, fun v => ⟨h.below.setCell (p := ⟨w.heap.size, i, none⟩) (Nat.le_refl _) _, ?_, h.aside h.heads (by decide) _⟩⟩
  have h7 := (h6 (.int .i64 (v : Int))).1
  rw [UB_set] at h7
  unfold Own
  have e : (UB (cs.set i v)).length = (UB cs).length := by simp [UB]
  rw [e]
  exact h7
theorem FS.turn {base : Nat} {v : Value} {l : List CardM} (h : FS w wr n cs Ah ch bh hs) (ho : cardE.Own wr base 31 v l) (hu : Upd (fun k => v.ownBlock = some k) wr w') (hb : w.heap.size ≤ base) : FS w w' n cs Ah ch bh hs := by
  have h2 : OwnK 1 wr w.heap.size 3 (.slice (some ⟨w.heap.size, 0, none⟩) n n) (UB cs).length (UB cs) := h.own
  refine ⟨h.below.trans (hu.below h.below.size fun k _ e => Nat.le_trans hb (OwnK.under ho k e).1), ?_, h.heads.upd hu fun k hk e => own_apart h.heads ho (by decide) k hk e⟩
  exact OwnK.upd h2 hu fun k hk e => own_apart h2 ho (by decide) k hk e
end
/-- how many of the first k heads a card has -/
def cntK (G : List (ByteArray × Nat)) (hs : List ByteArray) (k i : Nat) : Nat := ((hs.take k).filter fun h => hit G h (fun _ => true) i).length
def incL (n j : Nat) (c0 : Nat → Nat) (hh : Nat → Bool) : List Nat := (List.range n).map fun i => c0 i + if decide (i < j) && hh i then 1 else 0
theorem inc_get {n j i : Nat} {c0 : Nat → Nat} {hh : Nat → Bool} (hi : i < n) : (incL n j c0 hh).getD i 0 = c0 i + if decide (i < j) && hh i then 1 else 0 := by
  unfold incL
  simp [List.getD, hi]
theorem inc_yes {n j : Nat} {c0 : Nat → Nat} {hh : Nat → Bool} (_hj : j < n) (h : hh j = true) : (incL n j c0 hh).set j (c0 j + 1) = incL n (j + 1) c0 hh := by
  unfold incL
  refine List.ext_getElem (by simp) fun x hx1 hx2 => ?_
  rw [List.getElem_set, List.getElem_map, List.getElem_map, List.getElem_range]
  by_cases e : j = x
  · subst e
    simp [h]
  · rw [if_neg e]
    have e2 : decide (x < j) = decide (x < j + 1) := decide_eq_decide.2 (by omega)
    rw [e2]
theorem inc_no {n j : Nat} {c0 : Nat → Nat} {hh : Nat → Bool} (h : hh j = false) : incL n j c0 hh = incL n (j + 1) c0 hh := by
  unfold incL
  refine List.map_congr_left fun x _ => ?_
  by_cases e : x = j
  · subst e
    simp [h]
  · have e2 : decide (x < j) = decide (x < j + 1) := decide_eq_decide.2 (by omega)
    rw [e2]
theorem inc_start (n : Nat) (c0 : Nat → Nat) (hh : Nat → Bool) : incL n 0 c0 hh = (List.range n).map c0 := by
  unfold incL
  refine List.map_congr_left fun x _ => ?_
  simp
theorem cnt_next {G : List (ByteArray × Nat)} {hs : List ByteArray} {k : Nat} {h : ByteArray} (hh : hs[k]? = some h) (n : Nat) : incL n n (cntK G hs k) (hit G h fun _ => true) = (List.range n).map (cntK G hs (k + 1)) := by
  obtain ⟨h1, h2⟩ := List.getElem?_eq_some_iff.1 hh
  unfold incL
  refine List.map_congr_left fun x hx => ?_
  rw [decide_eq_true (List.mem_range.1 hx), Bool.true_and]
  unfold cntK
  rw [List.take_succ_eq_append_getElem h1, h2, List.filter_append, List.length_append]
  cases e : hit G h (fun _ => true) x with
  | true => simp [List.filter, e]
  | false => simp [List.filter, e]
theorem cnt_le {G : List (ByteArray × Nat)} {hs : List ByteArray} {k i : Nat} : cntK G hs k i ≤ hs.length := Nat.le_trans (List.length_filter_le _ _) (List.length_take_le' _ _)
/-- is a card found by these heads? -/
def fitsL (ls : List LineM) (hs : List ByteArray) : Bool := hs.all fun h => (wordsC ls).any fun x => hasP x h
theorem hit_is {ys : List CardM} {i : Nat} {y : CardM} (hy : ys[i]? = some y) (h : ByteArray) : hit (pairsK ys ys.length) h (fun _ => true) i = (wordsC y.ls).any fun x => hasP x h := by
  obtain ⟨h1, h2⟩ := List.getElem?_eq_some_iff.1 hy
  have e : ys.getD i ⟨0, none, [], 0⟩ = y := by simp [List.getD, hy]
  unfold hit pairsK
  rw [Bool.eq_iff_iff]
  simp only [List.any_eq_true, Bool.and_eq_true, decide_eq_true_eq, List.mem_flatMap, List.mem_range, List.mem_map]
  constructor
  · rintro ⟨p, ⟨k, hk, x, hx, rfl⟩, rfl, h3, -⟩
    rw [e] at hx
    exact ⟨x, hx, h3⟩
  · rintro ⟨x, hx, h3⟩
    exact ⟨(x, i), ⟨i, h1, x, by rw [e]; exact hx, rfl⟩, rfl, h3, trivial⟩
theorem cnt_all {ys : List CardM} {i : Nat} {y : CardM} (hy : ys[i]? = some y) (hs : List ByteArray) : (cntK (pairsK ys ys.length) hs hs.length i = hs.length) ↔ fitsL y.ls hs = true := by
  unfold cntK fitsL
  rw [List.take_length, List.all_eq_true]
  have e : (fun h => hit (pairsK ys ys.length) h (fun _ => true) i) = fun h => (wordsC y.ls).any fun x => hasP x h := funext fun h => hit_is hy h
  rw [e, List.length_filter_eq_length_iff]
end Go.Proofs.YtfkfpanhbanljaaGreatDoor.Find

/- Layer 45 (find): Find. -/
namespace Go.Proofs.YtfkfpanhbanljaaGreatDoor.Find
open Go.RowKit Go.Proofs.YtfkfpanhbanljaaGreatDoor.Mem Go.Proofs.YtfkfpanhbanljaaGreatDoor.Card Go.Proofs.YtfkfpanhbanljaaGreatDoor.Laid Go.Proofs.YtfkfpanhbanljaaGreatDoor.Fold Go.Proofs.YtfkfpanhbanljaaGreatDoor.Twin Go.Proofs.YtfkfpanhbanljaaGreatDoor.List44

/-- what is found -/
def foundL (ys : List CardM) (hs : List ByteArray) : List CardM := ys.filter fun y => fitsL y.ls hs
theorem found_next {ys : List CardM} {k : Nat} {y : CardM} (hy : ys[k]? = some y) (hs : List ByteArray) : foundL (ys.take (k + 1)) hs = foundL (ys.take k) hs ++ if fitsL y.ls hs = true then [y] else [] := by
  obtain ⟨h1, h2⟩ := List.getElem?_eq_some_iff.1 hy
  unfold foundL
  rw [List.take_succ_eq_append_getElem h1, h2, List.filter_append]
  cases e : fitsL y.ls hs with
  | true => simp [List.filter, e]
  | false => simp [List.filter, e]
/-- what Find asks of an index: its cards, and what 'with' tells -/
structure IxW (w : World) (g : Nat) (A : Option Addr) (c : Nat) (ys : List CardM) : Prop where
  lt : g < w.heap.size
  cell0 : w.cell? ⟨g, 0, none⟩ = some (.slice A ys.length c)
  rd : RdCards w w.heap.size A ys
  with_ : ∀ (W : World) (h : ByteArray), Below w.heap.size w W → Calls Tryz.prog 36 #[.pointer (some ⟨g, 0, none⟩), .string h] W fun e w' => e = .returned (.slice (some ⟨W.heap.size, 0, none⟩) ys.length ys.length) ∧ WS W w' ys.length (hitsL (pairsK ys ys.length) h (fun _ => true) ys.length)
theorem IxAt.w {w : World} {g : Nat} {A : Option Addr} {c : Nat} {ys : List CardM} {B b : Nat} (h : IxAt w g A c ys B b) (hn : ys.length ≤ 25) : IxW w g A c ys :=
  ⟨h.box.lt, h.box.cell (j := 0) rfl, h.rd, fun W hd hb => fwith_any g A c ys B b hd W (h.next hb) hn⟩
set_option maxRecDepth 100000 in
set_option maxHeartbeats 8000000 in
theorem ffindW_any (g : Nat) (A : Option Addr) (c : Nat) (ys : List CardM) (q : ByteArray) (w : World) (hx : IxW w g A c ys) (hn : ys.length ≤ 25) (hq : q.size ≤ 2000000) (hm : ML w) :
    Calls Tryz.prog 13 #[.pointer (some ⟨g, 0, none⟩), .string q] w (GivesF w ((foundL ys (wordsB q)).map CardM.p)) := by
  obtain ⟨w1, hmk, hown1, hb1⟩ := make_up w ys.length (by omega)
  have HX := kept hx
  have a0 := hx.cell0
  have CW := kept (words_any q w1 (by omega) (hm.next hb1))
  have HML := kept hm
  have hwl := words_few hq
  have HB1 := kept hb1
  have HO1 := kept hown1
  clear hx hown1 hb1 hm
  go_enter Tryz.func13, Tryz.ntmps13
  go_wp2_with fail
  refine CW.out.mono ?_
  rintro e w2 ⟨Ah, ch, rfl, hown, hch, hb2⟩
  obtain ⟨hs, hhs⟩ : ∃ hs, wordsB q = hs := ⟨_, rfl⟩
  rw [hhs] at hown hwl ⊢
  have HHS := kept hhs
  have HF0 : Kept (FS w w2 ys.length ((List.range ys.length).map (cntK (pairsK ys ys.length) hs 0)) Ah ch w1.heap.size hs) := ⟨⟨HB1.out.trans (hb2.mono HB1.out.size), by
    have e : (List.range ys.length).map (cntK (pairsK ys ys.length) hs 0) = List.replicate ys.length 0 := by
      refine List.ext_getElem (by simp) fun x h1 h2 => ?_
      have e0 : ∀ i, cntK (pairsK ys ys.length) hs 0 i = 0 := fun i => by
        unfold cntK
        rw [List.take_zero]; rfl
      rw [List.getElem_map, List.getElem_replicate, e0]
    rw [e]
    exact HO1.out.next hb2, hown⟩⟩
  clear hown hb2 CW HO1 HB1 hmk hhs
  generalize w1.heap.size = bh at *
  go_wp2_with fail
  go_loopw [26] (fun i wr => ∃ k : Nat, k ≤ hs.length ∧ i = .int .i64 (k : Int) ∧ Kept (FS w wr ys.length ((List.range ys.length).map (cntK (pairsK ys ys.length) hs k)) Ah ch bh hs)) (fun i _ => hs.length - (intOf i).toNat)
  case atStart => exact ⟨0, Nat.zero_le _, rfl, HF0⟩
  case round =>
    clear HF0
    obtain ⟨k, hk, rfl, HF⟩ := hrel
    by_cases hlt : k < hs.length
    · obtain ⟨h, hh⟩ : ∃ h, hs[k]? = some h := ⟨_, List.getElem?_eq_getElem hlt⟩
      have hkn : (k : Int) < (hs.length : Int) := by omega
      have hrz := strE_rd.1 HF.out.heads.rd
      obtain ⟨b2, o2, rfl, hb2, hc2⟩ := hrz (by intro e; rw [List.map_eq_nil_iff.1 e] at hlt; exact absurd hlt (Nat.not_lt_zero _))
      have y0 := hc2 k (.string h) (by unfold SB; rw [List.getElem?_map, hh]; rfl)
      have CW := kept (HX.out.with_ wr h HF.out.below)
      have HCN := kept (cnt_next (G := pairsK ys ys.length) hh ys.length)
      clear hrz hc2 hh
      go_wp2_with fail
      refine CW.out.mono ?_
      rintro e w3 ⟨rfl, hws⟩
      have HF3 : Kept (FS w w3 ys.length (incL ys.length 0 (cntK (pairsK ys ys.length) hs k) (hit (pairsK ys ys.length) h fun _ => true)) (some ⟨b2, o2, none⟩) ch bh hs) := ⟨by rw [inc_start]; exact HF.out.next hws.below⟩
      have HBS := kept hws.own
      have hwr : w.heap.size ≤ wr.heap.size := HF.out.below.size
      have hcl : ∀ i, cntK (pairsK ys ys.length) hs k i ≤ hs.length := fun i => cnt_le
      clear hws HF CW y0
      generalize wr.heap.size = bq at *
      generalize cntK (pairsK ys ys.length) hs k = c0 at *
      unfold hitsL at HBS
      generalize hit (pairsK ys ys.length) h (fun _ => true) = hv at *
      go_wp2_with fail
      go_loopw [34] (fun i wr => ∃ j : Nat, j ≤ ys.length ∧ i = .int .i64 (j : Int) ∧ Kept (Own wr bq 4 (.slice (some ⟨bq, 0, none⟩) ys.length ys.length) (BLs ((List.range ys.length).map hv))) ∧ Kept (FS w wr ys.length (incL ys.length j c0 hv) (some ⟨b2, o2, none⟩) ch bh hs)) (fun i _ => ys.length - (intOf i).toNat)
      case atStart => exact ⟨0, Nat.zero_le _, rfl, HBS, HF3⟩
      case round =>
        clear HF3 HBS
        obtain ⟨j, hj, rfl, HBS, HF⟩ := hrel
        by_cases hjl : j < ys.length
        · have hjn : (j : Int) < (ys.length : Int) := by omega
          have hu : (BLs ((List.range ys.length).map hv))[j]? = some (.bool (hv j)) := by simp [BLs, hjl]
          obtain ⟨g2, e2, -, -, z0, -, -⟩ := OwnK.spot HBS.out hu
          obtain rfl : bq = g2 := congrArg Addr.block (Option.some.inj e2)
          clear e2 hu
          cases hvj : hv j with
          | true =>
            rw [hvj] at z0
            obtain ⟨c1, f1, hset⟩ := HF.out.spot (i := j) hjl
            rw [inc_get hjl] at c1
            have e3 : (decide (j < j) && hv j) = false := by simp
            rw [e3, if_neg Bool.false_ne_true, Nat.add_zero] at c1
            have hc0 := hcl j
            have HF2 : Kept (FS w (wr.setCell ⟨w.heap.size, j, none⟩ (.int .i64 ((c0 j + 1 : Nat) : Int))) ys.length (incL ys.length (j + 1) c0 hv) (some ⟨b2, o2, none⟩) ch bh hs) := ⟨by rw [← inc_yes hjl hvj]; exact hset (c0 j + 1)⟩
            have HBS2 : Kept (Own (wr.setCell ⟨w.heap.size, j, none⟩ (.int .i64 ((c0 j + 1 : Nat) : Int))) bq 4 (.slice (some ⟨bq, 0, none⟩) ys.length ys.length) (BLs ((List.range ys.length).map hv))) := ⟨HF.out.aside HBS.out (by decide) _⟩
            have hci : IntKind.i64.wrap (((c0 j : Nat) : Int) + 1) = ((c0 j + 1 : Nat) : Int) := by rw [IntKind.wrap_i64]; omega
            rw [show ((c0 j + 1 : Nat) : Int) = ((c0 j : Nat) : Int) + 1 from rfl] at HF2 HBS2 hci
            clear hset HF HBS
            go_wp2_with fail
            go_roundw
            case rel => exact ⟨j + 1, by omega, by go_num, HBS2, HF2⟩
            case measure => simp [intOf]; omega
          | false =>
            rw [hvj] at z0
            have HF2 : Kept (FS w wr ys.length (incL ys.length (j + 1) c0 hv) (some ⟨b2, o2, none⟩) ch bh hs) := ⟨by rw [← inc_no hvj]; exact HF.out⟩
            clear HF
            go_wp2_with fail
            go_roundw
            case rel => exact ⟨j + 1, by omega, by go_num, HBS, HF2⟩
            case measure => simp [intOf]; omega
        · obtain rfl : j = ys.length := by omega
          rw [HCN.out] at HF
          clear HBS
          go_wp2_with fail
          go_roundw
          case rel => exact ⟨k + 1, by omega, by go_num, HF⟩
          case measure => simp [intOf]; omega
    · obtain rfl : k = hs.length := by omega
      have a0 := (HF.out.below.cell (p := ⟨g, 0, none⟩) HX.out.lt).trans a0
      go_wp2_with fail
      have HALL : Kept (∀ i y, ys[i]? = some y → (cntK (pairsK ys ys.length) hs hs.length i = hs.length ↔ fitsL y.ls hs = true)) := ⟨fun i y h => cnt_all h hs⟩
      have HF0 := HF
      clear HF a0
      generalize cntK (pairsK ys ys.length) hs hs.length = c0 at *
      go_loopw [11, 53] (fun s i wr => ∃ (k : Nat) (A2 : Option Addr) (ca : Nat) (zs : List CardM), k ≤ ys.length ∧ i = .int .i64 (k : Int) ∧ s = .slice A2 zs.length ca ∧ zs.length ≤ k ∧ Kept (zs.map CardM.p = (foundL (ys.take k) hs).map CardM.p) ∧ Kept (RowF wr w.heap.size A2 ca zs) ∧ Kept (FS w wr ys.length ((List.range ys.length).map c0) Ah ch bh hs)) (fun _ i _ => ys.length - (intOf i).toNat)
      case atStart => exact ⟨0, none, 0, [], Nat.zero_le _, rfl, rfl, Nat.le_refl _, ⟨rfl⟩, ⟨RowF.nil _ _⟩, HF0⟩
      case round =>
        clear HF0
        obtain ⟨k, A2, ca, zs, hk2, rfl, rfl, hzk, HP, HR, HF⟩ := hrel
        have HZK := kept hzk
        clear hzk
        by_cases hlt2 : k < ys.length
        · obtain ⟨⟨ycid, yX, yls, yc⟩, hy⟩ : ∃ y, ys[k]? = some y := ⟨_, List.getElem?_eq_getElem hlt2⟩
          obtain ⟨b1, o1, rfl, hbB, x0, x1, hyo⟩ := HX.out.rd.at_ hy
          have hkn : (k : Int) < (ys.length : Int) := by omega
          have x0 : wr.cell? ⟨b1, o1 + k * 2, none⟩ = some (.int .u64 (ycid : Int)) := (HF.out.below.cell (p := ⟨b1, o1 + k * 2, none⟩) hbB).trans x0
          have x1 : wr.cell? ⟨b1, o1 + k * 2 + 1, none⟩ = some (.slice yX yls.length yc) := (HF.out.below.cell (p := ⟨b1, o1 + k * 2 + 1, none⟩) hbB).trans x1
          have hbA : Below wr.heap.size wr (wr.alloc (.cells #[.int .u64 (ycid : Int), .slice yX yls.length yc] 31)) := (Below.refl _ _).alloc (Nat.le_refl _) _
          have HF2 := kept (HF.out.next hbA)
          have HR2 := kept (HR.out.next hbA)
          have HKB := kept (Blk.new wr [.int .u64 (ycid : Int), .slice yX yls.length yc] 31)
          have HNX := kept (found_next hy hs)
          have HFT : Kept (c0 k = hs.length ↔ fitsL yls hs = true) := ⟨HALL.out k _ hy⟩
          have CC := kept (copy_any ⟨ycid, yX, yls, yc⟩ (wr.alloc (.cells #[.int .u64 (ycid : Int), .slice yX yls.length yc] 31)) ((hyo.below HF2.out.below).more HF2.out.below.size))
          unfold CardM.val at CC
          dsimp only at CC HNX
          clear hbA hyo hy HR HF
          go_upto_region 19 with fail
          clear x0 x1
          generalize wr.alloc (.cells #[.int .u64 (ycid : Int), .slice yX yls.length yc] 31) = w2 at *
          generalize wr.heap.size = gx at *
          have c1 := (HF2.out.spot (i := k) hlt2).1
          rw [show ((List.range ys.length).map c0).getD k 0 = c0 k by simp [List.getD, hlt2]] at c1
          by_cases hfit : c0 k = hs.length
          · have he : ((c0 k : Nat) : Int) = (hs.length : Int) := by omega
            have heb : (((c0 k : Nat) : Int) == (hs.length : Int)) = true := beq_iff_eq.2 he
            have HN2 : Kept (foundL (ys.take (k + 1)) hs = foundL (ys.take k) hs ++ [⟨ycid, yX, yls, yc⟩]) := ⟨by rw [HNX.out, if_pos (HFT.out.1 hfit)]⟩
            have p0 := HKB.out.cell (j := 0) rfl
            have p1 := HKB.out.cell (j := 1) rfl
            clear HNX HFT
            rw [he] at c1
            clear he heb hfit
            go_wp2_with fail
            refine CC.out.mono ?_
            rintro e w3 ⟨⟨zcid, zX, zls, zc⟩, rfl, hzp, hzf, hb3⟩
            have hbA : Below w3.heap.size w3 (w3.alloc (.cells #[.int .u64 (zcid : Int), .slice zX zls.length zc] 31)) := (Below.refl _ _).alloc (Nat.le_refl _) _
            have HR4 := kept ((HR2.out.next hb3).next hbA)
            have HF4 := kept ((HF2.out.next hb3).next hbA)
            have HZF := kept (CardM.Fresh.below (hzf.mono HF2.out.below.size) hbA (Nat.le_refl _))
            have HZP := kept hzp
            clear hb3 hbA hzf hzp CC p0 p1 c1 HKB HF2 HR2
            have hrn : cardE.Rd (w3.alloc (.cells #[.int .u64 (zcid : Int), .slice zX zls.length zc] 31)) (w3.heap.size + 1) (some ⟨w3.heap.size, 0, none⟩) [⟨zcid, zX, zls, zc⟩] := Mem.Rd.new w3 [.int .u64 (zcid : Int), .slice zX zls.length zc] 31
            have hz : (zs.length + [(⟨zcid, zX, zls, zc⟩ : CardM)].length) * 32 ≤ 140737488355328 := by have := HZK.out; simp; omega
            have hbase := HF4.out.below.size
            have hoB := HR4.out.1
            unfold CardM.val
            dsimp only
            go_wp2_with (at_builtin; refine wpl_appEU _ cardE rfl (.tmp 65) (.tmp 68) 22 rfl w.heap.size 31 Tryz.underlying22 Chg.card_info rfl _ zs rfl hoB _ _ _ _ [⟨zcid, zX, zls, zc⟩] rfl rfl hrn hz (by decide) hbase ?_; intro A9 c9 w9 r9 hr9 hown9 hu9 hx9)
            have HR9 := kept (HR4.out.app HZF.out hr9.out hown9 hu9)
            have HF9 := kept (HF4.out.turn hoB (hu9 _ fun _ e => e) (Nat.le_refl _))
            have HP9 : Kept (r9.map CardM.p = (foundL (ys.take (k + 1)) hs).map CardM.p) := ⟨by rw [hr9.out, List.map_append, HP.out, HN2.out, List.map_append]; simp only [List.map_cons, List.map_nil]; rw [HZP.out]⟩
            have HL9 : Kept (r9.length ≤ k + 1) := ⟨by have := HZK.out; rw [hr9.out, List.length_append, List.length_singleton]; omega⟩
            clear hr9 hown9 hu9 hx9 hrn hz hbase hoB HR4 HF4 HP HN2
            go_wp2_with fail
            go_roundw
            case rel => exact ⟨k + 1, A9, c9, r9, by omega, by go_num, rfl, HL9.out, HP9, HR9, HF9⟩
            case measure => simp [intOf]; omega
          · have he : ¬ ((c0 k : Nat) : Int) = (hs.length : Int) := by omega
            have heb : (((c0 k : Nat) : Int) == (hs.length : Int)) = false := beq_eq_false_iff_ne.2 he
            have HP9 : Kept (zs.map CardM.p = (foundL (ys.take (k + 1)) hs).map CardM.p) := ⟨by rw [HNX.out, if_neg (fun h => hfit (HFT.out.2 h)), List.append_nil]; exact HP.out⟩
            have HL9 : Kept (zs.length ≤ k + 1) := ⟨Nat.le_succ_of_le HZK.out⟩
            clear HNX HFT HP CC
            go_wp2_with fail
            go_roundw
            case rel => exact ⟨k + 1, A2, ca, zs, by omega, by go_num, rfl, HL9.out, HP9, HR2, HF2⟩
            case measure => simp [intOf]; omega
        · obtain rfl : k = ys.length := by omega
          have HG := kept (givesF (w := w) (ps := (foundL ys hs).map CardM.p) (by rw [HP.out, List.take_length]) HR.out HF.out.below)
          clear HP HR HF HZK
          go_wp2_with fail
          go_ret
          rw [HHS.out]
          exact HG.out
theorem ffind_any (g : Nat) (A : Option Addr) (c : Nat) (ys : List CardM) (B b : Nat) (q : ByteArray) (w : World) (hx : IxAt w g A c ys B b) (hn : ys.length ≤ 25) (hq : q.size ≤ 2000000) (hm : ML w) :
    Calls Tryz.prog 13 #[.pointer (some ⟨g, 0, none⟩), .string q] w (GivesF w ((foundL ys (wordsB q)).map CardM.p)) := ffindW_any g A c ys q w (hx.w hn) hn hq hm
end Go.Proofs.YtfkfpanhbanljaaGreatDoor.Find

/- Layer 45 (find): Match. -/
namespace Go.Proofs.YtfkfpanhbanljaaGreatDoor.Find
open Go.RowKit Go.Proofs.YtfkfpanhbanljaaGreatDoor.Mem Go.Proofs.YtfkfpanhbanljaaGreatDoor.Card Go.Proofs.YtfkfpanhbanljaaGreatDoor.Laid Go.Proofs.YtfkfpanhbanljaaGreatDoor.Fold Go.Proofs.YtfkfpanhbanljaaGreatDoor.Twin Go.Proofs.YtfkfpanhbanljaaGreatDoor.List44

theorem mclo_any (x h : ByteArray) (g : Nat) (w : World) (hc : w.cell? ⟨g, 0, none⟩ = some (.string h)) :
    Calls Tryz.prog 30 #[.string x, .pointer (some ⟨g, 0, none⟩)] w fun e w' => e = .returned (.bool (hasP x h)) ∧ w = w' := by
  have CP := kept (fun W => hasPrefix_any x h W)
  go_enter Tryz.func30, Tryz.ntmps30
  go_wp2_with fail
  refine (CP.out _).mono ?_
  rintro e w1 ⟨rfl, rfl⟩
  go_wp2_with fail
  go_ret
  exact ⟨rfl, rfl⟩
theorem midx_any (A : Option Addr) (c : Nat) (l : List ByteArray) (h : ByteArray) (g : Nat) (w : World) (hr : strE.Rd w w.heap.size A l) (hc : w.cell? ⟨g, 0, none⟩ = some (.string h)) (hsz : l.length ≤ 9223372036854775807) :
    Calls Tryz.prog 70 #[.slice A l.length c, .func (.func 30) #[] #[.pointer (some ⟨g, 0, none⟩)]] w fun e w' => (∃ r : Int, e = .returned (.int .i64 r) ∧ decide (0 ≤ r) = l.any fun x => hasP x h) ∧ w = w' := by
  have HC := kept hc
  have HR := kept hr
  clear hc hr
  go_enter Tryz.func70, Tryz.ntmps70
  go_wp2
  go_loopw [8] (fun i wr => ∃ k : Nat, k ≤ l.length ∧ i = .int .i64 (k : Int) ∧ Kept ((l.take k).any (fun x => hasP x h) = false) ∧ w = wr) (fun i _ => l.length - (intOf i).toNat)
  case atStart => exact ⟨0, Nat.zero_le _, rfl, ⟨rfl⟩, rfl⟩
  case round =>
    obtain ⟨k, hk, rfl, HN, rfl⟩ := hrel
    by_cases hlt : k < l.length
    · obtain ⟨x, hx⟩ : ∃ x, l[k]? = some x := ⟨_, List.getElem?_eq_getElem hlt⟩
      have hkn : (k : Int) < (l.length : Int) := by omega
      obtain ⟨b2, o2, rfl, hb2, hc2⟩ := (strE_rd.1 HR.out) (by intro e; rw [List.map_eq_nil_iff.1 e] at hlt; exact absurd hlt (Nat.not_lt_zero _))
      have y0 := hc2 k (.string x) (by unfold SB; rw [List.getElem?_map, hx]; rfl)
      have hcc := kept (mclo_any x h g w HC.out)
      have HT : Kept ((l.take (k + 1)).any (fun x => hasP x h) = hasP x h) := ⟨by
        obtain ⟨h1, h2⟩ := List.getElem?_eq_some_iff.1 hx
        rw [List.take_succ_eq_append_getElem h1, h2, List.any_append, HN.out]
        simp⟩
      have HIN := kept (List.mem_of_getElem? hx)
      clear hc2 hx
      cases hp : hasP x h with
      | true =>
        rw [hp] at hcc
        have HA : Kept ((l.any fun x => hasP x h) = true) := ⟨List.any_eq_true.2 ⟨x, HIN.out, hp⟩⟩
        clear HT HIN hp
        go_wp2_with fail
        refine hcc.out.mono ?_
        rintro e w1 ⟨rfl, rfl⟩
        go_wp2_with fail
        go_ret
        exact ⟨⟨_, rfl, by rw [HA.out]; exact decide_eq_true (by omega)⟩, rfl⟩
      | false =>
        rw [hp] at hcc HT
        clear hp HIN
        go_wp2_with fail
        refine hcc.out.mono ?_
        rintro e w1 ⟨rfl, rfl⟩
        go_wp2_with fail
        go_roundw
        case rel => exact ⟨k + 1, by omega, by go_num, HT, trivial⟩
        case measure => simp [intOf]; omega
    · obtain rfl : k = l.length := by omega
      rw [List.take_length] at HN
      go_wp2_with fail
      go_ret
      exact ⟨⟨-1, rfl, by rw [HN.out]; rfl⟩, rfl⟩
theorem mcon_any (A : Option Addr) (c : Nat) (l : List ByteArray) (h : ByteArray) (g : Nat) (w : World) (hr : strE.Rd w w.heap.size A l) (hc : w.cell? ⟨g, 0, none⟩ = some (.string h)) (hsz : l.length ≤ 9223372036854775807) :
    Calls Tryz.prog 29 #[.slice A l.length c, .func (.func 30) #[] #[.pointer (some ⟨g, 0, none⟩)]] w fun e w' => e = .returned (.bool (l.any fun x => hasP x h)) ∧ w = w' := by
  have CP := kept (midx_any A c l h g w hr hc hsz)
  clear hr hc
  go_enter Tryz.func29, Tryz.ntmps29
  go_wp2_with fail
  refine CP.out.mono ?_
  rintro e w1 ⟨⟨r, rfl, hd⟩, rfl⟩
  have HD := kept hd
  clear hd
  go_wp2_with fail
  go_ret
  exact ⟨by rw [← HD.out]; rfl, rfl⟩
set_option maxRecDepth 100000 in
set_option maxHeartbeats 4000000 in
theorem fmatch_any (x : CardM) (q : ByteArray) (w : World) (hx : x.Ok w w.heap.size) (ht : Tame x.ls) (hq : q.size ≤ 2000000) (hm : ML w) :
    Calls Tryz.prog 10 #[x.val, .string q] w fun e w' => e = .returned (.bool (fitsL x.ls (wordsB q))) ∧ Below w.heap.size w w' := by
  obtain ⟨xcid, xX, xls, xc⟩ := x
  have hb0 : Below w.heap.size w (w.alloc (.cells #[.int .u64 (xcid : Int), .slice xX xls.length xc] 31)) := (Below.refl _ _).alloc (Nat.le_refl _) _
  have CW := kept (fwords_any ⟨xcid, xX, xls, xc⟩ _ (hx.next hb0) ht (hm.next hb0))
  have HB0 := kept hb0
  have HML := kept hm
  have HTM : Kept (Tame xls) := ⟨ht⟩
  have hwq := words_few hq
  clear hb0 hx ht hm
  unfold CardM.val at CW ⊢
  dsimp only at CW ⊢
  go_enter Tryz.func10, Tryz.ntmps10
  go_wp2_with fail
  refine CW.out.mono ?_
  rintro e w1 ⟨Aw, cw, rfl, hown, hcw, hb1⟩
  have HB1 := kept (HB0.out.trans (hb1.mono HB0.out.size))
  have CQ := kept (words_any q w1 (by omega) (HML.out.next HB1.out))
  have HW1 := kept hown
  have hwl : (wordsC xls).length ≤ 264000132 := by have := wordsC_few HTM.out xls.length; rwa [List.take_length] at this
  clear hown hb1 CW HB0
  go_wp2_with fail
  refine CQ.out.mono ?_
  rintro e w2 ⟨Ah, ch, rfl, hown, hch, hb2⟩
  have HB2 := kept (HB1.out.trans (hb2.mono HB1.out.size))
  have HW2 := kept (HW1.out.next hb2)
  have HH2 := kept hown
  clear hown hb2 CQ HB1 HW1 HML
  obtain ⟨ws, hws⟩ : ∃ ws, wordsC xls = ws := ⟨_, rfl⟩
  obtain ⟨hs, hhs⟩ : ∃ hs, wordsB q = hs := ⟨_, rfl⟩
  have HFIN : Kept (fitsL xls (wordsB q) = hs.all fun h => ws.any fun x => hasP x h) := ⟨by rw [← hws, ← hhs]; rfl⟩
  rw [hws] at HW2 hwl ⊢
  rw [hhs] at HH2 hwq ⊢
  clear hws hhs
  generalize (w.alloc (.cells #[.int .u64 (xcid : Int), .slice xX xls.length xc] 31)).heap.size = bw at *
  generalize w1.heap.size = bh at *
  go_wp2_with fail
  go_loopw [13] (fun i wr => ∃ k : Nat, k ≤ hs.length ∧ i = .int .i64 (k : Int) ∧ Kept ((hs.take k).all (fun h => ws.any fun x => hasP x h) = true) ∧ Kept (Below w.heap.size w wr) ∧ Kept (strE.Own wr bw 9 (.slice Aw ws.length cw) ws) ∧ Kept (strE.Own wr bh 9 (.slice Ah hs.length ch) hs)) (fun i _ => hs.length - (intOf i).toNat)
  case atStart => exact ⟨0, Nat.zero_le _, rfl, ⟨rfl⟩, HB2, HW2, HH2⟩
  case round =>
    clear HB2 HW2 HH2
    obtain ⟨k, hk, rfl, HA, HB, HW, HH⟩ := hrel
    by_cases hlt : k < hs.length
    · obtain ⟨h, hh⟩ : ∃ h, hs[k]? = some h := ⟨_, List.getElem?_eq_getElem hlt⟩
      have hkn : (k : Int) < (hs.length : Int) := by omega
      obtain ⟨b2, o2, rfl, hb2, hc2⟩ := (strE_rd.1 HH.out.rd) (by intro e; rw [List.map_eq_nil_iff.1 e] at hlt; exact absurd hlt (Nat.not_lt_zero _))
      have y0 := hc2 k (.string h) (by unfold SB; rw [List.getElem?_map, hh]; rfl)
      have hbA : Below wr.heap.size wr (wr.alloc (.cells #[.string h] 9)) := (Below.refl _ _).alloc (Nat.le_refl _) _
      have HB3 := kept (HB.out.trans (hbA.mono HB.out.size))
      have HW3 := kept (HW.out.next hbA)
      have HH3 := kept (HH.out.next hbA)
      have HKB := Blk.new wr [.string h] 9
      have CC := kept (mcon_any Aw cw ws h wr.heap.size _ HW3.out.rd (HKB.cell (j := 0) rfl) (by omega))
      have HT : Kept ((hs.take (k + 1)).all (fun h => ws.any fun x => hasP x h) = ws.any fun x => hasP x h) := ⟨by
        obtain ⟨h1, h2⟩ := List.getElem?_eq_some_iff.1 hh
        rw [List.take_succ_eq_append_getElem h1, h2, List.all_append, HA.out]
        simp⟩
      have HIN := kept (List.mem_of_getElem? hh)
      clear hc2 hh hbA HB HW HH HKB
      generalize hq9 : (ws.any fun x => hasP x h) = d at CC HT
      have HQ9 := kept hq9
      clear hq9
      go_wp2_with fail
      refine CC.out.mono ?_
      rintro e w3 ⟨rfl, rfl⟩
      cases d with
      | true =>
        go_wp2_with fail
        go_roundw
        case rel => exact ⟨k + 1, by omega, by go_num, HT, HB3, HW3, HH3⟩
        case measure => simp [intOf]; omega
      | false =>
        have HF : Kept ((hs.all fun h => ws.any fun x => hasP x h) = false) := ⟨List.all_eq_false.2 ⟨h, HIN.out, by rw [HQ9.out]; decide⟩⟩
        go_wp2_with fail
        go_ret
        exact ⟨by rw [HFIN.out, HF.out]; rfl, HB3.out⟩
    · obtain rfl : k = hs.length := by omega
      rw [List.take_length] at HA
      go_wp2_with fail
      go_ret
      exact ⟨by rw [HFIN.out, HA.out]; rfl, HB.out⟩
end Go.Proofs.YtfkfpanhbanljaaGreatDoor.Find
