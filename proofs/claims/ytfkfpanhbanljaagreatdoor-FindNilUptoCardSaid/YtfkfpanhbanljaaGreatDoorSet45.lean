import Derived.Test.YtfkfpanhbanljaaGreatDoorFoldRef
import Derived.Test.YtfkfpanhbanljaaGreatDoorLaid
import Derived.Lib.SliceRun
/- The walks of layer 43, continued: the program's Words, Fold, Begins. -/
namespace Go.Proofs.YtfkfpanhbanljaaGreatDoor.Fold
open Go.RowKit Go.Proofs.YtfkfpanhbanljaaGreatDoor.Mem Go.Proofs.YtfkfpanhbanljaaGreatDoor.Card Go.Proofs.YtfkfpanhbanljaaGreatDoor.Laid Go.Lib Go.Sort

/-! a block behind which a byte is marked (what a conversion to bytes makes) -/
def MBlk (w : World) (g : Nat) (cs : List Value) (t : TypeId) : Prop := ∃ n, w.heap[g]? = some (.cells cs.toArray t (n, n + 1)) ∧ cs.length ≤ n
section
variable {w w' : World} {g : Nat} {cs : List Value} {t : TypeId}
theorem MBlk.lt (h : MBlk w g cs t) : g < w.heap.size := by
  obtain ⟨n, h, _⟩ := h
  exact (Array.getElem?_eq_some_iff.1 h).1
theorem MBlk.cell (h : MBlk w g cs t) {j : Nat} {u : Value} (hj : cs[j]? = some u) : w.cell? ⟨g, j, none⟩ = some u := by
  obtain ⟨n, h, _⟩ := h
  rw [cell_of_row w g j cs.toArray t (n, n + 1) h]; simpa using hj
theorem MBlk.frozen (h : MBlk w g cs t) {j : Nat} (hj : j < cs.length) : w.frozen? ⟨g, j, none⟩ = false := by
  obtain ⟨n, h, hn⟩ := h
  simp [World.frozen?, h]
  omega
theorem MBlk.set (h : MBlk w g cs t) (j : Nat) (u : Value) : MBlk (w.setCell ⟨g, j, none⟩ u) g (cs.set j u) t := by
  obtain ⟨n, h, hn⟩ := h
  refine ⟨n, ?_, by simpa using hn⟩
  simp only [World.setCell, Array.getElem?_modify, if_pos trivial, h, Option.map_some]
  simp
theorem MBlk.rd (h : MBlk w g cs t) : Rd w w.heap.size (some ⟨g, 0, none⟩) cs := fun _ => ⟨g, 0, rfl, h.lt, fun j u hu => by rw [Nat.zero_add]; exact h.cell hu⟩
end
/-- []byte(s): new bytes of one's own -/
theorem str_mblk (w : World) (s : ByteArray) : ∃ c w' pad, (convert 9 83 (.string s)).run Tryz.prog w = .ok (.slice (some ⟨w.heap.size, 0, none⟩) s.size c) w' ∧
    MBlk w' w.heap.size (BB (sB s) ++ pad) 5 ∧ Below w.heap.size w w' := by
  have hz := Lib.bytesWorld_size w 5 s
  refine ⟨_, _, List.replicate (grownCap w s.size 0 5 - s.size) (.int .u8 0), Lib.run_convert_string_bytes (P := Tryz.prog) w 9 83 5 s Tryz.underlying9 Tryz.underlying83 Tryz.underlying5, ?_, ⟨by simp [Lib.bytesWorld, World.freeze, World.alloc, World.drew, -World.alloc_eq, -World.drew_eq], by simp [Lib.bytesWorld, World.freeze, World.alloc, World.drew, -World.alloc_eq, -World.drew_eq], by simp [Lib.bytesWorld, World.freeze, World.alloc, World.drew, -World.alloc_eq, -World.drew_eq], by omega, fun k hk => Lib.bytesWorld_at_old w 5 s k hk⟩⟩
  have hc : (Lib.bytesCells w 5 s) = (BB (sB s) ++ List.replicate (grownCap w s.size 0 5 - s.size) (Value.int .u8 0)).toArray := by
    unfold Lib.bytesCells BB sB
    apply Array.ext'
    simp
  have hn := Lib.bytesWorld_at_new w 5 s
  rw [hc] at hn
  exact ⟨_, hn, by simp⟩
/-- the row at work: its first k bytes folded -/
def row (l : List Nat) (k : Nat) : List Nat := (l.take k).map let1 ++ l.drop k
theorem row_length (l : List Nat) (k : Nat) (hk : k ≤ l.length) : (row l k).length = l.length := by unfold row; simp; omega
theorem row_get {l : List Nat} {k : Nat} (hk : k < l.length) : (row l k)[k]? = some (l.getD k 0) := by
  unfold row
  rw [List.getElem?_append_right (by simp; omega)]
  simp [List.getElem?_eq_getElem hk, Nat.min_eq_left (Nat.le_of_lt hk)]
theorem row_set {l : List Nat} {k : Nat} (hk : k < l.length) : (row l k).set k (let1 (l.getD k 0)) = row l (k + 1) := by
  unfold row
  have h1 : ((l.take k).map let1).length = k := by simp; omega
  rw [List.set_append_right _ _ (by omega), h1, Nat.sub_self, List.drop_eq_getElem_cons hk, List.set_cons_zero, List.take_succ_eq_append_getElem hk, List.map_append, List.append_assoc]
  simp [List.getElem?_eq_getElem hk]
theorem row_end (l : List Nat) : row l l.length = l.map let1 := by unfold row; simp
theorem strB_row (s : ByteArray) : strB ((sB s).map let1) = bOf (s.data.toList.map letter) := by
  unfold strB sB bOf
  congr 1
  congr 1
  simp only [List.map_map]
  rfl
/-! what DeleteFunc leaves -/
theorem putRow_block {α : Type} [Inhabited α] (enc : α → Value) {w : World} {g : Nat} {cs : Array Value} {t : TypeId} {fr : Nat × Nat} (q : Nat) (d : Array α) (h : w.heap[g]? = some (.cells cs t fr)) (hd : d.size = cs.size) :
    (putRow enc (Sort.ahead w q) g 0 d).heap[g]? = some (.cells (d.map enc) t fr) := by
  have h' : (Sort.ahead w q).heap[g]? = some (.cells cs t fr) := h
  simp only [putRow, mapBlock, Array.getElem?_modify, if_pos trivial, h', Option.map_some, onCells]
  congr 2
  apply Array.ext
  · simp [putCells, hd]
  · intro i h1 h2
    simp [putCells] at h1 h2 ⊢
    rw [if_pos (by omega)]
    simp [getElem!_pos d i h2]
theorem putRow_below {α : Type} [Inhabited α] (enc : α → Value) {B : Nat} {w : World} {g : Nat} (q : Nat) (d : Array α) (hg : B ≤ g) : Below B w (putRow enc (Sort.ahead w q) g 0 d) := by
  refine ⟨rfl, rfl, rfl, by simp [Sort.ahead], fun k hk => ?_⟩
  have : (Sort.ahead w q).heap[k]? = w.heap[k]? := rfl
  simp only [putRow, mapBlock, Array.getElem?_modify, if_neg (show ¬ g = k by omega), this]
theorem nul_any (x : ByteArray) (W : World) : FnGives Tryz.prog 69 #[] #[.string x] (.bool (decide (x = ByteArray.empty))) W := by
  show Calls Tryz.prog 69 #[.string x] W _
  have hb : (x.toList == ([] : List UInt8)) = decide (x = ByteArray.empty) := by
    have := str_beq x ByteArray.empty
    rw [← this, show ByteArray.empty.toList = [] from bOf_toList []]
  go_enter Tryz.func69, Tryz.ntmps69
  go_wp2
  go_ret
  exact ⟨rfl, 0, rfl⟩
theorem splitB_words (s : ByteArray) : ((Lib.splitB ⟨#[32]⟩ 0 (Lib.countB (bOf (s.data.toList.map letter)) ⟨#[32]⟩) (bOf (s.data.toList.map letter))).filter fun x => !decide (x = ByteArray.empty)) = wordsB s := by
  have h := splitB_data ⟨#[32]⟩ 0 (Lib.countB (bOf (s.data.toList.map letter)) ⟨#[32]⟩) (bOf (s.data.toList.map letter))
  rw [data_bOf, show (⟨#[32]⟩ : ByteArray).data.toList = [32] from rfl] at h
  have h2 : Lib.countB (bOf (s.data.toList.map letter)) ⟨#[32]⟩ = count (s.data.toList.map letter) [32] := by
    show count (bOf _).data.toList _ = _
    rw [data_bOf]
  rw [h2] at h ⊢
  rw [splitK_splitS] at h
  generalize Lib.splitB ⟨#[32]⟩ 0 (count (s.data.toList.map letter) [32]) (bOf (s.data.toList.map letter)) = X at *
  have e : X = (splitS (s.data.toList.map letter)).map bOf := by
    rw [← h, List.map_map]
    exact (List.map_id X).symm.trans (List.map_congr_left fun x _ => (bOf_data x).symm)
  unfold wordsB words
  rw [e, List.filter_map]
  congr 1
  apply List.filter_congr
  intro x _
  have : (bOf x = ByteArray.empty) ↔ x = [] := ⟨fun h => bOf_inj (h.trans rfl), fun h => by rw [h]; rfl⟩
  cases x with
  | nil => simp [full, this]
  | cons c x => simp [full, this]
theorem words_any (s : ByteArray) (w : World) (hs : s.size ≤ 4294967000) (hm : ML w) : Calls Tryz.prog 28 #[.string s] w (strE.Gives 9 w (wordsB s)) := by
  have HL := sB_length s
  have HA := sB_all s
  obtain ⟨c0, w0, pad, hcv, hM0, hb0⟩ := str_mblk w s
  have HS := kept (strB_row s)
  have HG := kept (splitB_words s)
  have hrl0 : row (sB s) 0 = sB s := by unfold row; simp
  rw [← hrl0] at hM0
  have HE := kept (row_end (sB s))
  have hMX := kept (fun (W : World) (h : Below w.heap.size w W) => hm.next h)
  clear hrl0 hm
  generalize sB s = L at *
  have HL2 := kept HL
  go_enter Tryz.func28, Tryz.ntmps28
  go_wp2
  clear hcv
  go_loopw [4, 5, 10] (fun x y i wr => ∃ k : Nat, k ≤ s.size ∧ i = .int .i64 (k : Int) ∧ MBlk wr w.heap.size (BB (row L k) ++ pad) 5 ∧ Below w.heap.size w wr) (fun _ _ i _ => s.size - (intOf i).toNat)
  case atStart => exact ⟨0, Nat.zero_le _, rfl, hM0, hb0⟩
  case round =>
    obtain ⟨k, hk, rfl, hM, hbw⟩ := hrel
    by_cases hlt : k < s.size
    · have hkL : k < L.length := by rw [HL2.out]; exact hlt
      have hcell : wr.cell? ⟨w.heap.size, k, none⟩ = some (.int .u8 (L.getD k 0 : Int)) := hM.cell (by
        rw [List.getElem?_append_left (by rw [BB_length, row_length _ _ (Nat.le_of_lt hkL)]; exact hkL), BB_get _ _ (by rw [row_length _ _ (Nat.le_of_lt hkL)]; exact hkL)]
        simp [List.getD, row_get hkL])
      have hfz : wr.frozen? ⟨w.heap.size, k, none⟩ = false := hM.frozen (by rw [List.length_append, BB_length, row_length _ _ (Nat.le_of_lt hkL)]; omega)
      have hv : L.getD k 0 < 256 := HA _ (by simp [List.getD, List.getElem?_eq_getElem hkL])
      have hst := hM.set k (.int .u8 (let1 (L.getD k 0) : Int))
      have hst2 : BB (row L (k + 1)) ++ pad = (BB (row L k) ++ pad).set k (.int .u8 (let1 (L.getD k 0) : Int)) := by
        rw [List.set_append_left _ _ (by rw [BB_length, row_length _ _ (Nat.le_of_lt hkL)]; exact hkL), ← row_set hkL]
        unfold BB
        rw [List.map_set]
      rw [← hst2] at hst
      have hbs := hbw.setCell (p := ⟨w.heap.size, k, none⟩) (Nat.le_refl _) (.int .u8 (let1 (L.getD k 0) : Int))
      have hpl := hM.lt
      clear hst2 hM
      generalize L.getD k 0 = v at *
      go_wp2_with fail
      refine (letter_any v _ hv).mono ?_
      rintro e w' ⟨rfl, rfl⟩
      generalize let1 v = v2 at *
      go_wp2_with fail
      go_roundw
      case rel => exact ⟨k + 1, by omega, by go_num, hst, hbs⟩
      case measure => simp [intOf]; omega
    · obtain rfl : k = L.length := by have := HL2.out; omega
      have HE2 := HE.out
      have hrd := (hM.rd.take L.length)
      rw [List.take_append_of_le_length (by rw [BB_length, HE2]; simp), List.take_of_length_le (by rw [BB_length, HE2]; simp), HE2] at hrd
      have hcs := run_str wr _ _ s.size c0 _ (by rw [List.length_map]; exact HL2.out.symm) hrd
      rw [HS.out] at hcs
      have hmr := hMX.out _ hbw
      have hms : (bOf (s.data.toList.map letter)).size < 4294967281 := by rw [bOf_size, List.length_map]; simp; omega
      have CS := kept (split_any (bOf (s.data.toList.map letter)) ⟨#[32]⟩ wr hmr hms (by decide))
      have hHG := HG.out
      have hcnt : (Lib.splitB ⟨#[32]⟩ 0 (Lib.countB (bOf (s.data.toList.map letter)) ⟨#[32]⟩) (bOf (s.data.toList.map letter))).length = Lib.countB (bOf (s.data.toList.map letter)) ⟨#[32]⟩ + 1 := splitB_all ⟨#[32]⟩ (by decide) 0 _ _ rfl
      have hcle := countB_le ⟨#[32]⟩ (by decide) _ (bOf (s.data.toList.map letter)) (Nat.le_refl _)
      clear hM hrd HE2 HE hMX HA HL HS
      generalize bOf (s.data.toList.map letter) = s2 at *
      generalize Lib.countB s2 ⟨#[32]⟩ = n at *
      generalize Lib.splitB ⟨#[32]⟩ 0 n s2 = X at *
      have hblk : (wr.alloc (.cells (X.map Value.string).toArray 9)).heap[wr.heap.size]? = some (.cells (X.map Value.string).toArray 9 (0, 0)) := heap_alloc_new wr _
      generalize hW1 : wr.alloc (.cells (X.map Value.string).toArray 9) = W1 at *
      have hb1 : Below w.heap.size w W1 := by rw [← hW1]; exact hbw.alloc hbw.size _
      have hsz1 : wr.heap.size < W1.heap.size := by rw [← hW1]; simp
      have hH : Holds Value.string W1 wr.heap.size 0 X.toArray := fun j hj => ⟨by
        rw [Nat.zero_add, cell_of_row W1 _ j _ _ _ hblk]
        simp at hj
        simp [hj], by simp [World.frozen?, hblk]⟩
      have CD := kept (deleteFunc_any Value.string (fun _ => rfl) (fun x => decide (x = ByteArray.empty)) 69 #[] (enters_of Tryz.func69 (by kernel_rfl) rfl) ByteArray.empty Tryz.zeroValue9 wr.heap.size 0 (n + 1) X.toArray W1 (fun W x _ => nul_any x W) (fun m os dk x _ => nul_any x _) hH (by simp; omega) (by simp; omega))
      have HW1 := kept hW1
      have hX : X.toArray.size = n + 1 := by simp; exact hcnt
      rw [hX, show X.toArray.toList = X from rfl, hHG] at CD
      have hfl : (wordsB s).length ≤ n + 1 := by rw [← hHG, ← hcnt]; exact List.length_filter_le _ _
      have HX := kept hcnt
      have HM2 := kept (And.intro hblk hH)
      clear hblk hH hW1 hX hcnt hHG HG
      go_wp2_with fail
      refine CS.out.mono ?_
      rintro e w2 ⟨rfl, hw2⟩
      subst hw2
      clear HW1 CS
      go_wp2_with fail
      refine CD.out.mono ?_
      rintro e w3 ⟨rfl, q, hw3⟩
      obtain ⟨hblk, hH⟩ := HM2.out
      have hd : ((wordsB s) ++ List.replicate (n + 1 - (wordsB s).length) ByteArray.empty).toArray.size = (X.map Value.string).toArray.size := by simp; have := HX.out; omega
      have hb3 := putRow_block Value.string q _ hblk hd
      have hbl3 := putRow_below (B := w.heap.size) Value.string (w := w2) (g := wr.heap.size) q ((wordsB s) ++ List.replicate (n + 1 - (wordsB s).length) ByteArray.empty).toArray hbw.size
      rw [← hw3] at hb3 hbl3
      have hown : strE.Own w3 w.heap.size 9 (.slice (some ⟨wr.heap.size, 0, none⟩) (wordsB s).length (n + 1)) (wordsB s) := by
        refine ⟨strE.cells_length _, .inr ⟨wr.heap.size, n + 1, _, rfl, hbw.size, hb3, hfl, ?_, ?_, ?_⟩⟩
        · simp [maxLen]; omega
        · show _ = (n + 1) * 1
          simp; omega
        · rw [strE_cells]
          show List.take ((wordsB s).length * 1) _ = _
          simp [SB]
      have hfin := hb1.trans hbl3
      clear hw3 hb3 hbl3 hd hblk hH CD HM2 HX hb1 hsz1
      go_wp2_with fail
      go_ret
      exact ⟨_, _, rfl, hown, hfl, hfin⟩
end Go.Proofs.YtfkfpanhbanljaaGreatDoor.Fold

/- The walks of layer 43, continued: Fold, Cmp, Begins of the program; the document's Cmp and Begins. -/
namespace Go.Proofs.YtfkfpanhbanljaaGreatDoor.Fold
open Go.RowKit Go.Proofs.YtfkfpanhbanljaaGreatDoor.Mem Go.Proofs.YtfkfpanhbanljaaGreatDoor.Card Go.Proofs.YtfkfpanhbanljaaGreatDoor.Laid
open Go.Lib hiding Kept

theorem wordsB_data (s : ByteArray) : (wordsB s).map (·.data.toList) = words s.data.toList := by
  unfold wordsB
  rw [List.map_map]
  exact (List.map_congr_left fun x _ => data_bOf x).trans (List.map_id _)
theorem fold_any (s : ByteArray) (w : World) (hs : s.size ≤ 4294967000) (hm : ML w) : Calls Tryz.prog 45 #[.string s] w fun e w' => e = .returned (.string (foldB s)) ∧ Below w.heap.size w w' := by
  have CW := kept (words_any s w hs hm)
  have hwl := wordsB_le s
  have hfd : (Lib.join ((wordsB s).map (·.data.toList)) (⟨#[32]⟩ : ByteArray).data.toList) = fold s.data.toList := by rw [wordsB_data]; rfl
  have hfl := fold_length s.data.toList
  have hdl : s.data.toList.length = s.size := by simp
  go_enter Tryz.func45, Tryz.ntmps45
  go_wp2_with fail
  refine CW.out.mono ?_
  rintro e w1 ⟨A, c, rfl, hown, hc, hb⟩
  have hrd := strE_rd.1 hown.rd
  by_cases hnil : wordsB s = []
  · have hj := join_none A c ⟨#[32]⟩ w1
    have hF : foldB s = ⟨#[]⟩ := by
      unfold foldB
      rw [← hfd, hnil]; rfl
    have HF := kept hF
    rw [hnil]
    clear hF hfd
    go_wp2_with fail
    refine hj.mono ?_
    rintro e w2 ⟨rfl, rfl⟩
    go_wp2_with fail
    go_ret
    exact ⟨by rw [HF.out]; rfl, hb⟩
  · obtain ⟨b, o, rfl, hbb, hcl⟩ := hrd (by intro e; exact hnil (List.map_eq_nil_iff.1 e))
    have hj := join_any b o c (wordsB s) ⟨#[32]⟩ w1 (fun j x hx => hcl j (.string x) (by unfold SB; rw [List.getElem?_map, hx]; rfl)) hbb (by omega) hc (by rw [hfd]; omega)
    rw [hfd] at hj
    have CJ := kept hj
    clear hj hfd hown hrd hcl
    go_wp2_with fail
    refine CJ.out.mono ?_
    rintro e w2 ⟨rfl, hb2⟩
    go_wp2_with fail
    go_ret
    exact ⟨rfl, below_next' hb hb2⟩
where
  below_next' {w w1 w2 : World} (h : Below w.heap.size w w1) (h2 : Below w1.heap.size w1 w2) : Below w.heap.size w w2 := h.trans (h2.mono h.size)
theorem isNaN_any (s : ByteArray) (w : World) : Calls Tryz.prog 152 #[.string s] w fun e w' => e = .returned (.bool false) ∧ w = w' := by
  go_enter Tryz.func152, Tryz.ntmps152
  go_wp2
  go_ret
  exact ⟨rfl, rfl⟩
/-- which of two texts stands ahead, byte by byte -/
def cmpB (a b : ByteArray) : Int := if Op.bytesLess a.toList b.toList then -1 else if (a.toList == b.toList) then 0 else 1
theorem cmpB_lt {a b : ByteArray} (h : Op.bytesLess a.toList b.toList = true) : cmpB a b = -1 := by unfold cmpB; rw [if_pos h]
theorem cmpB_eq {a b : ByteArray} (h : Op.bytesLess a.toList b.toList = false) (h2 : (a.toList == b.toList) = true) : cmpB a b = 0 := by unfold cmpB; rw [if_neg (by rw [h]; decide), if_pos h2]
theorem cmpB_gt {a b : ByteArray} (h : Op.bytesLess a.toList b.toList = false) (h2 : (a.toList == b.toList) = false) : cmpB a b = 1 := by unfold cmpB; rw [if_neg (by rw [h]; decide), if_neg (by rw [h2]; decide)]
theorem compare_any (a b : ByteArray) (w : World) : Calls Tryz.prog 123 #[.string a, .string b] w fun e w' => e = .returned (.int .i64 (cmpB a b)) ∧ w = w' := by
  go_enter Tryz.func123, Tryz.ntmps123
  go_wp2_with fail
  refine (isNaN_any _ _).mono ?_
  rintro e w' ⟨rfl, rfl⟩
  go_wp2_with fail
  refine (isNaN_any _ _).mono ?_
  rintro e w' ⟨rfl, rfl⟩
  go_wp2_with fail
  all_goals go_ret
  · have h1 : Op.bytesLess a.toList b.toList = true := by assumption
    exact ⟨by rw [cmpB_lt h1]; rfl, rfl⟩
  · have h1 : Op.bytesLess a.toList b.toList = false := by assumption
    have h2 : (!a.toList == b.toList) = true := by assumption
    exact ⟨by rw [cmpB_gt h1 (by simpa using h2)]; rfl, rfl⟩
  · have h1 : Op.bytesLess a.toList b.toList = false := by assumption
    have h2 : (!a.toList == b.toList) = false := by assumption
    exact ⟨by rw [cmpB_eq h1 (by simpa using h2)]; rfl, rfl⟩
/-- the first of two numbers that is not 0 -/
def or2 (x y : Int) : Int := if x = 0 then y else x
theorem or2_any (g : Nat) (x y : Int) (w : World) (h0 : w.cell? ⟨g, 0, none⟩ = some (.int .i64 x)) (h1 : w.cell? ⟨g, 1, none⟩ = some (.int .i64 y)) :
    Calls Tryz.prog 92 #[.slice (some ⟨g, 0, none⟩) 2 2] w fun e w' => e = .returned (.int .i64 (or2 x y)) ∧ w = w' := by
  go_enter Tryz.func92, Tryz.ntmps92
  go_wp2
  go_loop [5, 8] (fun _ i => ∃ j : Nat, j ≤ 2 ∧ i = .int .i64 (j : Int) ∧ (0 < j → x = 0) ∧ (1 < j → y = 0)) (fun _ i => 2 - (intOf i).toNat)
  case atStart => exact ⟨0, by omega, rfl, by omega, by omega⟩
  case round =>
    obtain ⟨j, hj, rfl, hx, hy⟩ := hrel
    rcases (show j = 0 ∨ j = 1 ∨ j = 2 by omega) with rfl | rfl | rfl
    · clear hx hy
      by_cases hx0 : x = 0
      · subst hx0
        go_wp2
        go_round
        case rel => exact ⟨1, by omega, by go_num, by simp, by simp⟩
        case measure => simp [intOf]
      · have hxb : (x != 0) = true := by simpa using hx0
        have HR : Kept (or2 x y = x) := ⟨by unfold or2; rw [if_neg hx0]⟩
        clear hx0
        go_wp2
        go_ret
        exact ⟨by rw [HR.out]; rfl, rfl⟩
    · obtain rfl : x = 0 := hx (by omega)
      clear hx hy
      by_cases hx0 : y = 0
      · subst hx0
        go_wp2
        go_round
        case rel => exact ⟨2, by omega, by go_num, by simp, by simp⟩
        case measure => simp [intOf]
      · have hxb : (y != 0) = true := by simpa using hx0
        have HR : Kept (or2 0 y = y) := ⟨rfl⟩
        clear hx0
        go_wp2
        go_ret
        exact ⟨by rw [HR.out]; rfl, rfl⟩
    · obtain rfl : x = 0 := hx (by omega)
      obtain rfl : y = 0 := hy (by omega)
      clear hx hy
      go_wp2
      go_ret
      exact ⟨rfl, rfl⟩
def cmpF (a b : ByteArray) : Int := or2 (cmpB (foldB a) (foldB b)) (cmpB a b)
theorem cmp_any (a b : ByteArray) (w : World) (ha : a.size ≤ 4294967000) (hb : b.size ≤ 4294967000) (hm : ML w) : Calls Tryz.prog 93 #[.string a, .string b] w fun e w' => e = .returned (.int .i64 (cmpF a b)) ∧ Below w.heap.size w w' := by
  have C1 := kept (fold_any a w ha hm)
  have C2 := kept (fun (W : World) (h : Below w.heap.size w W) => fold_any b W hb (hm.next h))
  have HF : Kept (cmpF a b = or2 (cmpB (foldB a) (foldB b)) (cmpB a b)) := ⟨rfl⟩
  generalize foldB a = x at *
  generalize foldB b = y at *
  go_enter Tryz.func93, Tryz.ntmps93
  go_wp2_with fail
  refine C1.out.mono ?_
  rintro e w1 ⟨rfl, hb1⟩
  go_wp2_with fail
  refine (C2.out _ hb1).mono ?_
  rintro e w2 ⟨rfl, hb2⟩
  have hb3 : Below w.heap.size w w2 := hb1.trans (hb2.mono hb1.size)
  clear C1 C2
  go_wp2_with fail
  refine (compare_any _ _ _).mono ?_
  rintro e w' ⟨rfl, rfl⟩
  go_wp2_with fail
  refine (compare_any _ _ _).mono ?_
  rintro e w' ⟨rfl, rfl⟩
  generalize cmpB x y = p at *
  generalize cmpB a b = q at *
  have hb4 := hb3.alloc hb3.size (.cells #[.int .i64 p, .int .i64 q] 3)
  have CO := kept (or2_any w2.heap.size p q (w2.alloc (.cells #[.int .i64 p, .int .i64 q] 3)) (by simp) (by simp))
  go_wp2_with fail
  refine CO.out.mono ?_
  rintro e w' ⟨rfl, rfl⟩
  go_wp2_with fail
  go_ret
  exact ⟨by rw [HF.out]; rfl, hb4⟩
theorem bytesLess_irrefl : ∀ x : List UInt8, Op.bytesLess x x = false
  | [] => rfl
  | a :: x => by simp [Op.bytesLess, bytesLess_irrefl x, UInt8.lt_irrefl]
theorem rcmp_any (a b : ByteArray) (w : World) (ha : a.size ≤ 4294967000) (hb : b.size ≤ 4294967000) : Calls Tryz.prog 95 #[.string a, .string b] w fun e w' => e = .returned (.int .i64 (cmpF a b)) ∧ Below w.heap.size w w' := by
  have C1 := kept (rfold_any a w ha)
  have C2 := kept (fun (W : World) => rfold_any b W hb)
  have HF : Kept (cmpF a b = or2 (cmpB (foldB a) (foldB b)) (cmpB a b)) := ⟨rfl⟩
  generalize foldB a = x at *
  generalize foldB b = y at *
  have irr : ∀ u v : ByteArray, Op.bytesLess u.toList v.toList = true → (u.toList == v.toList) = false := fun u v h => by
    cases e : (u.toList == v.toList) with
    | false => rfl
    | true => rw [beq_iff_eq.1 e, bytesLess_irrefl] at h; cases h
  have i1 := irr x y
  have i2 := irr a b
  clear irr
  go_enter Tryz.func95, Tryz.ntmps95
  go_wp2_with fail
  refine C1.out.mono ?_
  rintro e w1 ⟨rfl, hb1⟩
  go_wp2_with fail
  refine (C2.out _).mono ?_
  rintro e w2 ⟨rfl, hb2⟩
  have hb3 : Below w.heap.size w w2 := hb1.trans (hb2.mono hb1.size)
  clear C1 C2
  cases l1 : Op.bytesLess x.toList y.toList with
  | true =>
    have HR : Kept (cmpF a b = -1) := ⟨by rw [HF.out, cmpB_lt l1]; rfl⟩
    clear i1 i2 HF
    go_wp2_with fail
    go_ret
    exact ⟨by rw [HR.out]; rfl, hb3⟩
  | false =>
    clear i1
    cases e1 : (x.toList == y.toList) with
    | false =>
      have HR : Kept (cmpF a b = 1) := ⟨by rw [HF.out, cmpB_gt l1 e1]; rfl⟩
      clear i2 HF
      go_wp2_with fail
      go_ret
      exact ⟨by rw [HR.out]; rfl, hb3⟩
    | true =>
      cases l2 : Op.bytesLess a.toList b.toList with
      | true =>
        have HR : Kept (cmpF a b = -1) := ⟨by rw [HF.out, cmpB_eq l1 e1, cmpB_lt l2]; rfl⟩
        clear i2 HF
        go_wp2_with fail
        go_ret
        exact ⟨by rw [HR.out]; rfl, hb3⟩
      | false =>
        clear i2
        cases e2 : (a.toList == b.toList) with
        | false =>
          have HR : Kept (cmpF a b = 1) := ⟨by rw [HF.out, cmpB_eq l1 e1, cmpB_gt l2 e2]; rfl⟩
          clear HF
          go_wp2_with fail
          go_ret
          exact ⟨by rw [HR.out]; rfl, hb3⟩
        | true =>
          have HR : Kept (cmpF a b = 0) := ⟨by rw [HF.out, cmpB_eq l1 e1, cmpB_eq l2 e2]; rfl⟩
          clear HF
          go_wp2_with fail
          go_ret
          exact ⟨by rw [HR.out]; rfl, hb3⟩
end Go.Proofs.YtfkfpanhbanljaaGreatDoor.Fold
