import Derived.Test.YtfkfpanhbanljaaGreatDoorSet12
import Derived.Test.YtfkfpanhbanljaaGreatDoorSet9
import Derived.Lib.ConvBytes
import Derived.Test.YtfkfpanhbanljaaGreatDoorFoldMath
import Derived.Test.YtfkfpanhbanljaaGreatDoorSet5
import Derived.Test.YtfkfpanhbanljaaGreatDoorSet7
import Derived.WalkLawsBesides
import Derived.Deep.QuietTactic
import Derived.BigQuiet
import Derived.Deep.DeepCutAuto
/- []byte: append to what an object holds, told with what turns. -/
namespace Go.Proofs.YtfkfpanhbanljaaGreatDoor.Mem
open Go.RowKit

theorem wpl_appU {w : World} {ops : Array Oper} {rest : List Oper} {o : Oper} {a : Act} {Q : Exit → Act → World → Prop} (hgd : o.guard = none) (s x : Operand)
    (ho : o.op = .call { callee := .builtin .append, args := #[s, x], argTypes := #[83, 83] })
    (v : Value) (l : List Nat) (hs : a.eval s = v) (hown : Own w 0 5 v (BB l))
    (B : Nat) (A : Option Addr) (m c : Nat) (news : List Nat) (hx : a.eval x = .slice A m c) (hm : m = news.length) (hr : Rd w B A (BB news))
    (hsz : l.length + news.length ≤ 140737488355328)
    (h : ∀ A' c' w' r, Hid (r = l ++ news) → Own w' 0 5 (.slice A' r.length c') (BB r) → (∀ S : Nat → Prop, (∀ k, v.ownBlock = some k → S k) → Upd S w w') → (∀ x, A' = some x → v.ownBlock = some x.block ∨ w.heap.size ≤ x.block) → wpList Tryz.prog ops Q rest (a.put o.dst (.slice A' r.length c')) w') : wpList Tryz.prog ops Q (o :: rest) a w := by
  obtain ⟨i0, hi0, hz0, hz1, hz2⟩ := info_parts u8_info
  refine wpList_plain hgd fun K hK => wp_append_at w s x 83 ho 1 0 5 i0 _ 1 Tryz.underlying83 hi0 hz0 hz1 hz2 rfl (by decide) v l.length (BB l) hs (by have := hown; unfold Own at this; rw [BB_length] at this; exact this) B A m c (BB news) hx (by rw [BB_length, hm, Nat.mul_one]) hr (BB_one _) (by rw [hm]; omega) (Nat.le_refl _) (Nat.zero_le _) ?_
  intro A' c' w' h1 h2 h3
  refine hK _ _ ?_
  have hl : l.length + m = (l ++ news).length := by rw [List.length_append, hm]
  rw [hl, ← BB_append] at h1
  rw [hl]
  refine h A' c' w' (l ++ news) rfl ?_ h2 h3
  unfold Own
  rw [BB_length]
  exact h1
/-- the same inside a region that draws its order -/
theorem step_appU {w : World} {ops : Array Oper} {o : Oper} {a : Act} {K : Act → World → Prop} {Q : Exit → Act → World → Prop} {E : Prop} (hgd : o.guard = none) (s x : Operand)
    (ho : o.op = .call { callee := .builtin .append, args := #[s, x], argTypes := #[83, 83] })
    (v : Value) (l : List Nat) (hs : a.eval s = v) (hown : Own w 0 5 v (BB l))
    (B : Nat) (A : Option Addr) (m c : Nat) (news : List Nat) (hx : a.eval x = .slice A m c) (hm : m = news.length) (hr : Rd w B A (BB news))
    (hsz : l.length + news.length ≤ 140737488355328)
    (h : ∀ A' c' w' r, Kept (r = l ++ news) → Own w' 0 5 (.slice A' r.length c') (BB r) → (∀ S : Nat → Prop, (∀ k, v.ownBlock = some k → S k) → Upd S w w') → (∀ x, A' = some x → v.ownBlock = some x.block ∨ w.heap.size ≤ x.block) → K (a.put o.dst (.slice A' r.length c')) w') :
    if Region.wanted o (yielded ops a.tmps) = true then Oper.wp Tryz.prog o a w K Q else E := by
  have hw : Region.wanted o (yielded ops a.tmps) = true := by simp [Region.wanted, hgd]
  rw [if_pos hw]
  obtain ⟨i0, hi0, hz0, hz1, hz2⟩ := info_parts u8_info
  refine wp_append_at w s x 83 ho 1 0 5 i0 _ 1 Tryz.underlying83 hi0 hz0 hz1 hz2 rfl (by decide) v l.length (BB l) hs (by have := hown; unfold Own at this; rw [BB_length] at this; exact this) B A m c (BB news) hx (by rw [BB_length, hm, Nat.mul_one]) hr (BB_one _) (by rw [hm]; omega) (Nat.le_refl _) (Nat.zero_le _) ?_
  intro A' c' w' h1 h2 h3
  have hl : l.length + m = (l ++ news).length := by rw [List.length_append, hm]
  rw [hl, ← BB_append] at h1
  rw [hl]
  refine h A' c' w' (l ++ news) ⟨rfl⟩ ?_ h2 h3
  unfold Own
  rw [BB_length]
  exact h1
/-- a text's bytes -/
def sB (s : ByteArray) : List Nat := s.data.toList.map UInt8.toNat
theorem sB_length (s : ByteArray) : (sB s).length = s.size := by simp [sB]
theorem sB_all (s : ByteArray) : AllB (sB s) := fun x hx => by
  simp only [sB, List.mem_map] at hx
  obtain ⟨y, _, rfl⟩ := hx
  exact y.toNat_lt
theorem strB_sB (s : ByteArray) : strB (sB s) = s := by
  unfold strB sB
  rw [List.map_map]
  have : (UInt8.ofNat ∘ UInt8.toNat) = id := funext fun x => by simp
  rw [this, List.map_id]
theorem sB_strB {l : List Nat} (h : AllB l) : sB (strB l) = l := by
  unfold strB sB
  simp only [List.map_map]
  rw [show l.map (UInt8.toNat ∘ UInt8.ofNat) = l.map id from List.map_congr_left fun x hx => by simp [Nat.mod_eq_of_lt (h x hx)], List.map_id]
/-- []byte(s): new bytes that read as the text's -/
theorem str_bytes (w : World) (s : ByteArray) : ∃ c w', (convert 9 83 (.string s)).run Tryz.prog w = .ok (.slice (some ⟨w.heap.size, 0, none⟩) s.size c) w' ∧
    Rd w' w'.heap.size (some ⟨w.heap.size, 0, none⟩) (BB (sB s)) ∧ Below w.heap.size w w' ∧ w.heap.size < w'.heap.size := by
  have hz := Lib.bytesWorld_size w 5 s
  refine ⟨_, _, Lib.run_convert_string_bytes (P := Tryz.prog) w 9 83 5 s Tryz.underlying9 Tryz.underlying83 Tryz.underlying5, fun _ => ⟨_, 0, rfl, by omega, fun j u hu => ?_⟩, ⟨?_, ?_, ?_, by omega, fun k hk => Lib.bytesWorld_at_old w 5 s k hk⟩, by omega⟩
  · have hj : j < s.size := by
      have := (List.getElem?_eq_some_iff.1 hu).1
      rw [BB_length, sB_length] at this; exact this
    rw [Nat.zero_add, Lib.bytesWorld_cell w 5 s j hj, ← hu, BB_get _ _ (by rw [sB_length]; exact hj)]
    simp [sB, List.getD, hj]
  · simp [Lib.bytesWorld, World.freeze, World.alloc, World.drew, -World.alloc_eq, -World.drew_eq]
  · simp [Lib.bytesWorld, World.freeze, World.alloc, World.drew, -World.alloc_eq, -World.drew_eq]
  · simp [Lib.bytesWorld, World.freeze, World.alloc, World.drew, -World.alloc_eq, -World.drew_eq]
end Go.Proofs.YtfkfpanhbanljaaGreatDoor.Mem

/- The walks of layer 43: a byte folded; the document's words. -/
namespace Go.Proofs.YtfkfpanhbanljaaGreatDoor.Fold
open Go.RowKit Go.Proofs.YtfkfpanhbanljaaGreatDoor.Mem Go.Proofs.YtfkfpanhbanljaaGreatDoor.Card

theorem or32 (c : Nat) (h1 : 65 ≤ c) (h2 : c ≤ 90) : bits .or .u8 (c : Int) 32 = ((c + 32 : Nat) : Int) := by
  obtain ⟨d, rfl⟩ : ∃ d, c = 65 + d := ⟨c - 65, by omega⟩
  have : ∀ d : Fin 26, bits .or .u8 ((65 + d.val : Nat) : Int) 32 = ((65 + d.val + 32 : Nat) : Int) := by decide +kernel
  exact this ⟨d, by omega⟩
theorem letter_any (c : Nat) (w : World) (hc : c < 256) : Calls Tryz.prog 66 #[.int .u8 (c : Int)] w fun e w' => e = .returned (.int .u8 (let1 c : Int)) ∧ w = w' := by
  by_cases h1 : 65 ≤ c ∧ c ≤ 90
  · have HO := kept (or32 c h1.1 h1.2)
    have HL : Kept (let1 c = c + 32) := ⟨by unfold let1; rw [if_pos h1]⟩
    obtain ⟨ha, hb⟩ := h1
    go_enter Tryz.func66, Tryz.ntmps66
    go_wp2
    go_ret
    exact ⟨ret_num (by rw [HO.out, HL.out]), rfl⟩
  · go_enter Tryz.func66, Tryz.ntmps66
    go_wp2
    all_goals go_ret
    all_goals refine ⟨ret_num ?_, rfl⟩
    all_goals first
      | (have : let1 c = c := by unfold let1; rw [if_neg (by omega), if_pos (by omega)]
         rw [this])
      | (have : let1 c = 32 := by unfold let1; rw [if_neg (by omega), if_neg (by omega)]
         rw [this]; rfl)
      | (exfalso; omega)
theorem rletter_any (c : Nat) (w : World) (hc : c < 256) : Calls Tryz.prog 72 #[.int .u8 (c : Int)] w fun e w' => e = .returned (.int .u8 (let1 c : Int)) ∧ w = w' := by
  go_enter Tryz.func72, Tryz.ntmps72
  go_wp2
  all_goals go_ret
  all_goals refine ⟨ret_num ?_, rfl⟩
  all_goals first
    | (have : let1 c = c := by unfold let1; rw [if_neg (by omega), if_pos (by omega)]
       rw [this])
    | (have : let1 c = c + 32 := by unfold let1; rw [if_pos (by omega)]
       rw [this]; omega)
    | (have : let1 c = 32 := by unfold let1; rw [if_neg (by omega), if_neg (by omega)]
       rw [this]; rfl)
    | (exfalso; omega)
/-- bytes as a text -/
def bOf (l : List UInt8) : ByteArray := ⟨l.toArray⟩
theorem bOf_data (s : ByteArray) : bOf s.data.toList = s := by
  obtain ⟨⟨l⟩⟩ := s
  rfl
theorem data_bOf (l : List UInt8) : (bOf l).data.toList = l := by simp [bOf]
theorem bOf_toList (l : List UInt8) : (bOf l).toList = l := by rw [ByteArray.toList_eq, data_bOf]
theorem bOf_size (l : List UInt8) : (bOf l).size = l.length := by simp [bOf, ByteArray.size]
theorem bOf_inj {a b : List UInt8} (h : bOf a = bOf b) : a = b := by rw [← data_bOf a, h, data_bOf]
theorem bOf_app (a b : List UInt8) : bOf a ++ bOf b = bOf (a ++ b) := by
  apply ByteArray.ext
  apply Array.ext'
  simp [bOf]
theorem strB_one (c : UInt8) : strB [let1 c.toNat] = bOf [letter c] := rfl
def wordsB (s : ByteArray) : List ByteArray := (words s.data.toList).map bOf
theorem rwords_any (s : ByteArray) (w : World) (hs : s.size ≤ 4294967000) : Calls Tryz.prog 33 #[.string s] w (strE.Gives 9 w (wordsB s)) := by
  have HF := kept (words_step s.data.toList)
  go_enter Tryz.func33, Tryz.ntmps33
  go_wp2
  go_loopw [3, 4, 5] (fun o x i wr => ∃ (k : Nat) (os : List (List UInt8)) (cur : List UInt8) (A : Option Addr) (c : Nat), k ≤ s.size ∧ i = .int .i64 (k : Int) ∧ Kept ((s.data.toList.take k).foldl stepW ([], []) = (os, cur)) ∧ o = .slice A os.length c ∧ x = .string (bOf cur) ∧ cur.length ≤ k ∧ os.length ≤ k ∧ strE.Own wr w.heap.size 9 (.slice A os.length c) (os.map bOf) ∧ Below w.heap.size w wr) (fun _ _ i _ => s.size - (intOf i).toNat)
  case atStart => exact ⟨0, [], [], none, 0, Nat.zero_le _, rfl, ⟨rfl⟩, rfl, rfl, Nat.le_refl _, Nat.le_refl _, Elem.Own.nilv _ _ _ _, Below.refl _ _⟩
  case round =>
    obtain ⟨k, os, cur, A, c, hk, rfl, hst, rfl, rfl, hcl, hol, hown, hbw⟩ := hrel
    by_cases hlt : k < s.size
    · have hts : s.data.toList.take (k + 1) = s.data.toList.take k ++ [s[k]] := by
        rw [List.take_succ_eq_append_getElem (by simpa using hlt)]; rfl
      have hnx : Kept ((s.data.toList.take (k + 1)).foldl stepW ([], []) = stepW (os, cur) s[k]) := ⟨by rw [hts, List.foldl_append, hst.out]; rfl⟩
      clear hts hst HF
      go_wp2_with fail
      generalize s[k] = y at *
      have hv := let1_lt (UInt8.toNat_lt y)
      refine (rletter_any y.toNat _ (UInt8.toNat_lt y)).mono ?_
      rintro e w' ⟨rfl, rfl⟩
      by_cases h32 : let1 y.toNat = 32
      · have hl32 : letter y = 32 := UInt8.toNat_inj.1 (by rw [letter_toNat, h32]; rfl)
        by_cases hc0 : cur = []
        · have hn2 : Kept ((s.data.toList.take (k + 1)).foldl stepW ([], []) = (os, [])) := ⟨by rw [hnx.out, hc0]; simp [stepW, hl32, full]⟩
          subst hc0
          have hem : (bOf []).toList = [] := bOf_toList []
          rw [h32]
          clear hnx h32 hl32
          go_wp2_with fail
          go_roundw
          case rel => exact ⟨k + 1, os, [], A, c, by omega, by go_num, hn2, rfl, rfl, by simp, by omega, hown, hbw⟩
          case measure => simp [intOf]; omega
        · have hn2 : Kept ((s.data.toList.take (k + 1)).foldl stepW ([], []) = (os ++ [cur], [])) := ⟨by rw [hnx.out]; simp [stepW, hl32, (full_iff cur).2 hc0]⟩
          have hem : (!(bOf cur).toList.isEmpty) = true := by rw [bOf_toList]; cases cur with | nil => exact absurd rfl hc0 | cons _ _ => rfl
          have hem2 : ¬ (bOf cur).toList = [] := by rw [bOf_toList]; exact hc0
          rw [h32]
          clear hnx h32 hl32 hc0
          have ha := hown.alloc (.cells #[.string (bOf cur)] 9)
          have hrn : strE.Rd (wr.alloc (.cells #[.string (bOf cur)] 9)) (wr.heap.size + 1) (some ⟨wr.heap.size, 0, none⟩) [bOf cur] := Rd.new wr [.string (bOf cur)] 9
          have hsz : ((os.map bOf).length + [bOf cur].length) * 16 ≤ 140737488355328 := by simp; omega
          have hbase : w.heap.size ≤ (wr.alloc (.cells #[.string (bOf cur)] 9)).heap.size := by have := hbw.size; simp; omega
          have hba := hbw.alloc hbw.size (.cells #[.string (bOf cur)] 9)
          go_wp2_with (at_builtin; refine wpl_appE _ strE rfl (.tmp 26) (.tmp 28) 36 rfl w.heap.size 9 Tryz.underlying36 str_info rfl _ (os.map bOf) rfl ha _ _ _ _ [bOf cur] rfl rfl hrn hsz (by decide) hbase ?_; intro A2 c2 w2 r2 hr2 hown2 hb2)
          obtain rfl : r2 = (os ++ [cur]).map bOf := by rw [hr2.out]; simp
          rw [List.length_map] at hown2 ⊢
          have hb9 := hba.trans hb2
          clear hr2 ha hrn hba hb2
          go_wp2_with fail
          go_roundw
          case rel => exact ⟨k + 1, os ++ [cur], [], A2, c2, by omega, by go_num, hn2, rfl, rfl, by simp, by simp; omega, hown2, hb9⟩
          case measure => simp [intOf]; omega
      · have hn2 : Kept ((s.data.toList.take (k + 1)).foldl stepW ([], []) = (os, cur ++ [letter y])) := ⟨by
          rw [hnx.out]
          have : letter y ≠ 32 := fun e => h32 (by rw [← letter_toNat, e]; rfl)
          simp [stepW, this]⟩
        have hcv := run_str (wr.alloc (.cells #[.int .u8 (let1 y.toNat : Int)] 5)) _ _ 1 1 [let1 y.toNat] rfl (rd_one wr (let1 y.toNat))
        rw [strB_one] at hcv
        have hba := hbw.alloc hbw.size (.cells #[.int .u8 (let1 y.toNat : Int)] 5)
        have hoa := hown.alloc (.cells #[.int .u8 (let1 y.toNat : Int)] 5)
        have h33 : ((let1 y.toNat : Int) == 32) = false := by simp; omega
        have h34 : ((let1 y.toNat : Int) != 32) = true := by simp; omega
        have hcz : ¬ 9223372036854775807 < (bOf cur).size + (bOf [letter y]).size := by rw [bOf_size, bOf_size]; simp; omega
        generalize let1 y.toNat = v at *
        clear hnx
        go_wp2_with fail
        go_roundw
        case rel => exact ⟨k + 1, os, cur ++ [letter y], A, c, by omega, by go_num, hn2, rfl, by rw [bOf_app], by simp; omega, by omega, hoa, hba⟩
        case measure => simp [intOf]; omega
    · have hfin : endW (os, cur) = words s.data.toList := by
        rw [HF.out, ← hst.out, List.take_of_length_le (by simp; omega)]
      clear HF hst
      by_cases hc0 : cur = []
      · subst hc0
        have hem : (bOf []).toList = [] := bOf_toList []
        have hos : os = words s.data.toList := by rw [← hfin]; simp [endW, full]
        go_wp2_with fail
        go_ret
        have hown2 : strE.Own wr w.heap.size 9 (.slice A (os.map bOf).length c) (os.map bOf) := by rw [List.length_map]; exact hown
        have := Elem.gives (show os.map bOf = wordsB s by rw [hos]; rfl) hown2 hbw
        rwa [List.length_map] at this
      · have hem : (!(bOf cur).toList.isEmpty) = true := by rw [bOf_toList]; cases cur with | nil => exact absurd rfl hc0 | cons _ _ => rfl
        have hem2 : ¬ (bOf cur).toList = [] := by rw [bOf_toList]; exact hc0
        have hos : os ++ [cur] = words s.data.toList := by rw [← hfin]; simp [endW, (full_iff cur).2 hc0]
        have HOS := kept hos
        clear hos hfin hc0
        have ha := hown.alloc (.cells #[.string (bOf cur)] 9)
        have hrn : strE.Rd (wr.alloc (.cells #[.string (bOf cur)] 9)) (wr.heap.size + 1) (some ⟨wr.heap.size, 0, none⟩) [bOf cur] := Rd.new wr [.string (bOf cur)] 9
        have hsz : ((os.map bOf).length + [bOf cur].length) * 16 ≤ 140737488355328 := by simp; omega
        have hbase : w.heap.size ≤ (wr.alloc (.cells #[.string (bOf cur)] 9)).heap.size := by have := hbw.size; simp; omega
        have hba := hbw.alloc hbw.size (.cells #[.string (bOf cur)] 9)
        go_wp2_with (at_builtin; refine wpl_appE _ strE rfl (.tmp 32) (.tmp 34) 36 rfl w.heap.size 9 Tryz.underlying36 str_info rfl _ (os.map bOf) rfl ha _ _ _ _ [bOf cur] rfl rfl hrn hsz (by decide) hbase ?_; intro A2 c2 w2 r2 hr2 hown2 hb2)
        have hb9 := hba.trans hb2
        have hr9 : r2 = wordsB s := by rw [hr2.out]; unfold wordsB; rw [← HOS.out]; simp
        clear hr2 ha hrn hba hb2
        go_wp2_with fail
        go_ret
        exact Elem.gives hr9 hown2 hb9
end Go.Proofs.YtfkfpanhbanljaaGreatDoor.Fold
