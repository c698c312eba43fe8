/- The walks of layer 46: the program's. -/
import Derived.Test.YtfkfpanhbanljaaGreatDoorPhoneMath
import Derived.Test.YtfkfpanhbanljaaGreatDoorLaidB
import Derived.Test.YtfkfpanhbanljaaGreatDoorSet18
namespace Go.Proofs.YtfkfpanhbanljaaGreatDoor.Phone
open Go.RowKit Go.Proofs.YtfkfpanhbanljaaGreatDoor.Mem Go.Proofs.YtfkfpanhbanljaaGreatDoor.Card Go.Proofs.YtfkfpanhbanljaaGreatDoor.Laid Go.Proofs.YtfkfpanhbanljaaGreatDoor.Fold

theorem trimPrefix_plus (t : List UInt8) : Lib.trimPrefix t [43] = (cutP t).2 ∧ Lib.hasPrefix t [43] = (cutP t).1 := by
  unfold Lib.trimPrefix Lib.hasPrefix
  cases t with
  | nil => exact ⟨rfl, rfl⟩
  | cons c t =>
    by_cases h : c = 43
    · subst h; exact ⟨rfl, rfl⟩
    · have h1 : ((43 : UInt8) == c) = false := by simpa using fun e => h e.symm
      have h2 : ([43] : List UInt8).isPrefixOf (c :: t) = false := by simp [List.isPrefixOf, h1]
      rw [h2]
      simp [cutP, h]
theorem between_index (c : UInt8) : decide (0 ≤ Lib.indexByte [32, 45, 46, 47, 40, 41] c) = isB c := by
  have : ∀ n : Fin 256, decide (0 ≤ Lib.indexByte [32, 45, 46, 47, 40, 41] (UInt8.ofNat n.val)) = isB (UInt8.ofNat n.val) := by decide +kernel
  have h := this ⟨c.toNat, UInt8.toNat_lt c⟩
  simpa using h
def nums (l : List UInt8) : List Nat := l.map UInt8.toNat
theorem strB_nums (l : List UInt8) : strB (nums l) = bOf l := by
  unfold strB nums bOf
  simp [List.map_map, Function.comp_def]
theorem nums_append (a b : List UInt8) : nums (a ++ b) = nums a ++ nums b := by simp [nums]
theorem digits_snoc (t : List UInt8) (c : UInt8) : digits (t ++ [c]) = digits t ++ if isD c then [c] else [] := by
  unfold digits
  rw [List.filter_append]
  cases h : isD c <;> simp [h]
theorem okB_snoc (t : List UInt8) (c : UInt8) : okB (t ++ [c]) = (okB t && (isD c || isB c)) := by simp [okB]
theorem take_bOf (t : List UInt8) (k : Nat) (h : k < (bOf t).size) : t.take (k + 1) = t.take k ++ [(bOf t)[k]] := by
  have h2 : k < t.length := by rw [bOf_size] at h; exact h
  rw [List.take_succ_eq_append_getElem h2]; rfl
theorem one_extract (t : List UInt8) (k : Nat) (h : k < (bOf t).size) : (bOf t).extract k (k + 1) = ⟨#[(bOf t)[k]]⟩ := by
  have h2 : k < t.length := by rw [bOf_size] at h; exact h
  apply ByteArray.ext
  apply Array.ext
  · simp [bOf]; omega
  · intro i h3 h4
    simp [bOf] at h3 h4 ⊢
    obtain rfl : i = 0 := by omega
    rfl
/-- what bare gives -/
def BareRes (s : List UInt8) (w : World) (e : Ending) (w' : World) : Prop :=
  (if okB (cutP (trimL s)).2 then e = .returned (.tuple #[.string (bOf (digits (cutP (trimL s)).2)), .bool (cutP (trimL s)).1, .bool true]) else e = .returned (.tuple #[.string ⟨#[]⟩, .bool false, .bool false])) ∧ Below w.heap.size w w'
theorem bare_any (s : ByteArray) (w : World) (hs : s.size ≤ 140737488355000) : Calls Tryz.prog 98 #[.string s] w (BareRes s.data.toList w) := by
  have CT := trimLeft_one s 32 (by decide) w
  have hT : (Lib.trimLeftB s.data.toList 32) = trimL s.data.toList := rfl
  rw [hT] at CT
  have CT : Calls Tryz.prog 100 #[.string s, .string ⟨#[32]⟩] w fun e w' => e = .returned (.string (bOf (trimL s.data.toList))) ∧ w' = w := CT
  have CT := kept CT
  obtain ⟨e1, e2⟩ := trimPrefix_plus (trimL s.data.toList)
  have CP := cutPrefix_any (bOf (trimL s.data.toList)) ⟨#[43]⟩ w
  rw [data_bOf, show (⟨#[43]⟩ : ByteArray).data.toList = [43] from rfl, e1, e2] at CP
  have CP : Calls Tryz.prog 99 #[.string (bOf (trimL s.data.toList)), .string ⟨#[43]⟩] w fun e w' => e = .returned (.tuple #[.string (bOf (cutP (trimL s.data.toList)).2), .bool (cutP (trimL s.data.toList)).1]) ∧ w' = w := CP
  have CP := kept CP
  have hlen : (cutP (trimL s.data.toList)).2.length ≤ s.size := by
    have h1 : (trimL s.data.toList).length ≤ s.data.toList.length := by
      unfold trimL
      exact (List.dropWhile_sublist _).length_le
    have h2 : ∀ t : List UInt8, (cutP t).2.length ≤ t.length := by
      intro t
      cases t with
      | nil => simp [cutP]
      | cons c t => by_cases h : c = 43 <;> simp [cutP, h]
    have h3 := h2 (trimL s.data.toList)
    simp at h1
    omega
  have HR : Kept (∀ e w', BareRes s.data.toList w e w' ↔ (if okB (cutP (trimL s.data.toList)).2 then e = .returned (.tuple #[.string (bOf (digits (cutP (trimL s.data.toList)).2)), .bool (cutP (trimL s.data.toList)).1, .bool true]) else e = .returned (.tuple #[.string ⟨#[]⟩, .bool false, .bool false])) ∧ Below w.heap.size w w') := ⟨fun _ _ => Iff.rfl⟩
  clear e1 e2 hT
  generalize (cutP (trimL s.data.toList)).1 = p at *
  generalize (cutP (trimL s.data.toList)).2 = t at *
  have HTS := kept (bOf_size t)
  have htz : (bOf t).size ≤ 140737488355000 := by rw [bOf_size]; omega
  go_enter Tryz.func98, Tryz.ntmps98
  go_wp2_with fail
  refine CT.out.mono ?_
  rintro e w1 ⟨rfl, hw1⟩
  subst hw1
  go_wp2_with fail
  refine CP.out.mono ?_
  rintro e w2 ⟨rfl, hw2⟩
  subst hw2
  clear CT CP
  go_wp2_with fail
  go_loopw [6, 17] (fun d i wr => ∃ (k : Nat) (A : Option Addr) (c : Nat), k ≤ (bOf t).size ∧ i = .int .i64 (k : Int) ∧ Kept (okB (t.take k) = true) ∧ d = .slice A (digits (t.take k)).length c ∧ Own wr w2.heap.size 5 (.slice A (digits (t.take k)).length c) (BB (nums (digits (t.take k)))) ∧ Below w2.heap.size w2 wr) (fun _ i _ => (bOf t).size - (intOf i).toNat)
  case atStart => exact ⟨0, none, 0, Nat.zero_le _, rfl, ⟨rfl⟩, rfl, Own.nilv _ _ _, Below.refl _ _⟩
  case round =>
    obtain ⟨k, A, c, hk, rfl, hok, rfl, hown, hbw⟩ := hrel
    by_cases hlt : k < (bOf t).size
    · have htk := take_bOf t k hlt
      have hex := one_extract t k hlt
      have hdl : (digits (t.take k)).length ≤ k := Nat.le_trans (List.length_filter_le _ _) (List.length_take_le _ _)
      have hds := digits_snoc (t.take k) (bOf t)[k]
      have hos := okB_snoc (t.take k) (bOf t)[k]
      rw [← htk] at hds hos
      have hbi := between_index (bOf t)[k]
      obtain ⟨y, hy⟩ : ∃ y, (bOf t)[k] = y := ⟨_, rfl⟩
      rw [hy] at hds hos hbi hex
      cases hD : isD y with
      | true =>
        have hD2 : 48 ≤ y.toNat ∧ y.toNat ≤ 57 := by simpa [isD] using hD
        have h1 : (48 : Int) ≤ (y.toNat : Int) := by omega
        have h2 : (y.toNat : Int) ≤ 57 := by omega
        rw [hD] at hds hos
        have HO : Kept (okB (t.take (k + 1)) = true) := ⟨by rw [hos, hok.out]; rfl⟩
        have HD : Kept (digits (t.take (k + 1)) = digits (t.take k) ++ [y]) := ⟨hds⟩
        have ha := hown.alloc (.cells #[.int .u8 (y.toNat : Int)] 5)
        have hrn := rd_one wr y.toNat
        have hln : (nums (digits (t.take k))).length = (digits (t.take k)).length := by simp [nums]
        have hsz : (nums (digits (t.take k))).length + [y.toNat].length ≤ 140737488355328 := by rw [hln]; simp; rw [HTS.out] at hlt; omega
        have hbase : w2.heap.size ≤ (wr.alloc (.cells #[.int .u8 (y.toNat : Int)] 5)).heap.size := by have := hbw.size; simp; omega
        have hba := hbw.alloc hbw.size (.cells #[.int .u8 (y.toNat : Int)] 5)
        clear hds hos hD hD2 hbi hex hok htk
        generalize digits (t.take k) = ds at *
        go_wp2_with (at_builtin; refine wpl_app rfl (.tmp 30) (.tmp 32) rfl w2.heap.size _ (nums ds) rfl ha _ _ _ _ [y.toNat] rfl rfl hrn hsz hbase ?_; intro A3 c3 w3 r3 hr3 hown3 hg3 hb3)
        obtain rfl : r3 = nums (ds ++ [y]) := by rw [hr3.out, nums_append]; rfl
        have hl3 : (nums (ds ++ [y])).length = (ds ++ [y]).length := by simp [nums]
        rw [hl3] at hown3 ⊢
        have hb9 := hba.trans hb3
        clear hr3 hg3 ha hrn hba hb3 hl3 hln hown
        go_wp2_with fail
        go_roundw
        case rel => exact ⟨k + 1, A3, c3, by omega, by go_num, HO, by rw [HD.out], by rw [HD.out]; exact hown3, hb9⟩
        case measure => simp [intOf]; omega
      | false =>
        have hD2 : ¬ (48 ≤ y.toNat ∧ y.toNat ≤ 57) := by intro h; rw [show isD y = true by simpa [isD] using h] at hD; cases hD
        rw [hD] at hds hos
        have CB := contains_one ⟨#[32, 45, 46, 47, 40, 41]⟩ y
        rw [show (⟨#[32, 45, 46, 47, 40, 41]⟩ : ByteArray).data.toList = [32, 45, 46, 47, 40, 41] from rfl, hbi] at CB
        have CB := kept CB
        have hdig : Kept (digits (t.take (k + 1)) = digits (t.take k)) := ⟨by rw [hds]; simp⟩
        have HOS := kept hos
        have hkk : (0 : Int) ≤ (k : Int) + 1 := by omega
        have hkl : (k : Int) + 1 ≤ ((bOf t).size : Int) := by omega
        have hks : k + 1 ≤ (bOf t).size := by omega
        rcases (show y.toNat < 48 ∨ 57 < y.toNat by omega) with hlo | hhi
        · have h1 : ¬ (48 : Int) ≤ (y.toNat : Int) := by omega
          clear hD2 hD hds hos hbi htk
          cases hb : isB y with
          | true =>
            rw [hb] at CB
            have HO : Kept (okB (t.take (k + 1)) = true) := ⟨by rw [HOS.out, hok.out, hb]; rfl⟩
            clear hb HOS hok
            go_wp2_with fail
            refine (CB.out _).mono ?_
            rintro e w3 ⟨rfl, hw3⟩
            subst hw3
            go_wp2_with fail
            go_roundw
            case rel => exact ⟨k + 1, A, c, by omega, by go_num, HO, by rw [hdig.out], by rw [hdig.out]; exact hown, hbw⟩
            case measure => simp [intOf]; omega
          | false =>
            rw [hb] at CB
            have HN : Kept (okB t = false) := ⟨by
              have h2 : okB (t.take (k + 1)) = false := by rw [HOS.out, hok.out, hb]; rfl
              have h3 : okB t = (okB (t.take (k + 1)) && okB (t.drop (k + 1))) := by rw [← okB_append, List.take_append_drop]
              rw [h3, h2]; rfl⟩
            clear hb HOS hok
            go_wp2_with fail
            refine (CB.out _).mono ?_
            rintro e w3 ⟨rfl, hw3⟩
            subst hw3
            go_wp2_with fail
            go_ret3
            exact (HR.out _ _).2 ⟨by rw [HN.out]; rfl, hbw⟩
        · have h1 : (48 : Int) ≤ (y.toNat : Int) := by omega
          have h2 : ¬ (y.toNat : Int) ≤ 57 := by omega
          clear hD2 hD hds hos hbi htk
          cases hb : isB y with
          | true =>
            rw [hb] at CB
            have HO : Kept (okB (t.take (k + 1)) = true) := ⟨by rw [HOS.out, hok.out, hb]; rfl⟩
            clear hb HOS hok
            go_wp2_with fail
            refine (CB.out _).mono ?_
            rintro e w3 ⟨rfl, hw3⟩
            subst hw3
            go_wp2_with fail
            go_roundw
            case rel => exact ⟨k + 1, A, c, by omega, by go_num, HO, by rw [hdig.out], by rw [hdig.out]; exact hown, hbw⟩
            case measure => simp [intOf]; omega
          | false =>
            rw [hb] at CB
            have HN : Kept (okB t = false) := ⟨by
              have h2 : okB (t.take (k + 1)) = false := by rw [HOS.out, hok.out, hb]; rfl
              have h3 : okB t = (okB (t.take (k + 1)) && okB (t.drop (k + 1))) := by rw [← okB_append, List.take_append_drop]
              rw [h3, h2]; rfl⟩
            clear hb HOS hok
            go_wp2_with fail
            refine (CB.out _).mono ?_
            rintro e w3 ⟨rfl, hw3⟩
            subst hw3
            go_wp2_with fail
            go_ret3
            exact (HR.out _ _).2 ⟨by rw [HN.out]; rfl, hbw⟩
    · have htk : t.take k = t := List.take_of_length_le (by rw [HTS.out] at hlt; omega)
      rw [htk] at hown hok ⊢
      have hcs := run_str wr _ A (digits t).length c (nums (digits t)) (by simp [nums]) hown.rd
      rw [strB_nums] at hcs
      clear htk hown
      generalize digits t = ds at *
      go_wp2_with fail
      go_ret3
      exact (HR.out _ _).2 ⟨by rw [hok.out]; rfl, hbw⟩
end Go.Proofs.YtfkfpanhbanljaaGreatDoor.Phone
