import Derived.Test.YtfkfpanhbanljaaGreatRegWin
import Derived.Test.YtfkfpanhbanljaaGreatSetS
import Derived.Test.YtfkfpanhbanljaaGreatSetAA
/- Layer 14 (reg): all texts: the walks of reg.Texts, and of the document's put and Texts. -/
namespace Go.Proofs.YtfkfpanhbanljaaGreat.Reg
open Go.RowKit Go.Proofs.YtfkfpanhbanljaaGreat.Mem Go.Proofs.YtfkfpanhbanljaaGreat.Card Go.Proofs.YtfkfpanhbanljaaGreat.LaidS

theorem own_str {w : World} {base : Nat} {e : TypeId} {A : Option Addr} {c : Nat} {l : List ByteArray} (h : strE.Own w base e (.slice A l.length c) l) : Own w base e (.slice A l.length c) (SB l) := by
  unfold Own
  rw [SB_length, ← strE_cells]
  exact h
theorem str_own {w : World} {base : Nat} {e : TypeId} {A : Option Addr} {c : Nat} {l : List ByteArray} (h : Own w base e (.slice A l.length c) (SB l)) : strE.Own w base e (.slice A l.length c) l := by
  unfold Own at h
  rw [SB_length, ← strE_cells] at h
  exact h
theorem txt_snoc {l : List ValM} {j : Nat} {x : ValM} (h : l[j]? = some x) : (txt l).take (j + 1) = (txt l).take j ++ [x.t] := take_map ValM.t l j x h |> fun e => by unfold txt; rw [← List.map_take, ← List.map_take]; exact e
theorem txt_length (l : List ValM) : (txt l).length = l.length := List.length_map ..
set_option maxRecDepth 100000 in
theorem texts_any' (A : Option Addr) (l : List ValM) (c : Nat) (w : World) (hr : valE.Rd w w.heap.size A l) (hsz : l.length ≤ 1000000000) :
    Calls Tryz.prog 76 #[.slice A l.length c] w (strE.Gives 9 w (textsT (txt l))) := by
  have HR := kept hr
  have CS := kept (fun (W : World) A' c' r => sort_own w.heap.size A' c' r W)
  have CC := kept (fun (W : World) A' c' r => compact_own w.heap.size A' c' r W)
  have HT : Kept (textsT (txt l) = compT (sortT (txt l))) := ⟨rfl⟩
  have HTL := kept (txt_length l)
  have HSL := kept (sortT_length (txt l))
  clear hr
  go_enter Tryz.func76, Tryz.ntmps76
  go_wp2_with fail
  go_loopw [3, 8] (fun s i wr => ∃ (j : Nat) (rs : List ByteArray) (A' : Option Addr) (c' : Nat), j ≤ l.length ∧ i = .int .i64 (j : Int) ∧ s = .slice A' rs.length c' ∧ Kept (rs = (txt l).take j) ∧ rs.length ≤ l.length ∧ strE.Own wr w.heap.size 9 (.slice A' rs.length c') rs ∧ Below w.heap.size w wr) (fun _ i _ => l.length - (intOf i).toNat)
  case atStart => exact ⟨0, [], none, 0, Nat.zero_le _, rfl, rfl, ⟨rfl⟩, Nat.zero_le _, Elem.Own.nilv _ _ _ _, Below.refl _ _⟩
  case round =>
    obtain ⟨j, rs, A', c', hj, rfl, rfl, hrs, hrl, hown, hb⟩ := hrel
    by_cases hlt : j < l.length
    · obtain ⟨x, hx⟩ : ∃ x, l[j]? = some x := ⟨_, List.getElem?_eq_getElem hlt⟩
      obtain ⟨b, o, rfl, hbb, hcs⟩ := (HR.out.below hb).at_ hx
      have c0 : wr.cell? ⟨b, o + j * 3, none⟩ = some (.int .u16 (x.dev : Int)) := hcs 0 _ rfl
      have c1 : wr.cell? ⟨b, o + j * 3 + 1, none⟩ = some (.int .u64 (x.n : Int)) := hcs 1 _ rfl
      have c2 : wr.cell? ⟨b, o + j * 3 + 2, none⟩ = some (.string x.t) := hcs 2 _ rfl
      have hjn : (j : Int) < (l.length : Int) := by omega
      have HN : Kept (rs ++ [x.t] = (txt l).take (j + 1)) := ⟨by rw [txt_snoc hx, hrs.out]⟩
      obtain ⟨xd, xn, xt⟩ := x
      dsimp only at c0 c1 c2 HN
      have hsw := hb.size
      have hbA := hb.alloc hsw (.cells #[.int .u16 (xd : Int), .int .u64 (xn : Int), .string xt] 99)
      have hbB := hbA.alloc (by simp; omega) (.cells #[.string xt] 9)
      have hoB := (hown.alloc (.cells #[.int .u16 (xd : Int), .int .u64 (xn : Int), .string xt] 99)).alloc (.cells #[.string xt] 9)
      have hrn : strE.Rd ((wr.alloc (.cells #[.int .u16 (xd : Int), .int .u64 (xn : Int), .string xt] 99)).alloc (.cells #[.string xt] 9)) (wr.heap.size + 1 + 1) (some ⟨wr.heap.size + 1, 0, none⟩) [xt] := Rd.newAt _ [.string xt] 9 (by simp) (by omega)
      have hz : (rs.length + [xt].length) * 16 ≤ 140737488355328 := by simp; omega
      have hbase : w.heap.size ≤ ((wr.alloc (.cells #[.int .u16 (xd : Int), .int .u64 (xn : Int), .string xt] 99)).alloc (.cells #[.string xt] 9)).heap.size := by simp; omega
      clear hx hcs hrs hown hbA
      go_wp2_with (at_builtin; refine wpl_appE _ strE rfl (.tmp 12) (.tmp 15) 90 rfl w.heap.size 9 Tryz.underlying90 str_info rfl _ rs rfl hoB _ _ _ _ [xt] rfl rfl hrn hz (by decide) hbase ?_; intro A2 c2' w2 r2 hr2 hown2 hb2)
      have hb9 := hbB.trans hb2
      have HN2 : Kept (r2 = (txt l).take (j + 1)) := ⟨by rw [hr2.out, HN.out]⟩
      have hl2 : r2.length ≤ l.length := by rw [HN2.out, List.length_take, txt_length]; omega
      clear hr2 hoB hrn hbB hb2 c0 c1 c2
      go_wp2_with fail
      go_roundw
      case rel => exact ⟨j + 1, r2, A2, c2', by omega, by go_num, rfl, HN2, hl2, hown2, hb9⟩
      case measure => simp [intOf]; omega
    · have hjn : ¬ (j : Int) < (l.length : Int) := by omega
      have hrs2 : rs = txt l := by rw [hrs.out, List.take_of_length_le (by rw [txt_length]; omega)]
      have CS1 := kept (CS.out wr A' c' rs (own_str hown) (by omega))
      have HB := kept hb
      have HRS := kept hrs2
      clear hrs hown hb hrs2 CS HR
      go_wp2_with fail
      refine CS1.out.mono ?_
      rintro e w1 ⟨rfl, ho1, hb1⟩
      have hlr : (sortT rs).length = rs.length := sortT_length rs
      rw [← hlr] at ho1
      have CC1 := kept (CC.out w1 A' c' (sortT rs) ho1 (by omega))
      rw [hlr] at CC1
      have HB1 := kept (HB.out.trans hb1)
      clear ho1 hb1 CC CS1 hlr
      go_wp2_with fail
      refine CC1.out.mono ?_
      rintro e w2 ⟨rfl, ho2, hb2⟩
      have HG := kept (Elem.gives (l := textsT (txt l)) (r := compT (sortT rs)) (by rw [HT.out, HRS.out]) (str_own ho2) (HB1.out.trans hb2))
      clear ho2 hb2 CC1
      go_wp2_with fail
      go_ret
      exact HG.out
theorem filter_snoc {α : Type} (p : α → Bool) {l : List α} {j : Nat} {x : α} (h : l[j]? = some x) : (l.take (j + 1)).filter p = (l.take j).filter p ++ (if p x then [x] else []) := by
  have hlt := (List.getElem?_eq_some_iff.1 h).1
  have hx := (List.getElem?_eq_some_iff.1 h).2
  rw [List.take_succ_eq_append_getElem hlt, hx, List.filter_append]
  congr 1
  by_cases hp : p x = true
  · simp [hp]
  · simp [hp]
theorem gt_yes {x s : ByteArray} (h : Op.bytesLess s.toList x.toList = true) : Op.bytesLess x.toList s.toList = false ∧ (x.toList == s.toList) = false := by
  rw [less_tb, decide_eq_true_eq] at h
  refine ⟨?_, ?_⟩
  · rw [less_tb]
    exact decide_eq_false fun h2 => List.lt_irrefl _ (List.lt_trans h h2)
  · rw [str_beq]
    exact decide_eq_false fun e => by rw [e] at h; exact List.lt_irrefl _ h
theorem gt_no {x s : ByteArray} (h : Op.bytesLess s.toList x.toList = false) : Op.bytesLess x.toList s.toList = true ∨ (Op.bytesLess x.toList s.toList = false ∧ (x.toList == s.toList) = true) := by
  rw [less_tb, decide_eq_false_iff_not] at h
  by_cases h2 : tb x < tb s
  · left; rw [less_tb]; exact decide_eq_true h2
  · right
    rw [less_tb, str_beq]
    exact ⟨decide_eq_false h2, decide_eq_true (tb_inj (lt_tot h2 h))⟩
set_option maxRecDepth 100000 in
theorem rput_any (A : Option Addr) (l : List ByteArray) (c : Nat) (s : ByteArray) (w : World) (hr : strE.Rd w w.heap.size A l) (hsz : l.length ≤ 1000000000) :
    Calls Tryz.prog 97 #[.slice A l.length c, .string s] w (strE.Gives 9 w (putT l s)) := by
  have HR := kept hr
  have HP : Kept (putT l s = l.filter (fun x => Op.bytesLess x.toList s.toList) ++ s :: l.filter (fun x => Op.bytesLess s.toList x.toList)) := ⟨rfl⟩
  clear hr
  go_enter Tryz.func97, Tryz.ntmps97
  go_wp2_with fail
  go_loopw [5, 6] (fun t i wr => ∃ (j : Nat) (rs : List ByteArray) (A' : Option Addr) (c' : Nat), j ≤ l.length ∧ i = .int .i64 (j : Int) ∧ t = .slice A' rs.length c' ∧ Kept (rs = (l.take j).filter fun x => Op.bytesLess x.toList s.toList) ∧ rs.length ≤ j ∧ strE.Own wr w.heap.size 9 (.slice A' rs.length c') rs ∧ Below w.heap.size w wr) (fun _ i _ => l.length - (intOf i).toNat)
  case atStart => exact ⟨0, [], none, 0, Nat.zero_le _, rfl, rfl, ⟨rfl⟩, Nat.zero_le _, Elem.Own.nilv _ _ _ _, Below.refl _ _⟩
  case round =>
    obtain ⟨j, rs, A', c', hj, rfl, rfl, hrs, hrl, hown, hb⟩ := hrel
    by_cases hlt : j < l.length
    · obtain ⟨x, hx⟩ : ∃ x, l[j]? = some x := ⟨_, List.getElem?_eq_getElem hlt⟩
      obtain ⟨b, o, rfl, hbb, hcs⟩ := (HR.out.below hb).at_ hx
      have c0 : wr.cell? ⟨b, o + j, none⟩ = some (.string x) := by have := hcs 0 _ rfl; rw [show j * strE.k + 0 = j from Nat.mul_one j] at this; exact this
      have hjn : (j : Int) < (l.length : Int) := by omega
      have HN := kept (filter_snoc (fun x => Op.bytesLess x.toList s.toList) hx)
      rw [← hrs.out] at HN
      cases hp : Op.bytesLess x.toList s.toList with
      | true =>
        · rw [hp] at HN
          clear hcs
          have hsw := hb.size
          have hbB := hb.alloc hsw (.cells #[.string x] 9)
          have hoB := hown.alloc (.cells #[.string x] 9)
          have hrn : strE.Rd (wr.alloc (.cells #[.string x] 9)) (wr.heap.size + 1) (some ⟨wr.heap.size, 0, none⟩) [x] := Rd.new _ [.string x] 9
          have hz : (rs.length + [x].length) * 16 ≤ 140737488355328 := by simp; omega
          have hbase : w.heap.size ≤ (wr.alloc (.cells #[.string x] 9)).heap.size := by simp; omega
          clear hx hrs hown
          go_wp2_with (at_builtin; refine wpl_appE _ strE rfl (.tmp 20) (.tmp 25) 90 rfl w.heap.size 9 Tryz.underlying90 str_info rfl _ rs rfl hoB _ _ _ _ [x] rfl rfl hrn hz (by decide) hbase ?_; intro A2 c2' w2 r2 hr2 hown2 hb2)
          have hb9 := hbB.trans hb2
          have hl2 : r2.length = rs.length + 1 := by rw [hr2.out]; simp
          have HN2 : Kept (r2 = (l.take (j + 1)).filter fun x => Op.bytesLess x.toList s.toList) := ⟨by rw [hr2.out, HN.out]; rfl⟩
          clear hr2 hoB hrn hbB hb2 c0
          go_wp2_with fail
          go_roundw
          case rel => exact ⟨j + 1, r2, A2, c2', by omega, by go_num, rfl, HN2, by omega, hown2, hb9⟩
          case measure => simp [intOf]; omega
      | false =>
        rw [hp] at HN
        have HN2 : Kept (rs = (l.take (j + 1)).filter fun x => Op.bytesLess x.toList s.toList) := ⟨by rw [HN.out]; simp⟩
        clear hx hcs hrs
        go_wp2_with fail
        go_roundw
        case rel => exact ⟨j + 1, rs, A', c', by omega, by go_num, rfl, HN2, by omega, hown, hb⟩
        case measure => simp [intOf]; omega
    · have hjn : ¬ (j : Int) < (l.length : Int) := by omega
      obtain rfl : j = l.length := by omega
      rw [List.take_length] at hrs
      have hsw := hb.size
      have hbB := hb.alloc hsw (.cells #[.string s] 9)
      have hoB := hown.alloc (.cells #[.string s] 9)
      have hrn : strE.Rd (wr.alloc (.cells #[.string s] 9)) (wr.heap.size + 1) (some ⟨wr.heap.size, 0, none⟩) [s] := Rd.new _ [.string s] 9
      have hz : (rs.length + [s].length) * 16 ≤ 140737488355328 := by simp; omega
      have hbase : w.heap.size ≤ (wr.alloc (.cells #[.string s] 9)).heap.size := by simp; omega
      have HRS := hrs
      clear hrs hown
      go_wp2_with (at_builtin; refine wpl_appE _ strE rfl (.tmp 27) (.tmp 29) 90 rfl w.heap.size 9 Tryz.underlying90 str_info rfl _ rs rfl hoB _ _ _ _ [s] rfl rfl hrn hz (by decide) hbase ?_; intro A1 c1 w1 r1 hr1 hown1 hb1)
      have hb9 := hbB.trans hb1
      have HR1 : Kept (r1 = l.filter (fun x => Op.bytesLess x.toList s.toList) ++ [s]) := ⟨by rw [hr1.out, HRS.out]⟩
      have hl1 : r1.length ≤ l.length + 1 := by rw [hr1.out]; simp; omega
      clear hr1 hoB hrn hbB hb1 HRS hz hbase hb
      go_wp2_with fail
      go_loopw [5, 7] (fun t i wr => ∃ (j : Nat) (rs : List ByteArray) (A' : Option Addr) (c' : Nat), j ≤ l.length ∧ i = .int .i64 (j : Int) ∧ t = .slice A' rs.length c' ∧ Kept (rs = r1 ++ (l.take j).filter fun x => Op.bytesLess s.toList x.toList) ∧ rs.length ≤ l.length + 1 + j ∧ strE.Own wr w.heap.size 9 (.slice A' rs.length c') rs ∧ Below w.heap.size w wr) (fun _ i _ => l.length - (intOf i).toNat)
      case atStart => exact ⟨0, r1, A1, c1, Nat.zero_le _, rfl, rfl, ⟨by simp⟩, by omega, hown1, hb9⟩
      case round =>
        clear hown1 hb9 hsw
        obtain ⟨j, rs, A', c', hj, rfl, rfl, hrs, hrl, hown, hb⟩ := hrel
        by_cases hlt : j < l.length
        · obtain ⟨x, hx⟩ : ∃ x, l[j]? = some x := ⟨_, List.getElem?_eq_getElem hlt⟩
          obtain ⟨b, o, rfl, hbb, hcs⟩ := (HR.out.below hb).at_ hx
          have c0 : wr.cell? ⟨b, o + j, none⟩ = some (.string x) := by have := hcs 0 _ rfl; rw [show j * strE.k + 0 = j from Nat.mul_one j] at this; exact this
          have hjn : (j : Int) < (l.length : Int) := by omega
          have HN := kept (filter_snoc (fun x => Op.bytesLess s.toList x.toList) hx)
          cases hp : Op.bytesLess s.toList x.toList with
          | true =>
            · obtain ⟨hp1, hp2⟩ := gt_yes hp
              have HN0 : Kept (rs ++ [x] = r1 ++ (l.take (j + 1)).filter fun x => Op.bytesLess s.toList x.toList) := ⟨by rw [HN.out, hrs.out, hp, List.append_assoc]; rfl⟩
              clear hcs HN
              have hsw := hb.size
              have hbB := hb.alloc hsw (.cells #[.string x] 9)
              have hoB := hown.alloc (.cells #[.string x] 9)
              have hrn : strE.Rd (wr.alloc (.cells #[.string x] 9)) (wr.heap.size + 1) (some ⟨wr.heap.size, 0, none⟩) [x] := Rd.new _ [.string x] 9
              have hz : (rs.length + [x].length) * 16 ≤ 140737488355328 := by simp; omega
              have hbase : w.heap.size ≤ (wr.alloc (.cells #[.string x] 9)).heap.size := by simp; omega
              clear hx hrs hown
              go_wp2_with (at_builtin; refine wpl_appE _ strE rfl (.tmp 43) (.tmp 48) 90 rfl w.heap.size 9 Tryz.underlying90 str_info rfl _ rs rfl hoB _ _ _ _ [x] rfl rfl hrn hz (by decide) hbase ?_; intro A2 c2' w2 r2 hr2 hown2 hb2)
              have hb9 := hbB.trans hb2
              have hl2 : r2.length = rs.length + 1 := by rw [hr2.out]; simp
              have HN2 : Kept (r2 = r1 ++ (l.take (j + 1)).filter fun x => Op.bytesLess s.toList x.toList) := ⟨by rw [hr2.out, HN0.out]⟩
              clear hr2 hoB hrn hbB hb2 c0
              go_wp2_with fail
              go_roundw
              case rel => exact ⟨j + 1, r2, A2, c2', by omega, by go_num, rfl, HN2, by omega, hown2, hb9⟩
              case measure => simp [intOf]; omega
          | false =>
            have HN2 : Kept (rs = r1 ++ (l.take (j + 1)).filter fun x => Op.bytesLess s.toList x.toList) := ⟨by rw [HN.out, hrs.out, hp]; simp⟩
            clear hx hcs hrs HN
            rcases gt_no hp with hp1 | ⟨hp1, hp2⟩
            all_goals
              go_wp2_with fail
              go_roundw
              case rel => exact ⟨j + 1, rs, A', c', by omega, by go_num, rfl, HN2, by omega, hown, hb⟩
              case measure => simp [intOf]; omega
        · have hjn : ¬ (j : Int) < (l.length : Int) := by omega
          obtain rfl : j = l.length := by omega
          have HF : Kept (rs = putT l s) := ⟨by rw [hrs.out, List.take_length, HR1.out, HP.out]; simp⟩
          have HG := kept (Elem.gives HF.out hown hb)
          clear hrs hown hb
          go_wp2_with fail
          go_ret
          exact HG.out
theorem putAll_snoc (l : List ByteArray) (x : ByteArray) : putAll (l ++ [x]) = putT (putAll l) x := by unfold putAll; rw [List.foldl_append]; rfl
theorem putAll_length (l : List ByteArray) : (putAll l).length ≤ l.length := by rw [← texts_eq]; exact texts_length l
theorem rtexts_any (A : Option Addr) (l : List ValM) (c : Nat) (w : World) (hr : valE.Rd w w.heap.size A l) (hsz : l.length ≤ 1000000000) :
    Calls Tryz.prog 79 #[.slice A l.length c] w (strE.Gives 9 w (textsT (txt l))) := by
  have HR := kept hr
  have HT := kept (texts_eq (txt l))
  have HTL := kept (txt_length l)
  clear hr
  go_enter Tryz.func79, Tryz.ntmps79
  go_wp2_with fail
  go_loopw [3, 4] (fun s i wr => ∃ (j : Nat) (rs : List ByteArray) (A' : Option Addr) (c' : Nat), j ≤ l.length ∧ i = .int .i64 (j : Int) ∧ s = .slice A' rs.length c' ∧ Kept (rs = putAll ((txt l).take j)) ∧ strE.Own wr w.heap.size 9 (.slice A' rs.length c') rs ∧ Below w.heap.size w wr) (fun _ i _ => l.length - (intOf i).toNat)
  case atStart => exact ⟨0, [], none, 0, Nat.zero_le _, rfl, rfl, ⟨rfl⟩, Elem.Own.nilv _ _ _ _, Below.refl _ _⟩
  case round =>
    obtain ⟨j, rs, A', c', hj, rfl, rfl, hrs, hown, hb⟩ := hrel
    by_cases hlt : j < l.length
    · obtain ⟨x, hx⟩ : ∃ x, l[j]? = some x := ⟨_, List.getElem?_eq_getElem hlt⟩
      obtain ⟨b, o, rfl, hbb, hcs⟩ := (HR.out.below hb).at_ hx
      have c1 : wr.cell? ⟨b, o + j * 3 + 1 + 1, none⟩ = some (.string x.t) := hcs 2 _ rfl
      have c2 : wr.cell? ⟨b, o + j * 3 + 2, none⟩ = some (.string x.t) := hcs 2 _ rfl
      have hjn : (j : Int) < (l.length : Int) := by omega
      have HN : Kept (putT rs x.t = putAll ((txt l).take (j + 1))) := ⟨by rw [txt_snoc hx, putAll_snoc, hrs.out]⟩
      have hrl : rs.length ≤ 1000000000 := by
        have := putAll_length ((txt l).take j)
        rw [← hrs.out, List.length_take] at this
        omega
      have CP := kept (rput_any A' rs c' x.t wr hown.rd hrl)
      have HB := kept hb
      generalize putT rs x.t = rs2 at *
      clear hx hcs hrs hown hb
      go_wp2_with fail
      refine CP.out.mono ?_
      rintro e w2 ⟨A2, c2', rfl, ho2, -, hb2⟩
      have HO2 := kept (ho2.mono HB.out.size)
      have HB2 := kept (HB.out.trans (hb2.mono HB.out.size))
      clear ho2 hb2 CP c1 c2
      go_wp2_with fail
      go_roundw
      case rel => exact ⟨j + 1, rs2, A2, c2', by omega, by go_num, rfl, HN, HO2.out, HB2.out⟩
      case measure => simp [intOf]; omega
    · have hjn : ¬ (j : Int) < (l.length : Int) := by omega
      have HG := kept (Elem.gives (l := textsT (txt l)) (r := rs) (by rw [hrs.out, List.take_of_length_le (by rw [txt_length]; omega), HT.out]) hown hb)
      clear hrs hown hb
      go_wp2_with fail
      go_ret
      exact HG.out
end Go.Proofs.YtfkfpanhbanljaaGreat.Reg

/- Layer 14 (reg): slices.IndexFunc, DeleteFunc of texts that are one text. -/
namespace Go.Proofs.YtfkfpanhbanljaaGreat.Reg
open Go.RowKit Go.Proofs.YtfkfpanhbanljaaGreat.Mem Go.Proofs.YtfkfpanhbanljaaGreat.Card Go.Proofs.YtfkfpanhbanljaaGreat.LaidS

def isT (s x : ByteArray) : Bool := x.toList == s.toList
theorem sclo_any (x s : ByteArray) (g : Nat) (w : World) (hc : w.cell? ⟨g, 2, none⟩ = some (.string s)) :
    Calls Tryz.prog 77 #[.string x, .pointer (some ⟨g, 0, none⟩)] w fun e w' => e = .returned (.bool (isT s x)) ∧ w = w' := by
  unfold isT
  go_enter Tryz.func77, Tryz.ntmps77
  go_wp2
  go_ret
  exact ⟨rfl, rfl⟩
theorem strE_get {w : World} {B : Nat} {A : Option Addr} {l : List ByteArray} (h : strE.Rd w B A l) {i : Nat} {x : ByteArray} (hi : l[i]? = some x) : ∃ b o, A = some ⟨b, o, none⟩ ∧ b < B ∧ w.cell? ⟨b, o + i, none⟩ = some (.string x) := by
  obtain ⟨b, o, e, hb, hc⟩ := h.at_ hi
  refine ⟨b, o, e, hb, ?_⟩
  have := hc 0 _ rfl
  rw [show i * strE.k + 0 = i from Nat.mul_one i] at this
  exact this
theorem sidx_at (A : Option Addr) (n c : Nat) (l : List ByteArray) (s : ByteArray) (g k0 : Nat) (x0 : ByteArray) (w : World) (hn : n = l.length) (hr : strE.Rd w w.heap.size A l) (hc : w.cell? ⟨g, 2, none⟩ = some (.string s))
    (hk0 : l[k0]? = some x0) (hx0 : isT s x0 = true) (hbef : ∀ (j : Nat) y, j < k0 → l[j]? = some y → isT s y = false) (hsz : l.length ≤ 9223372036854775807) :
    Calls Tryz.prog 93 #[.slice A n c, .func (.func 77) #[] #[.pointer (some ⟨g, 0, none⟩)]] w fun e w' => e = .returned (.int .i64 (k0 : Int)) ∧ w = w' := by
  subst hn
  have hlt0 := (List.getElem?_eq_some_iff.1 hk0).1
  have HC := kept hc
  have HR := kept hr
  clear hc hr
  go_enter Tryz.func93, Tryz.ntmps93
  go_wp2
  go_loopw [8] (fun i wr => ∃ k : Nat, k ≤ k0 ∧ i = .int .i64 (k : Int) ∧ w = wr) (fun i _ => l.length - (intOf i).toNat)
  case atStart => exact ⟨0, Nat.zero_le _, rfl, rfl⟩
  case round =>
    obtain ⟨k, hk, rfl, rfl⟩ := hrel
    have hlt : k < l.length := by omega
    obtain ⟨x, hx⟩ : ∃ x, l[k]? = some x := ⟨_, List.getElem?_eq_getElem hlt⟩
    obtain ⟨b, o, rfl, hbb, hx1⟩ := strE_get HR.out hx
    have hcc := kept (sclo_any x s g w HC.out)
    by_cases he : k = k0
    · subst he
      obtain rfl : x = x0 := Option.some.inj (hx.symm.trans hk0)
      rw [hx0] at hcc
      clear hx hx0 hbef hk0
      go_wp2_with fail
      refine hcc.out.mono ?_
      rintro e w1 ⟨rfl, rfl⟩
      go_wp2
      go_ret
      exact ⟨rfl, rfl⟩
    · have hf := hbef k x (by omega) hx
      rw [hf] at hcc
      clear hx hf
      go_wp2_with fail
      refine hcc.out.mono ?_
      rintro e w1 ⟨rfl, rfl⟩
      go_wp2
      go_roundw
      case rel => exact ⟨k + 1, by omega, by go_num, trivial⟩
      case measure => simp [intOf]; omega
theorem sidx_none (A : Option Addr) (n c : Nat) (l : List ByteArray) (s : ByteArray) (g : Nat) (w : World) (hn : n = l.length) (hr : strE.Rd w w.heap.size A l) (hc : w.cell? ⟨g, 2, none⟩ = some (.string s))
    (hbef : ∀ (j : Nat) y, l[j]? = some y → isT s y = false) (hsz : l.length ≤ 9223372036854775807) :
    Calls Tryz.prog 93 #[.slice A n c, .func (.func 77) #[] #[.pointer (some ⟨g, 0, none⟩)]] w fun e w' => e = .returned (.int .i64 (-1)) ∧ w = w' := by
  subst hn
  have HC := kept hc
  have HR := kept hr
  clear hc hr
  go_enter Tryz.func93, Tryz.ntmps93
  go_wp2
  go_loopw [8] (fun i wr => ∃ k : Nat, k ≤ l.length ∧ i = .int .i64 (k : Int) ∧ w = wr) (fun i _ => l.length - (intOf i).toNat)
  case atStart => exact ⟨0, Nat.zero_le _, rfl, rfl⟩
  case round =>
    obtain ⟨k, hk, rfl, rfl⟩ := hrel
    by_cases hlt : k < l.length
    · obtain ⟨x, hx⟩ : ∃ x, l[k]? = some x := ⟨_, List.getElem?_eq_getElem hlt⟩
      obtain ⟨b, o, rfl, hbb, hx1⟩ := strE_get HR.out hx
      have hcc := kept (sclo_any x s g w HC.out)
      rw [hbef k x hx] at hcc
      clear hx
      go_wp2_with fail
      refine hcc.out.mono ?_
      rintro e w1 ⟨rfl, rfl⟩
      go_wp2
      go_roundw
      case rel => exact ⟨k + 1, by omega, by go_num, trivial⟩
      case measure => simp [intOf]; omega
    · go_wp2
      go_ret
      exact ⟨rfl, rfl⟩
def noT (s : ByteArray) (l : List ByteArray) : List ByteArray := l.filter fun x => !(isT s x)
set_option maxRecDepth 100000 in
set_option maxHeartbeats 1000000 in
theorem sdel_any (base : Nat) (A : Option Addr) (c : Nat) (l : List ByteArray) (s : ByteArray) (g : Nat) (w : World) (h : strE.Own w base 9 (.slice A l.length c) l) (hc : w.cell? ⟨g, 2, none⟩ = some (.string s)) (hg : g < base) (hbs : base ≤ w.heap.size) (hsz : l.length ≤ 1000000000) :
    Calls Tryz.prog 75 #[.slice A l.length c, .func (.func 77) #[] #[.pointer (some ⟨g, 0, none⟩)]] w fun e w' =>
      ∃ A' c', e = .returned (.slice A' (noT s l).length c') ∧ strE.Own w' base 9 (.slice A' (noT s l).length c') (noT s l) ∧ Below base w w' := by
  rcases find_cases (isT s) l with ⟨-, hn⟩ | ⟨k0, x0, hk0, -, hx0, hbef⟩
  · have CI := kept (sidx_none A l.length c l s g w rfl h.rd hc hn (by omega))
    have HF : Kept (noT s l = l) := ⟨List.filter_eq_self.2 fun x hx => by
      obtain ⟨j, hj⟩ := List.getElem?_of_mem hx
      rw [hn j x hj]; rfl⟩
    have HO := kept h
    clear h hc hn
    go_enter Tryz.func75, Tryz.ntmps75
    go_wp2_with fail
    refine CI.out.mono ?_
    rintro e w1 ⟨rfl, rfl⟩
    go_wp2_with fail
    go_ret
    exact ⟨A, c, by rw [HF.out]; rfl, by rw [HF.out]; exact HO.out, Below.refl _ _⟩
  · have CI := kept (sidx_at A l.length c l s g k0 x0 w rfl h.rd hc hk0 hx0 hbef (by omega))
    have hlt0 := (List.getElem?_eq_some_iff.1 hk0).1
    have hcap : l.length ≤ c := h.cap
    obtain ⟨r, rfl, hbr, hrw, -, -, -⟩ := h.spot (i := k0) (j := 0) hk0 rfl
    have HNO : Kept (∀ q : List ByteArray, noT s q = q.filter fun x => !(isT s x)) := ⟨fun _ => rfl⟩
    have h0 : l.take k0 = noT s (l.take (k0 + 1)) := by
      rw [HNO.out, filter_snoc (fun x => !(isT s x)) hk0, hx0]
      have : (l.take k0).filter (fun x => !(isT s x)) = l.take k0 := List.filter_eq_self.2 fun x hx => by
        obtain ⟨j, hj⟩ := List.getElem?_of_mem hx
        rw [List.getElem?_take] at hj
        split at hj
        · rw [hbef j x (by assumption) hj]; rfl
        · cases hj
      rw [this]; simp
    have H0 := kept h0
    have HO := kept h
    have HC := kept hc
    have hkm : ((k0 : Int) == -1) = false := by rw [beq_eq_false_iff_ne]; omega
    clear h hc hbef hk0 hx0 h0
    go_enter Tryz.func75, Tryz.ntmps75
    go_wp2_with fail
    refine CI.out.mono ?_
    rintro e w1 ⟨rfl, rfl⟩
    clear CI
    go_wp2_with fail
    go_loopw [5, 6] (fun iv jv wr => ∃ (i j : Nat) (cur : List ByteArray), k0 < j ∧ j ≤ l.length ∧ i < j ∧ iv = .int .i64 (i : Int) ∧ jv = .int .i64 (j : Int) ∧ Kept (cur.take i = noT s (l.take j) ∧ cur.drop j = l.drop j ∧ cur.length = l.length) ∧ strE.Own wr base 9 (.slice (some ⟨r, 0, none⟩) l.length c) cur ∧ Below base w wr) (fun _ jv _ => l.length - (intOf jv).toNat)
    case atStart => exact ⟨k0, k0 + 1, l, by omega, by omega, by omega, rfl, by go_num, ⟨H0.out, rfl, rfl⟩, HO.out, Below.refl _ _⟩
    case round =>
      obtain ⟨i, j, cur, hkj, hj, hij, rfl, rfl, hcu, hown, hb⟩ := hrel
      have hin : i ≤ 1000000000 := by omega
      by_cases hlt : j < l.length
      · obtain ⟨x, hx⟩ : ∃ x, l[j]? = some x := ⟨_, List.getElem?_eq_getElem hlt⟩
        have hxc : cur[j]? = some x := by
          have e := congrArg (·[0]?) hcu.out.2.1
          simpa [hx] using e
        obtain ⟨r1, hr1, -, -, hcj, -, -⟩ := hown.spot (i := j) (j := 0) hxc rfl
        obtain rfl : r = r1 := congrArg Addr.block (Option.some.inj hr1)
        have c0 : wr.cell? ⟨r, j, none⟩ = some (.string x) := by rw [show j * strE.k + 0 = j from Nat.mul_one j] at hcj; exact hcj
        have hcc := kept (sclo_any x s g wr ((hb.cell (p := ⟨g, 2, none⟩) hg).trans HC.out))
        have HSN := kept (filter_snoc (fun x => !(isT s x)) hx)
        rw [← HNO.out, ← HNO.out] at HSN
        have HDR : Kept (cur.drop (j + 1) = l.drop (j + 1)) := ⟨by
          have e := congrArg (List.drop 1) hcu.out.2.1
          simpa [List.drop_drop] using e⟩
        have hjn : (j : Int) < (l.length : Int) := by omega
        cases ht : isT s x with
        | true =>
          rw [ht] at hcc HSN
          have HN : Kept (cur.take i = noT s (l.take (j + 1)) ∧ cur.drop (j + 1) = l.drop (j + 1) ∧ cur.length = l.length) := ⟨by rw [HSN.out]; simpa using hcu.out.1, HDR.out, hcu.out.2.2⟩
          clear hx hxc hr1 hcj ht HSN HDR hcu
          go_wp2_with fail
          refine hcc.out.mono ?_
          rintro e w1 ⟨rfl, rfl⟩
          go_wp2_with fail
          go_roundw
          case rel => exact ⟨i, j + 1, cur, by omega, by omega, by omega, rfl, by go_num, HN, hown, hb⟩
          case measure => simp [intOf]; omega
        | false =>
          rw [ht] at hcc HSN
          have hic : i < cur.length := by rw [hcu.out.2.2]; omega
          obtain ⟨y, hy⟩ : ∃ y, cur[i]? = some y := ⟨_, List.getElem?_eq_getElem hic⟩
          obtain ⟨r2, hr2, -, -, hci, hfi, hst⟩ := hown.spot (i := i) (j := 0) hy rfl
          obtain rfl : r = r2 := congrArg Addr.block (Option.some.inj hr2)
          obtain ⟨ho2, hg2⟩ := hst x (.string x) rfl
          rw [show i * strE.k + 0 = i from Nat.mul_one i] at hci hfi ho2 hg2
          have HO2 := kept ho2
          have HB2 := kept (hb.setCell (p := ⟨r, i, none⟩) hbr (.string x))
          have HN : Kept ((cur.set i x).take (i + 1) = noT s (l.take (j + 1)) ∧ (cur.set i x).drop (j + 1) = l.drop (j + 1) ∧ (cur.set i x).length = l.length) := ⟨by
            rw [HSN.out, List.take_succ_eq_append_getElem (by rw [List.length_set]; exact hic), List.take_set_of_le (Nat.le_refl i), hcu.out.1]
            simp, by rw [List.drop_set_of_lt (by omega)]; exact HDR.out, by rw [List.length_set]; exact hcu.out.2.2⟩
          have hil : i < l.length := by omega
          have hiln : (i : Int) < (l.length : Int) := by omega
          clear hx hxc hr1 hcj ht HSN HDR hcu hy hr2 hst ho2 hg2 hic hown hb
          go_wp2_with fail
          refine hcc.out.mono ?_
          rintro e w1 ⟨rfl, rfl⟩
          go_wp2_with fail
          go_roundw
          case rel => exact ⟨i + 1, j + 1, cur.set i x, by omega, by omega, by omega, by go_num, by go_num, HN, HO2.out, HB2.out⟩
          case measure => simp [intOf]; omega
      · obtain rfl : j = l.length := by omega
        have hcl := hown.cleared (i := i) hij 90 Tryz.underlying90 (.string ⟨#[]⟩) (by kernel_rfl) (by intro u hu; simp [Value.cells] at hu; subst hu; rfl) (by rfl) (c - i)
        rw [show i * strE.k = i from Nat.mul_one i] at hcl
        obtain ⟨hrun, ho3, hu3⟩ := hcl
        have HF : Kept (cur.take i = noT s l) := ⟨by rw [hcu.out.1, List.take_length]⟩
        have HO3 := kept ho3
        have HB3 := kept (hb.trans (hu3.below (Nat.le_trans hbs hb.size) (fun k _ e => by omega)))
        have hjn : ¬ (l.length : Int) < (l.length : Int) := by omega
        have e1 : (i : Int) ≤ (l.length : Int) := by omega
        have e2 : (l.length : Int) ≤ (c : Int) := by omega
        have e3 : ¬ c = i := by omega
        have e4 : (0 : Int) ≤ (i : Int) := by omega
        have e5 : (i : Int) ≤ (c : Int) := by omega
        have e6 : i ≤ l.length := by omega
        have e7 : i ≤ c := by omega
        have hil : (noT s l).length = i := by rw [← HF.out, List.length_take]; rw [hcu.out.2.2]; omega
        have HIL := kept hil
        clear hcu ho3 hu3 hown hb hil
        go_wp2_with fail
        go_ret
        refine ⟨some ⟨r, 0, none⟩, c, by rw [HIL.out]; rfl, ?_, HB3.out⟩
        rw [HIL.out, ← HF.out]
        exact HO3.out
end Go.Proofs.YtfkfpanhbanljaaGreat.Reg
