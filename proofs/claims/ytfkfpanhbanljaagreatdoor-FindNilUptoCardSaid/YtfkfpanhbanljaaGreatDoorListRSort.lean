/- Layer 44 (list): the document's Sort. (printed by tools/genrso.py) -/
import Derived.Test.YtfkfpanhbanljaaGreatDoorListSort
import Derived.Test.YtfkfpanhbanljaaGreatDoorHeldCall
import Derived.BigQuiet
import Derived.Deep.DeepCutAuto
namespace Go.Proofs.YtfkfpanhbanljaaGreatDoor.List44
open Go.RowKit Go.Proofs.YtfkfpanhbanljaaGreatDoor.Mem Go.Proofs.YtfkfpanhbanljaaGreatDoor.Card Go.Proofs.YtfkfpanhbanljaaGreatDoor.Laid Go.Proofs.YtfkfpanhbanljaaGreatDoor.Stab

/-- the cards that were put anew so far -/
def InsC (outs : List CardM) (x : CardM) (i : Nat) (d : Bool) (nx : List CardM) : Prop :=
  (d = false ∧ nx = outs.take i ∧ ∀ h ∈ outs.take i, ltC x h = false) ∨
  (d = true ∧ ∃ U V, outs.take i = U ++ V ∧ nx = U ++ x :: V ∧ (∀ u ∈ U, ltC x u = false) ∧ ∃ v, V.head? = some v ∧ ltC x v = true)
section
variable {outs nx : List CardM} {x h : CardM} {i : Nat}
theorem take_more {α : Type} {l : List α} {k : Nat} {x : α} (hx : l[k]? = some x) : l.take (k + 1) = l.take k ++ [x] := by
  obtain ⟨h1, h2⟩ := List.getElem?_eq_some_iff.1 hx
  rw [List.take_succ_eq_append_getElem h1, h2]
theorem InsC.start (outs : List CardM) (x : CardM) : InsC outs x 0 false [] := .inl ⟨rfl, by simp, fun h hh => by simp at hh⟩
theorem InsC.no (hs : InsC outs x i false nx) (hh : outs[i]? = some h) (ha : ltC x h = false) : InsC outs x (i + 1) false (nx ++ [h]) := by
  rcases hs with ⟨-, h1, h2⟩ | ⟨h1, -⟩
  · refine .inl ⟨rfl, by rw [take_more hh, h1], fun q hq => ?_⟩
    rw [take_more hh] at hq
    rcases List.mem_append.1 hq with hq | hq
    · exact h2 q hq
    · rw [List.mem_singleton.1 hq]; exact ha
  · cases h1
theorem InsC.yes (hs : InsC outs x i false nx) (hh : outs[i]? = some h) (ha : ltC x h = true) : InsC outs x (i + 1) true (nx ++ [x] ++ [h]) := by
  rcases hs with ⟨-, h1, h2⟩ | ⟨h1, -⟩
  · exact .inr ⟨rfl, outs.take i, [h], take_more hh, by rw [h1]; simp, h2, h, rfl, ha⟩
  · cases h1
theorem InsC.more (hs : InsC outs x i true nx) (hh : outs[i]? = some h) : InsC outs x (i + 1) true (nx ++ [h]) := by
  rcases hs with ⟨h1, -⟩ | ⟨-, U, V, h1, h2, h3, v, h4, h5⟩
  · cases h1
  · refine .inr ⟨rfl, U, V ++ [h], by rw [take_more hh, h1, List.append_assoc], by rw [h2]; simp, h3, v, ?_, h5⟩
    cases V with
    | nil => cases h4
    | cons q V => exact h4
theorem InsC.end_yes (hs : InsC outs x outs.length true nx) : nx = ins ltC outs x := by
  rcases hs with ⟨h1, -⟩ | ⟨-, U, V, h1, h2, h3, v, h4, h5⟩
  · cases h1
  · rw [List.take_length] at h1
    rw [h2, h1, ins_split U V x h3]
    intro q hq
    rw [h4] at hq
    obtain rfl := Option.some.inj hq
    exact h5
theorem InsC.end_no (hs : InsC outs x outs.length false nx) : nx ++ [x] = ins ltC outs x := by
  rcases hs with ⟨-, h1, h2⟩ | ⟨h1, -⟩
  · rw [List.take_length] at h1 h2
    have := ins_split (lt := ltC) outs [] x h2 (fun v hv => by cases hv)
    rw [List.append_nil] at this
    rw [h1, this]
  · cases h1
theorem InsC.len {d : Bool} (hs : InsC outs x i d nx) : nx.length ≤ i + 1 := by
  rcases hs with ⟨-, h1, -⟩ | ⟨-, U, V, h1, h2, -⟩
  · rw [h1, List.length_take]; omega
  · have := congrArg List.length h1
    rw [List.length_take, List.length_append] at this
    rw [h2, List.length_append, List.length_cons]
    omega
end
/-- a row of given cards is given -/
def GivesC (w : World) (l : List CardM) (e : Ending) (w' : World) : Prop := ∃ A' c', e = .returned (.slice A' l.length c') ∧ RdCards w' w'.heap.size A' l ∧ Below w.heap.size w w'
set_option maxRecDepth 100000 in
set_option maxHeartbeats 8000000 in
theorem rsort_any (A : Option Addr) (l : List CardM) (c : Nat) (w : World) (hr : RdCards w w.heap.size A l) (hn : l.length ≤ 100) (hs : Short l) :
    Calls Tryz.prog 38 #[.slice A l.length c] w (GivesC w (stab ltC l)) := by
  have HL := kept hr
  have HS := kept hs
  have H0 : Kept (Below w.heap.size w w) := ⟨Below.refl _ _⟩
  have HM0 : Kept (([] : List CardM) = stab ltC (l.take 0)) := ⟨rfl⟩
  have HG0 : Kept (cardE.Rd w w.heap.size none []) := ⟨Elem.Rd.nil _⟩
  obtain ⟨T0, hT0⟩ : ∃ T0, stab ltC l = T0 := ⟨_, rfl⟩
  have HR : Kept (∀ (q : List CardM) A' c' W, q = stab ltC l → cardE.Rd W W.heap.size A' q → Below w.heap.size w W → GivesC w T0 (.returned (.slice A' q.length c')) W) := ⟨fun q A' c' W e h1 h2 => by
    subst e
    rw [hT0] at h1 ⊢
    exact ⟨A', c', rfl, ⟨h1, fun x hx => (hr.2 x (by rw [← hT0] at hx; exact (stab_perm l).mem_iff.1 hx)).next h2⟩, h2⟩⟩
  rw [hT0]
  clear hr hs hT0
  go_enter Tryz.func38, Tryz.ntmps38
  go_wp2_with fail
  go_loopw [3, 4] (fun ov iv wr => ∃ (i : Nat) (A2 : Option Addr) (c2 : Nat) (outs : List CardM), i ≤ l.length ∧ ov = .slice A2 outs.length c2 ∧ iv = .int .i64 (i : Int) ∧ outs.length ≤ 1000 ∧ Kept (outs = stab ltC (l.take i)) ∧ Kept (cardE.Rd wr wr.heap.size A2 outs) ∧ Kept (Below w.heap.size w wr)) (fun _ iv _ => l.length - (intOf iv).toNat)
  case atStart => exact ⟨0, none, 0, [], Nat.zero_le _, rfl, rfl, Nat.zero_le _, HM0, HG0, H0⟩
  case round =>
    clear HM0 HG0 H0
    obtain ⟨i, A2, c2, outs, hi, rfl, rfl, ho1000, HM, HG, HU⟩ := hrel
    by_cases hlt : i < l.length
    · have hin : (i : Int) < (l.length : Int) := by omega
      obtain ⟨x, hx⟩ : ∃ x, l[i]? = some x := ⟨_, List.getElem?_eq_getElem hlt⟩
      obtain ⟨b, o, rfl, hbB, u0, u1, hxo⟩ := HL.out.at_ hx
      have HNXT : Kept (stab ltC (l.take (i + 1)) = ins ltC outs x) := ⟨by rw [take_more hx, stab_snoc, HM.out]⟩
      have HL1 : Kept ((stab ltC (l.take (i + 1))).length ≤ 100) := ⟨by rw [stab_len, List.length_take]; omega⟩
      have hxs := HS.out x (List.mem_of_getElem? hx)
      have hol : outs.length ≤ 100 := by rw [HM.out, stab_len, List.length_take]; omega
      have HMEM : Kept (∀ h ∈ outs, h ∈ l) := ⟨fun h hh => by rw [HM.out] at hh; exact List.mem_of_mem_take ((stab_perm _).mem_iff.1 hh)⟩
      obtain ⟨ws, hws⟩ : ∃ ws : World, ws = wr := ⟨_, rfl⟩
      rw [← hws] at HG HU ⊢
      clear hws wr
      have HXC := kept (fun (W : World) (hb : Below ws.heap.size ws W) => And.intro (((HU.out.trans (hb.mono HU.out.size)).cell (p := ⟨b, o + i * 2, none⟩) hbB).trans u0) (((HU.out.trans (hb.mono HU.out.size)).cell (p := ⟨b, o + i * 2 + 1, none⟩) hbB).trans u1))
      have HOKX := kept hxo
      have hb0 : Kept (Below ws.heap.size ws ws) := ⟨Below.refl _ _⟩
      have HI0 := kept (InsC.start outs x)
      have HO0 : Kept (cardE.Own ws ws.heap.size 31 (.slice none 0 0) []) := ⟨Elem.Own.nilv _ _ _ _⟩
      obtain ⟨xcid, xX, xls, xc⟩ := x
      dsimp only at HXC
      clear hx u0 u1 hxo HM
      go_wp2_with fail
      go_loopw [5, 6, 7] (fun nv dv kv wr => ∃ (k : Nat) (d : Bool) (A4 : Option Addr) (c4 : Nat) (nx : List CardM), k ≤ outs.length ∧ nv = .slice A4 nx.length c4 ∧ dv = .bool d ∧ kv = .int .i64 (k : Int) ∧ Kept (InsC outs ⟨xcid, xX, xls, xc⟩ k d nx) ∧ Kept (Below ws.heap.size ws wr) ∧ Kept (cardE.Own wr ws.heap.size 31 (.slice A4 nx.length c4) nx)) (fun _ _ kv _ => outs.length - (intOf kv).toNat)
      case atStart => exact ⟨0, false, none, 0, [], Nat.zero_le _, rfl, rfl, rfl, HI0, hb0, HO0⟩
      case round =>
        clear HI0 hb0 HO0
        obtain ⟨k, d, A4, c4, nx, hk, rfl, rfl, rfl, HI, HB, HO⟩ := hrel
        have hnl := HI.out.len
        by_cases hlo : k < outs.length
        · have hkon : (k : Int) < (outs.length : Int) := by omega
          obtain ⟨h, hh⟩ : ∃ h, outs[k]? = some h := ⟨_, List.getElem?_eq_getElem hlo⟩
          obtain ⟨b1, o1, rfl, hb1, hcc⟩ := HG.out.at_ hh
          have x0 : ws.cell? ⟨b1, o1 + k * 2, none⟩ = some (.int .u64 (h.cid : Int)) := hcc 0 _ rfl
          have x1 : ws.cell? ⟨b1, o1 + k * 2 + 1, none⟩ = some (.slice h.X h.ls.length h.c) := hcc 1 _ rfl
          have HX0 := kept (fun (W : World) (hb : Below ws.heap.size ws W) => And.intro ((hb.cell (p := ⟨b1, o1 + k * 2, none⟩) hb1).trans x0) ((hb.cell (p := ⟨b1, o1 + k * 2 + 1, none⟩) hb1).trans x1))
          have hhl := HMEM.out h (List.mem_of_getElem? hh)
          have CLW := kept (fun (W : World) (hb : Below ws.heap.size ws W) => rlcmp_any h ⟨xcid, xX, xls, xc⟩ W ((HL.out.2 h hhl).next (HU.out.trans (hb.mono HU.out.size))) (HOKX.out.next (HU.out.trans (hb.mono HU.out.size))) (HS.out h hhl) hxs)
          have IY : Kept (∀ nx, InsC outs ⟨xcid, xX, xls, xc⟩ k false nx → ltC ⟨xcid, xX, xls, xc⟩ h = true → InsC outs ⟨xcid, xX, xls, xc⟩ (k + 1) true (nx ++ [⟨xcid, xX, xls, xc⟩] ++ [h])) := ⟨fun nx h1 h2 => h1.yes hh h2⟩
          have IN : Kept (∀ nx, InsC outs ⟨xcid, xX, xls, xc⟩ k false nx → ltC ⟨xcid, xX, xls, xc⟩ h = false → InsC outs ⟨xcid, xX, xls, xc⟩ (k + 1) false (nx ++ [h])) := ⟨fun nx h1 h2 => h1.no hh h2⟩
          have IM : Kept (∀ nx, InsC outs ⟨xcid, xX, xls, xc⟩ k true nx → InsC outs ⟨xcid, xX, xls, xc⟩ (k + 1) true (nx ++ [h])) := ⟨fun nx h1 => h1.more hh⟩
          have hzl : decide (0 < cmpC h ⟨xcid, xX, xls, xc⟩) = ltC ⟨xcid, xX, xls, xc⟩ h := by
            unfold ltC
            rw [cmpC_flip h ⟨xcid, xX, xls, xc⟩, decide_eq_decide]
            omega
          clear hh x0 x1 hcc
          obtain ⟨hcid, hX, hls, hc⟩ := h
          unfold CardM.val at CLW
          dsimp only at HX0 CLW IY IN IM hzl
          generalize cmpC ⟨hcid, hX, hls, hc⟩ ⟨xcid, xX, xls, xc⟩ = z at *
          cases d with
          | true =>
            clear IY IN
            go_upto_region 10 with fail
            go_cut [33] (fun v wr' => v = .bool false ∧ Kept (Below wr.heap.size wr wr'))
            case first =>
              have hd0 : Below wr.heap.size wr wr := Below.refl _ _
              clear HI HB HO HX0 IM
              refine wp_region_noPanic ?_
              refine wp_region_held_drew (S := fun W => True) (by kernel_rfl) trivial (fun hS0 => ?_)
              refine wpAnyH_take (i := 0) (v := ?_) rfl (by kernel_rfl) (by kernel_rfl) (by kernel_rfl) (fun _ _ _ h => h) (Or.inl ⟨by rfl, ?_⟩) hS0 ?_
              case refine_2 => (intro W hSW; go_simp; try with_reducible rfl)
              try simp only [Act.put, List.setIfInBounds_toArray, List.set_cons_zero, List.set_cons_succ, List.getElem_toArray, List.getElem_cons_zero, List.getElem_cons_succ]
              refine wpAnyH_take (i := 1) (v := ?_) rfl (by kernel_rfl) (by kernel_rfl) (by kernel_rfl) (fun _ _ _ h => h) (Or.inl ⟨by rfl, ?_⟩) hS0 ?_
              case refine_2 => (intro W hSW; go_simp; try with_reducible rfl)
              try simp only [Act.put, List.setIfInBounds_toArray, List.set_cons_zero, List.set_cons_succ, List.getElem_toArray, List.getElem_cons_zero, List.getElem_cons_succ]
              refine wpAnyH_take (i := 2) (v := ?_) rfl (by kernel_rfl) (by kernel_rfl) (by kernel_rfl) (fun _ _ _ h => h) (Or.inl ⟨by rfl, ?_⟩) hS0 ?_
              case refine_2 => (intro W hSW; go_simp; try with_reducible rfl)
              try simp only [Act.put, List.setIfInBounds_toArray, List.set_cons_zero, List.set_cons_succ, List.getElem_toArray, List.getElem_cons_zero, List.getElem_cons_succ]
              refine wpAnyH_take (i := 3) (v := undef) rfl (by kernel_rfl) (by kernel_rfl) (by kernel_rfl) (fun _ _ _ h => h) (Or.inr ⟨by rfl, rfl⟩) hS0 ?_
              try simp only [Act.put, List.setIfInBounds_toArray, List.set_cons_zero, List.set_cons_succ, List.getElem_toArray, List.getElem_cons_zero, List.getElem_cons_succ]
              refine wpAnyH_take (i := 4) (v := undef) rfl (by kernel_rfl) (by kernel_rfl) (by kernel_rfl) (fun _ _ _ h => h) (Or.inr ⟨by rfl, rfl⟩) hS0 ?_
              try simp only [Act.put, List.setIfInBounds_toArray, List.set_cons_zero, List.set_cons_succ, List.getElem_toArray, List.getElem_cons_zero, List.getElem_cons_succ]
              refine wpAnyH_take (i := 5) (v := undef) rfl (by kernel_rfl) (by kernel_rfl) (by kernel_rfl) (fun _ _ _ h => h) (Or.inr ⟨by rfl, rfl⟩) hS0 ?_
              try simp only [Act.put, List.setIfInBounds_toArray, List.set_cons_zero, List.set_cons_succ, List.getElem_toArray, List.getElem_cons_zero, List.getElem_cons_succ]
              refine wpAnyH_take (i := 6) (v := undef) rfl (by kernel_rfl) (by kernel_rfl) (by kernel_rfl) (fun _ _ _ h => h) (Or.inr ⟨by rfl, rfl⟩) hS0 ?_
              try simp only [Act.put, List.setIfInBounds_toArray, List.set_cons_zero, List.set_cons_succ, List.getElem_toArray, List.getElem_cons_zero, List.getElem_cons_succ]
              refine wpAnyH_take (i := 7) (v := undef) rfl (by kernel_rfl) (by kernel_rfl) (by kernel_rfl) (fun _ _ _ h => h) (Or.inr ⟨by rfl, rfl⟩) hS0 ?_
              try simp only [Act.put, List.setIfInBounds_toArray, List.set_cons_zero, List.set_cons_succ, List.getElem_toArray, List.getElem_cons_zero, List.getElem_cons_succ]
              refine wpAnyH_take (i := 8) (v := undef) rfl (by kernel_rfl) (by kernel_rfl) (by kernel_rfl) (fun _ _ _ h => h) (Or.inr ⟨by rfl, rfl⟩) hS0 ?_
              try simp only [Act.put, List.setIfInBounds_toArray, List.set_cons_zero, List.set_cons_succ, List.getElem_toArray, List.getElem_cons_zero, List.getElem_cons_succ]
              refine wpAnyH_take (i := 9) (v := undef) rfl (by kernel_rfl) (by kernel_rfl) (by kernel_rfl) (fun _ _ _ h => h) (Or.inr ⟨by rfl, rfl⟩) hS0 ?_
              try simp only [Act.put, List.setIfInBounds_toArray, List.set_cons_zero, List.set_cons_succ, List.getElem_toArray, List.getElem_cons_zero, List.getElem_cons_succ]
              refine wpAnyH_take (i := 10) (v := undef) rfl (by kernel_rfl) (by kernel_rfl) (by kernel_rfl) (fun _ _ _ h => h) (Or.inr ⟨by rfl, rfl⟩) hS0 ?_
              try simp only [Act.put, List.setIfInBounds_toArray, List.set_cons_zero, List.set_cons_succ, List.getElem_toArray, List.getElem_cons_zero, List.getElem_cons_succ]
              refine wpAnyH_take (i := 11) (v := undef) rfl (by kernel_rfl) (by kernel_rfl) (by kernel_rfl) (fun _ _ _ h => h) (Or.inr ⟨by rfl, rfl⟩) hS0 ?_
              try simp only [Act.put, List.setIfInBounds_toArray, List.set_cons_zero, List.set_cons_succ, List.getElem_toArray, List.getElem_cons_zero, List.getElem_cons_succ]
              refine wpAnyH_take (i := 12) (v := undef) rfl (by kernel_rfl) (by kernel_rfl) (by kernel_rfl) (fun _ _ _ h => h) (Or.inr ⟨by rfl, rfl⟩) hS0 ?_
              try simp only [Act.put, List.setIfInBounds_toArray, List.set_cons_zero, List.set_cons_succ, List.getElem_toArray, List.getElem_cons_zero, List.getElem_cons_succ]
              refine wpAnyH_take (i := 13) (v := ?_) rfl (by kernel_rfl) (by kernel_rfl) (by kernel_rfl) (fun _ _ _ h => h) (Or.inl ⟨by rfl, ?_⟩) hS0 ?_
              case refine_2 => (intro W hSW; go_simp; try with_reducible rfl)
              try simp only [Act.put, List.setIfInBounds_toArray, List.set_cons_zero, List.set_cons_succ, List.getElem_toArray, List.getElem_cons_zero, List.getElem_cons_succ]
              refine wpAnyH_done (by kernel_rfl) (NoPanic.normal ?_) _
              go_wp2_with fail
              go_meet
              exact ⟨rfl, ⟨hd0.drew⟩⟩
            case rest =>
              obtain ⟨rfl, hcut⟩ := hcut
              have HB6 := kept (HB.out.trans (hcut.out.mono HB.out.size))
              have HO6 := kept (HO.out.next hcut.out)
              obtain ⟨w6, hw6⟩ : ∃ w6 : World, w6 = wc := ⟨_, rfl⟩
              rw [← hw6] at HB6 HO6 ⊢
              clear hw6 hcut HB HO
              obtain ⟨xw0, xw1⟩ := HX0.out w6 HB6.out
              have hnb : Below w6.heap.size w6 (w6.alloc (.cells #[.int .u64 (hcid : Int), .slice hX hls.length hc] 31)) := (Below.refl _ _).alloc (Nat.le_refl _) _
              have hoB := HO6.out.next hnb
              have hbB := HB6.out.trans (hnb.mono HB6.out.size)
              have hrn : cardE.Rd (w6.alloc (.cells #[.int .u64 (hcid : Int), .slice hX hls.length hc] 31)) (w6.heap.size + 1) (some ⟨w6.heap.size, 0, none⟩) [⟨hcid, hX, hls, hc⟩] := Mem.Rd.new w6 [.int .u64 (hcid : Int), .slice hX hls.length hc] 31
              have hz : (nx.length + [(⟨hcid, hX, hls, hc⟩ : CardM)].length) * 32 ≤ 140737488355328 := by simp; omega
              have hbase : ws.heap.size ≤ (w6.alloc (.cells #[.int .u64 (hcid : Int), .slice hX hls.length hc] 31)).heap.size := Nat.le_trans HB6.out.size hnb.size
              clear HX0
              go_wp2_with (at_builtin; refine wpl_appEU _ cardE rfl (.tmp 41) (.tmp 46) 22 rfl ws.heap.size 31 Tryz.underlying22 Chg.card_info rfl _ nx rfl hoB _ _ _ _ [⟨hcid, hX, hls, hc⟩] rfl rfl hrn hz (by decide) hbase ?_; intro A9 c9 w9 r9 hr9 hown9 hu9 hx9)
              have HB9 : Kept (Below ws.heap.size ws w9) := ⟨hbB.trans ((hu9 _ fun _ e => e).below hbase fun q _ e => (hoB.lt q e).1)⟩
              have HO9 := kept hown9
              have HR9 := hr9
              clear hr9 hown9 hu9 hx9 hoB hbB hrn hz hbase hnb
              have HI9 : Kept (InsC outs ⟨xcid, xX, xls, xc⟩ (k + 1) true r9) := ⟨by rw [HR9.out]; exact IM.out _ HI.out⟩
              clear xw0 xw1 HI HR9
              go_wp2_with fail
              go_roundw
              case rel => exact ⟨k + 1, true, A9, c9, r9, by omega, rfl, rfl, by go_num, HI9, HB9, HO9⟩
              case measure => simp [intOf]; omega
          | false =>
            clear IM
            have HC : Kept (∀ W, Below wr.heap.size wr W → W.cell? ⟨b1, o1 + k * 2, none⟩ = some (.int .u64 (hcid : Int)) ∧ W.cell? ⟨b1, o1 + k * 2 + 1, none⟩ = some (.slice hX hls.length hc) ∧ W.cell? ⟨b, o + i * 2, none⟩ = some (.int .u64 (xcid : Int)) ∧ W.cell? ⟨b, o + i * 2 + 1, none⟩ = some (.slice xX xls.length xc)) := ⟨fun W hb => ⟨(HX0.out W (HB.out.trans (hb.mono HB.out.size))).1, (HX0.out W (HB.out.trans (hb.mono HB.out.size))).2, (HXC.out W (HB.out.trans (hb.mono HB.out.size))).1, (HXC.out W (HB.out.trans (hb.mono HB.out.size))).2⟩⟩
            have CL := kept (fun (W : World) (hb : Below wr.heap.size wr W) => CLW.out W (HB.out.trans (hb.mono HB.out.size)))
            go_upto_region 10 with fail
            go_cut [33] (fun v wr' => v = .bool (ltC ⟨xcid, xX, xls, xc⟩ ⟨hcid, hX, hls, hc⟩) ∧ Kept (Below wr.heap.size wr wr'))
            case first =>
              have hd0 : Below wr.heap.size wr wr := Below.refl _ _
              have hdz := hzl
              clear HI HB HO HX0 IY IN hzl
              refine wp_region_noPanic ?_
              refine wp_region_held_drew (S := fun W => W.cell? ⟨b1, o1 + k * 2, none⟩ = some (.int .u64 (hcid : Int)) ∧ W.cell? ⟨b1, o1 + k * 2 + 1, none⟩ = some (.slice hX hls.length hc) ∧ W.cell? ⟨b, o + i * 2, none⟩ = some (.int .u64 (xcid : Int)) ∧ W.cell? ⟨b, o + i * 2 + 1, none⟩ = some (.slice xX xls.length xc)) (by kernel_rfl) (HC.out _ (by (repeat (first | with_reducible assumption | with_reducible refine below_new ?_ _ | with_reducible refine Below.drew ?_ | with_reducible exact Below.refl _ _)))) (fun hS0 => ?_)
              refine wpAnyH_take (i := 0) (v := ?_) rfl (by kernel_rfl) (by kernel_rfl) (by kernel_rfl) (fun _ _ _ h => h) (Or.inl ⟨by rfl, ?_⟩) hS0 ?_
              case refine_2 => (intro W hSW; go_simp; try with_reducible rfl)
              try simp only [Act.put, List.setIfInBounds_toArray, List.set_cons_zero, List.set_cons_succ, List.getElem_toArray, List.getElem_cons_zero, List.getElem_cons_succ]
              refine wpAnyH_take (i := 1) (v := ?_) rfl (by kernel_rfl) (by kernel_rfl) (by kernel_rfl) (fun _ _ _ h => h) (Or.inl ⟨by rfl, ?_⟩) hS0 ?_
              case refine_2 => (intro W hSW; go_simp; try with_reducible rfl)
              try simp only [Act.put, List.setIfInBounds_toArray, List.set_cons_zero, List.set_cons_succ, List.getElem_toArray, List.getElem_cons_zero, List.getElem_cons_succ]
              refine wpAnyH_take (i := 2) (v := ?_) rfl (by kernel_rfl) (by kernel_rfl) (by kernel_rfl) (fun _ _ _ h => h) (Or.inl ⟨by rfl, ?_⟩) hS0 ?_
              case refine_2 => (intro W hSW; go_simp; try with_reducible rfl)
              try simp only [Act.put, List.setIfInBounds_toArray, List.set_cons_zero, List.set_cons_succ, List.getElem_toArray, List.getElem_cons_zero, List.getElem_cons_succ]
              refine wpAnyH_take (i := 3) (v := ?_) rfl (by kernel_rfl) (by kernel_rfl) (by kernel_rfl) (fun _ _ _ h => h) (Or.inl ⟨by rfl, ?_⟩) hS0 ?_
              case refine_2 => (intro W hSW; go_simp; try with_reducible rfl)
              try simp only [Act.put, List.setIfInBounds_toArray, List.set_cons_zero, List.set_cons_succ, List.getElem_toArray, List.getElem_cons_zero, List.getElem_cons_succ]
              refine wpAnyH_take (i := 4) (v := ?_) rfl (by kernel_rfl) (by kernel_rfl) (by kernel_rfl) (fun _ _ _ h => h) (Or.inl ⟨by rfl, ?_⟩) hS0 ?_
              case refine_2 => (intro W hSW; go_simp; try with_reducible rfl)
              try simp only [Act.put, List.setIfInBounds_toArray, List.set_cons_zero, List.set_cons_succ, List.getElem_toArray, List.getElem_cons_zero, List.getElem_cons_succ]
              refine wpAnyH_take (i := 5) (v := ?_) rfl (by kernel_rfl) (by kernel_rfl) (by kernel_rfl) (fun _ _ _ h => h) (Or.inl ⟨by rfl, ?_⟩) hS0 ?_
              case refine_2 => (intro W hSW; go_simp; try with_reducible rfl)
              try simp only [Act.put, List.setIfInBounds_toArray, List.set_cons_zero, List.set_cons_succ, List.getElem_toArray, List.getElem_cons_zero, List.getElem_cons_succ]
              refine wpAnyH_take (i := 6) (v := ?_) rfl (by kernel_rfl) (by kernel_rfl) (by kernel_rfl) (fun _ _ _ h => h) (Or.inl ⟨by rfl, ?_⟩) hS0 ?_
              case refine_2 => (intro W hSW; obtain ⟨z0, z1, z2, z3⟩ := hSW; go_simp; try with_reducible rfl)
              try simp only [Act.put, List.setIfInBounds_toArray, List.set_cons_zero, List.set_cons_succ, List.getElem_toArray, List.getElem_cons_zero, List.getElem_cons_succ]
              refine wpAnyH_take (i := 7) (v := ?_) rfl (by kernel_rfl) (by kernel_rfl) (by kernel_rfl) (fun _ _ _ h => h) (Or.inl ⟨by rfl, ?_⟩) hS0 ?_
              case refine_2 => (intro W hSW; go_simp; try with_reducible rfl)
              try simp only [Act.put, List.setIfInBounds_toArray, List.set_cons_zero, List.set_cons_succ, List.getElem_toArray, List.getElem_cons_zero, List.getElem_cons_succ]
              refine wpAnyH_take (i := 8) (v := ?_) rfl (by kernel_rfl) (by kernel_rfl) (by kernel_rfl) (fun _ _ _ h => h) (Or.inl ⟨by rfl, ?_⟩) hS0 ?_
              case refine_2 => (intro W hSW; go_simp; try with_reducible rfl)
              try simp only [Act.put, List.setIfInBounds_toArray, List.set_cons_zero, List.set_cons_succ, List.getElem_toArray, List.getElem_cons_zero, List.getElem_cons_succ]
              refine wpAnyH_take (i := 9) (v := ?_) rfl (by kernel_rfl) (by kernel_rfl) (by kernel_rfl) (fun _ _ _ h => h) (Or.inl ⟨by rfl, ?_⟩) hS0 ?_
              case refine_2 => (intro W hSW; go_simp; try with_reducible rfl)
              try simp only [Act.put, List.setIfInBounds_toArray, List.set_cons_zero, List.set_cons_succ, List.getElem_toArray, List.getElem_cons_zero, List.getElem_cons_succ]
              refine wpAnyH_take (i := 10) (v := ?_) rfl (by kernel_rfl) (by kernel_rfl) (by kernel_rfl) (fun _ _ _ h => h) (Or.inl ⟨by rfl, ?_⟩) hS0 ?_
              case refine_2 => (intro W hSW; obtain ⟨z0, z1, z2, z3⟩ := hSW; go_simp; try with_reducible rfl)
              try simp only [Act.put, List.setIfInBounds_toArray, List.set_cons_zero, List.set_cons_succ, List.getElem_toArray, List.getElem_cons_zero, List.getElem_cons_succ]
              refine wpAnyH_ready (rs := [11]) (by kernel_rfl) (by simp) ?_
              refine AllReadyH.cons rfl (fun K' hK => ?_) AllReadyH.nil
              go_simp
              go_at_call 76
              refine (CL.out _ (by (repeat (first | with_reducible assumption | with_reducible refine below_new ?_ _ | with_reducible refine Below.drew ?_ | with_reducible exact Below.refl _ _)))).mono ?_
              rintro e x1 ⟨rfl, hx1⟩
              have hk1 : Below wr.heap.size wr x1 := below_next (by (repeat (first | with_reducible assumption | with_reducible refine below_new ?_ _ | with_reducible refine Below.drew ?_ | with_reducible exact Below.refl _ _))) hx1
              try simp only [Act.put, List.setIfInBounds_toArray, List.set_cons_zero, List.set_cons_succ, List.getElem_toArray, List.getElem_cons_zero, List.getElem_cons_succ]
              refine hK.out _ _ (HC.out x1 hk1) (fun hS0 => ?_)
              refine wpAnyH_take (i := 12) (v := ?_) rfl (by kernel_rfl) (by kernel_rfl) (by kernel_rfl) (fun _ _ _ h => h) (Or.inl ⟨by rfl, ?_⟩) hS0 ?_
              case refine_2 => (intro W hSW; go_simp; try with_reducible rfl)
              try simp only [Act.put, List.setIfInBounds_toArray, List.set_cons_zero, List.set_cons_succ, List.getElem_toArray, List.getElem_cons_zero, List.getElem_cons_succ]
              refine wpAnyH_take (i := 13) (v := ?_) rfl (by kernel_rfl) (by kernel_rfl) (by kernel_rfl) (fun _ _ _ h => h) (Or.inl ⟨by rfl, ?_⟩) hS0 ?_
              case refine_2 => (intro W hSW; go_simp; try with_reducible rfl)
              try simp only [Act.put, List.setIfInBounds_toArray, List.set_cons_zero, List.set_cons_succ, List.getElem_toArray, List.getElem_cons_zero, List.getElem_cons_succ]
              refine wpAnyH_done (by kernel_rfl) (NoPanic.normal ?_) _
              go_wp2_with fail
              go_meet
              exact ⟨by first | rfl | (rw [hdz]), ⟨hk1⟩⟩
            case rest =>
              obtain ⟨rfl, hcut⟩ := hcut
              have HB6 := kept (HB.out.trans (hcut.out.mono HB.out.size))
              have HO6 := kept (HO.out.next hcut.out)
              obtain ⟨w6, hw6⟩ : ∃ w6 : World, w6 = wc := ⟨_, rfl⟩
              rw [← hw6] at HB6 HO6 ⊢
              clear hw6 hcut HB HO
              clear HC CL hzl
              cases ha : ltC ⟨xcid, xX, xls, xc⟩ ⟨hcid, hX, hls, hc⟩ with
              | false =>
                have I2 := kept (IN.out _ HI.out ha)
                clear IY IN ha
                obtain ⟨xw0, xw1⟩ := HX0.out w6 HB6.out
                have hnb : Below w6.heap.size w6 (w6.alloc (.cells #[.int .u64 (hcid : Int), .slice hX hls.length hc] 31)) := (Below.refl _ _).alloc (Nat.le_refl _) _
                have hoB := HO6.out.next hnb
                have hbB := HB6.out.trans (hnb.mono HB6.out.size)
                have hrn : cardE.Rd (w6.alloc (.cells #[.int .u64 (hcid : Int), .slice hX hls.length hc] 31)) (w6.heap.size + 1) (some ⟨w6.heap.size, 0, none⟩) [⟨hcid, hX, hls, hc⟩] := Mem.Rd.new w6 [.int .u64 (hcid : Int), .slice hX hls.length hc] 31
                have hz : (nx.length + [(⟨hcid, hX, hls, hc⟩ : CardM)].length) * 32 ≤ 140737488355328 := by simp; omega
                have hbase : ws.heap.size ≤ (w6.alloc (.cells #[.int .u64 (hcid : Int), .slice hX hls.length hc] 31)).heap.size := Nat.le_trans HB6.out.size hnb.size
                clear HX0
                go_wp2_with (at_builtin; refine wpl_appEU _ cardE rfl (.tmp 41) (.tmp 46) 22 rfl ws.heap.size 31 Tryz.underlying22 Chg.card_info rfl _ nx rfl hoB _ _ _ _ [⟨hcid, hX, hls, hc⟩] rfl rfl hrn hz (by decide) hbase ?_; intro A9 c9 w9 r9 hr9 hown9 hu9 hx9)
                have HB9 : Kept (Below ws.heap.size ws w9) := ⟨hbB.trans ((hu9 _ fun _ e => e).below hbase fun q _ e => (hoB.lt q e).1)⟩
                have HO9 := kept hown9
                have HR9 := hr9
                clear hr9 hown9 hu9 hx9 hoB hbB hrn hz hbase hnb
                have HI9 : Kept (InsC outs ⟨xcid, xX, xls, xc⟩ (k + 1) false r9) := ⟨by rw [HR9.out]; exact I2.out⟩
                clear xw0 xw1 HI HR9
                go_wp2_with fail
                go_roundw
                case rel => exact ⟨k + 1, false, A9, c9, r9, by omega, rfl, rfl, by go_num, HI9, HB9, HO9⟩
                case measure => simp [intOf]; omega
              | true =>
                have I2 := kept (IY.out _ HI.out ha)
                clear IY IN ha
                obtain ⟨y0, y1⟩ := HXC.out w6 HB6.out
                have hnb : Below w6.heap.size w6 (w6.alloc (.cells #[.int .u64 (xcid : Int), .slice xX xls.length xc] 31)) := (Below.refl _ _).alloc (Nat.le_refl _) _
                have hoB := HO6.out.next hnb
                have hbB := HB6.out.trans (hnb.mono HB6.out.size)
                have hrn : cardE.Rd (w6.alloc (.cells #[.int .u64 (xcid : Int), .slice xX xls.length xc] 31)) (w6.heap.size + 1) (some ⟨w6.heap.size, 0, none⟩) [⟨xcid, xX, xls, xc⟩] := Mem.Rd.new w6 [.int .u64 (xcid : Int), .slice xX xls.length xc] 31
                have hz : (nx.length + [(⟨xcid, xX, xls, xc⟩ : CardM)].length) * 32 ≤ 140737488355328 := by simp; omega
                have hbase : ws.heap.size ≤ (w6.alloc (.cells #[.int .u64 (xcid : Int), .slice xX xls.length xc] 31)).heap.size := Nat.le_trans HB6.out.size hnb.size
                go_upto_region 13 with (at_builtin; refine wpl_appEU _ cardE rfl (.tmp 34) (.tmp 39) 22 rfl ws.heap.size 31 Tryz.underlying22 Chg.card_info rfl _ nx rfl hoB _ _ _ _ [⟨xcid, xX, xls, xc⟩] rfl rfl hrn hz (by decide) hbase ?_; intro A7 c7 w7 r7 hr7 hown7 hu7 hx7)
                have HB7 : Kept (Below ws.heap.size ws w7) := ⟨hbB.trans ((hu7 _ fun _ e => e).below hbase fun q _ e => (hoB.lt q e).1)⟩
                have HO7 := kept hown7
                have HR7 := hr7
                clear hr7 hown7 hu7 hx7 hoB hbB hrn hz hbase hnb
                have hr7l : r7.length ≤ k + 2 := by rw [HR7.out]; simp; omega
                have I3 := I2.out
                rw [← HR7.out] at I3
                have I4 := kept I3
                clear I2 I3 HR7 HB6 HO6 y0 y1
                obtain ⟨xw0, xw1⟩ := HX0.out w7 HB7.out
                have hnb : Below w7.heap.size w7 (w7.alloc (.cells #[.int .u64 (hcid : Int), .slice hX hls.length hc] 31)) := (Below.refl _ _).alloc (Nat.le_refl _) _
                have hoB := HO7.out.next hnb
                have hbB := HB7.out.trans (hnb.mono HB7.out.size)
                have hrn : cardE.Rd (w7.alloc (.cells #[.int .u64 (hcid : Int), .slice hX hls.length hc] 31)) (w7.heap.size + 1) (some ⟨w7.heap.size, 0, none⟩) [⟨hcid, hX, hls, hc⟩] := Mem.Rd.new w7 [.int .u64 (hcid : Int), .slice hX hls.length hc] 31
                have hz : (r7.length + [(⟨hcid, hX, hls, hc⟩ : CardM)].length) * 32 ≤ 140737488355328 := by simp; omega
                have hbase : ws.heap.size ≤ (w7.alloc (.cells #[.int .u64 (hcid : Int), .slice hX hls.length hc] 31)).heap.size := Nat.le_trans HB7.out.size hnb.size
                clear HX0
                go_wp2_with (at_builtin; refine wpl_appEU _ cardE rfl (.tmp 41) (.tmp 46) 22 rfl ws.heap.size 31 Tryz.underlying22 Chg.card_info rfl _ r7 rfl hoB _ _ _ _ [⟨hcid, hX, hls, hc⟩] rfl rfl hrn hz (by decide) hbase ?_; intro A9 c9 w9 r9 hr9 hown9 hu9 hx9)
                have HB9 : Kept (Below ws.heap.size ws w9) := ⟨hbB.trans ((hu9 _ fun _ e => e).below hbase fun q _ e => (hoB.lt q e).1)⟩
                have HO9 := kept hown9
                have HR9 := hr9
                clear hr9 hown9 hu9 hx9 hoB hbB hrn hz hbase hnb
                have HI9 : Kept (InsC outs ⟨xcid, xX, xls, xc⟩ (k + 1) true r9) := ⟨by rw [HR9.out]; exact I4.out⟩
                clear xw0 xw1 HI HR9
                go_wp2_with fail
                go_roundw
                case rel => exact ⟨k + 1, true, A9, c9, r9, by omega, rfl, rfl, by go_num, HI9, HB9, HO9⟩
                case measure => simp [intOf]; omega
        · obtain rfl : k = outs.length := by omega
          have hge5 : ¬ (outs.length : Int) < (outs.length : Int) := by omega
          cases d with
          | true =>
            have HM3 : Kept (nx = stab ltC (l.take (i + 1))) := ⟨by rw [HNXT.out]; exact HI.out.end_yes⟩
            have HG3 : Kept (cardE.Rd wr wr.heap.size A4 nx) := ⟨HO.out.rd⟩
            have HU3 := kept (HU.out.trans (HB.out.mono HU.out.size))
            have h25 : nx.length ≤ 1000 := by have := HL1.out; rw [HM3.out]; omega
            clear HI HB HO HU HG HXC HNXT HL1
            go_wp2_with fail
            go_roundw
            case rel => exact ⟨i + 1, A4, c4, nx, by omega, rfl, by go_num, h25, HM3, HG3, HU3⟩
            case measure => simp [intOf]; omega
          | false =>
            have I2 := kept HI.out.end_no
            obtain ⟨y0, y1⟩ := HXC.out wr HB.out
            have hnb : Below wr.heap.size wr (wr.alloc (.cells #[.int .u64 (xcid : Int), .slice xX xls.length xc] 31)) := (Below.refl _ _).alloc (Nat.le_refl _) _
            have hoB := HO.out.next hnb
            have hbB := HB.out.trans (hnb.mono HB.out.size)
            have hrn : cardE.Rd (wr.alloc (.cells #[.int .u64 (xcid : Int), .slice xX xls.length xc] 31)) (wr.heap.size + 1) (some ⟨wr.heap.size, 0, none⟩) [⟨xcid, xX, xls, xc⟩] := Mem.Rd.new wr [.int .u64 (xcid : Int), .slice xX xls.length xc] 31
            have hz : (nx.length + [(⟨xcid, xX, xls, xc⟩ : CardM)].length) * 32 ≤ 140737488355328 := by simp; omega
            have hbase : ws.heap.size ≤ (wr.alloc (.cells #[.int .u64 (xcid : Int), .slice xX xls.length xc] 31)).heap.size := Nat.le_trans HB.out.size hnb.size
            go_wp2_with (at_builtin; refine wpl_appEU _ cardE rfl (.tmp 50) (.tmp 55) 22 rfl ws.heap.size 31 Tryz.underlying22 Chg.card_info rfl _ nx rfl hoB _ _ _ _ [⟨xcid, xX, xls, xc⟩] rfl rfl hrn hz (by decide) hbase ?_; intro A7 c7 w7 r7 hr7 hown7 hu7 hx7)
            have HB7 : Kept (Below ws.heap.size ws w7) := ⟨hbB.trans ((hu7 _ fun _ e => e).below hbase fun q _ e => (hoB.lt q e).1)⟩
            have HO7 := kept hown7
            have HR7 := hr7
            clear hr7 hown7 hu7 hx7 hoB hbB hrn hz hbase hnb
            have HM3 : Kept (r7 = stab ltC (l.take (i + 1))) := ⟨by rw [HNXT.out, HR7.out]; exact I2.out⟩
            have HG3 : Kept (cardE.Rd w7 w7.heap.size A7 r7) := ⟨HO7.out.rd⟩
            have HU3 := kept (HU.out.trans (HB7.out.mono HU.out.size))
            have h25 : r7.length ≤ 1000 := by have := HL1.out; rw [HM3.out]; omega
            clear HI HB HO HU HG HXC HNXT HL1 I2 HR7 HB7 HO7 y0 y1
            go_wp2_with fail
            go_roundw
            case rel => exact ⟨i + 1, A7, c7, r7, by omega, rfl, by go_num, h25, HM3, HG3, HU3⟩
            case measure => simp [intOf]; omega
    · obtain rfl : i = l.length := by omega
      have hge : ¬ (l.length : Int) < (l.length : Int) := by omega
      have HF := kept (HR.out outs A2 c2 wr (by rw [HM.out, List.take_length]) HG.out HU.out)
      clear HM HG HU HR
      go_wp2_with fail
      go_ret
      exact HF.out
end Go.Proofs.YtfkfpanhbanljaaGreatDoor.List44
