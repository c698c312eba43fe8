import Derived.Test.YtfkfpanhbanljaaGreatDoorSet13
import Derived.Deep.QuietTactic
import Derived.BigQuiet
import Derived.IntWalk
import Derived.Deep.DeepAppendRoom
import Derived.Deep.RegionLaw
import Derived.Lib.SliceRun
import Derived.Test.YtfkfpanhbanljaaGreatDoorSet5
import Derived.Test.YtfkfpanhbanljaaGreatDoorSet6
/- Layer 50 (change): whether cards are few, and a list is in order: the walks. -/
namespace Go.Proofs.YtfkfpanhbanljaaGreatDoor.Chg
open Go.RowKit Go.Proofs.YtfkfpanhbanljaaGreatDoor.Mem Go.Proofs.YtfkfpanhbanljaaGreatDoor.Card

def fewK (c : CardM) : Prop := c.ls.length ≤ 12 ∧ ∀ z ∈ c.ls, z.t.size ≤ 200 ∧ z.m.length ≤ 10
def fewC (l : List CardM) : Prop := l.length ≤ 25 ∧ ∀ c ∈ l, fewK c
instance (c : CardM) : Decidable (fewK c) := by unfold fewK; infer_instance
instance (l : List CardM) : Decidable (fewC l) := by unfold fewC; infer_instance
theorem few_any (X : Option Addr) (l : List CardM) (c : Nat) (w : World) (hr : RdCards w w.heap.size X l) (hsz : l.length ≤ 9223372036854775807) :
    Calls Tryz.prog 7 #[.slice X l.length c] w fun e w' => e = .returned (.bool (decide (fewC l))) ∧ w = w' := by
  by_cases hbig : 25 < l.length
  · have hd : decide (fewC l) = false := decide_eq_false (fun h => by have := h.1; omega)
    rw [hd]
    clear hd hr
    go_enter Tryz.func7, Tryz.ntmps7
    go_wp2
    go_ret
    exact ⟨rfl, rfl⟩
  have h25 : l.length ≤ 25 := by omega
  have HR := kept hr
  have HBAD : Kept (∀ x, x ∈ l → ¬ fewK x → decide (fewC l) = false) := ⟨fun x hx hn => decide_eq_false fun h => hn (h.2 x hx)⟩
  have HYES : Kept ((∀ (a : Nat) x, a < l.length → l[a]? = some x → fewK x) → decide (fewC l) = true) := ⟨fun h => decide_eq_true ⟨h25, fun x hx => by
    obtain ⟨a, ha⟩ := List.getElem?_of_mem hx
    exact h a x (List.getElem?_eq_some_iff.1 ha).1 ha⟩⟩
  clear hr hbig hsz
  generalize decide (fewC l) = D at *
  go_enter Tryz.func7, Tryz.ntmps7
  go_wp2
  go_loopw [3] (fun i wr => ∃ j : Nat, j ≤ l.length ∧ i = .int .i64 (j : Int) ∧ w = wr ∧ Kept (∀ (a : Nat) x, a < j → l[a]? = some x → fewK x)) (fun i _ => l.length - (intOf i).toNat)
  case atStart => exact ⟨0, Nat.zero_le _, rfl, rfl, ⟨fun a x h => absurd h (Nat.not_lt_zero _)⟩⟩
  case round =>
    obtain ⟨j, hj, rfl, rfl, hin⟩ := hrel
    by_cases hlt : j < l.length
    · obtain ⟨x, hx⟩ : ∃ x, l[j]? = some x := ⟨_, List.getElem?_eq_getElem hlt⟩
      obtain ⟨b, o, rfl, hbb, k0, k1, hxo⟩ := HR.out.at_ hx
      have hxm := List.mem_of_getElem? hx
      have HX := kept hx
      have HXB := kept (HBAD.out x hxm)
      obtain ⟨xcid, xX, xls, xc⟩ := x
      dsimp only at k0 k1
      have hlr := hxo.2.1
      dsimp only at hlr
      have hjn : (j : Int) < (l.length : Int) := by omega
      clear hx hxm hxo k0
      by_cases h12 : 12 < xls.length
      · have HD : Kept (D = false) := ⟨HXB.out fun h => by have h2 : xls.length ≤ 12 := h.1; omega⟩
        clear HXB
        go_wp2
        go_ret
        exact ⟨ret_bool HD.out.symm, rfl⟩
      · have HLR := kept hlr
        have h12' : xls.length ≤ 12 := by omega
        clear hlr
        go_wp2_with fail
        go_loopw [4] (fun k wr => ∃ i : Nat, i ≤ xls.length ∧ k = .int .i64 (i : Int) ∧ w = wr ∧ Kept (∀ (a : Nat) z, a < i → xls[a]? = some z → z.t.size ≤ 200 ∧ z.m.length ≤ 10)) (fun k _ => xls.length - (intOf k).toNat)
        case atStart => exact ⟨0, Nat.zero_le _, rfl, rfl, ⟨fun a x h => absurd h (Nat.not_lt_zero _)⟩⟩
        case round =>
          obtain ⟨i, hi, rfl, rfl, hin2⟩ := hrel
          by_cases hil : i < xls.length
          · obtain ⟨z, hz⟩ : ∃ z, xls[i]? = some z := ⟨_, List.getElem?_eq_getElem hil⟩
            obtain ⟨b2, o2, rfl, hbb2, z0, z1, z2, -⟩ := HLR.out.at_ hz
            have HZM := kept (List.mem_of_getElem? hz)
            have HZ := kept hz
            have hin3 : (i : Int) < (xls.length : Int) := by omega
            clear hz z0
            by_cases h200 : 200 < z.t.size
            · have HD : Kept (D = false) := ⟨HXB.out fun h => by have h2 := (h.2 z HZM.out).1; omega⟩
              clear HXB
              go_wp2
              go_ret
              exact ⟨ret_bool HD.out.symm, rfl⟩
            · by_cases h10 : 10 < z.m.length
              · have HD : Kept (D = false) := ⟨HXB.out fun h => by have h2 := (h.2 z HZM.out).2; omega⟩
                clear HXB
                go_wp2
                go_ret
                exact ⟨ret_bool HD.out.symm, rfl⟩
              · have HN : Kept (∀ (a : Nat) z, a < i + 1 → xls[a]? = some z → z.t.size ≤ 200 ∧ z.m.length ≤ 10) := ⟨fun a y ha hy => by
                  by_cases hai : a = i
                  · subst hai
                    obtain rfl := Option.some.inj (HZ.out.symm.trans hy)
                    exact ⟨by omega, by omega⟩
                  · exact hin2.out a y (by omega) hy⟩
                clear hin2
                go_wp2
                go_roundw
                case rel => exact ⟨i + 1, by omega, by go_num, trivial, HN⟩
                case measure => simp [intOf]; omega
          · have HN : Kept (∀ (a : Nat) y, a < j + 1 → l[a]? = some y → fewK y) := ⟨fun a y ha hy => by
              by_cases hai : a = j
              · subst hai
                obtain rfl := Option.some.inj (HX.out.symm.trans hy)
                exact ⟨h12', fun z hz => by
                  obtain ⟨a, ha⟩ := List.getElem?_of_mem hz
                  exact hin2.out a z (by have h1 : a < xls.length := (List.getElem?_eq_some_iff.1 ha).1; omega) ha⟩
              · exact hin.out a y (by omega) hy⟩
            have hin3 : ¬ (i : Int) < (xls.length : Int) := by omega
            clear hin2 hin
            go_wp2
            go_roundw
            case rel => exact ⟨j + 1, by omega, by go_num, trivial, HN⟩
            case measure => simp [intOf]; omega
    · have HD : Kept (D = true) := ⟨HYES.out fun a x ha hx => hin.out a x (by omega) hx⟩
      clear hin
      go_wp2
      go_ret
      exact ⟨ret_bool HD.out.symm, rfl⟩
/-- the list is in order up to place j -/
def goodAt (l : List CardM) (j : Nat) : Bool := cardGood (l.getD j ⟨0, none, [], 0⟩) && (j == 0 || decide ((l.getD (j - 1) ⟨0, none, [], 0⟩).cid < (l.getD j ⟨0, none, [], 0⟩).cid))
def goodL (l : List CardM) : Bool := (List.range l.length).all (goodAt l)
theorem good_full {l : List CardM} (h : ∀ i, i < l.length → goodAt l i = true) : goodL l = true := by
  unfold goodL
  rw [List.all_eq_true]
  exact fun i hi => h i (List.mem_range.1 hi)
theorem good_bad {l : List CardM} {j : Nat} (hj : j < l.length) (h : goodAt l j = false) : goodL l = false := by
  unfold goodL
  rw [List.all_eq_false]
  exact ⟨j, List.mem_range.2 hj, by rw [h]; decide⟩
theorem goodAt_get {l : List CardM} {j : Nat} {x : CardM} (h : l[j]? = some x) : goodAt l j = (cardGood x && (j == 0 || decide ((l.getD (j - 1) ⟨0, none, [], 0⟩).cid < x.cid))) := by
  unfold goodAt
  rw [show l.getD j ⟨0, none, [], 0⟩ = x by simp [List.getD, h]]
end Go.Proofs.YtfkfpanhbanljaaGreatDoor.Chg

/- Layer 50 (change): slices.Delete of one card. (printed by tools/gencd.py) -/
namespace Go.Proofs.YtfkfpanhbanljaaGreatDoor.Chg
open Go.RowKit Go.Proofs.YtfkfpanhbanljaaGreatDoor.Mem Go.Proofs.YtfkfpanhbanljaaGreatDoor.Card

def cardE : Elem CardM := ⟨CardM.cells, 2, by decide, fun _ => rfl, fun x u hu => by
  simp only [CardM.cells, List.mem_cons, List.not_mem_nil, or_false] at hu
  rcases hu with rfl | rfl <;> rfl⟩
theorem ownK_beyond {size : Nat} {w : World} {base : Nat} {e : TypeId} {r n c : Nat} {xs : List Value} (h : OwnK size w base e (.slice (some ⟨r, 0, none⟩) n c) n xs) {j : Nat} (hj : n * size ≤ j) (v : Value) : OwnK size (w.setCell ⟨r, j, none⟩ v) base e (.slice (some ⟨r, 0, none⟩) n c) n xs := by
  rcases h.2 with ⟨h0, _⟩ | ⟨g, cap, cur, hv, hbg, hg, hnc, hcm, hcs, htake⟩
  · cases h0
  · cases hv
    have hk : Blk w r cur.toList e := by show w.heap[r]? = _; simpa using hg
    refine ⟨h.1, .inr ⟨r, c, (cur.toList.set j v).toArray, rfl, hbg, hk.set j v, hnc, hcm, by simpa using hcs, ?_⟩⟩
    rw [← htake]
    show ((cur.toList.set j v).toArray.toList).take _ = _
    simp only [List.take_set]
    rw [List.set_eq_of_length_le]
    rw [List.length_take]
    omega
theorem ownK_cells {size : Nat} {w : World} {base : Nat} {e : TypeId} {r n c : Nat} {xs : List Value} (h : OwnK size w base e (.slice (some ⟨r, 0, none⟩) n c) n xs) {j : Nat} (hj : j < c * size) : (w.cell? ⟨r, j, none⟩).isSome = true := by
  rcases h.2 with ⟨h0, _⟩ | ⟨g, cap, cur, hv, hbg, hg, hnc, hcm, hcs, htake⟩
  · cases h0
  · cases hv
    have hk : Blk w r cur.toList e := by show w.heap[r]? = _; simpa using hg
    have hj2 : j < cur.toList.length := by simp [hcs]; exact hj
    rw [hk.cell (List.getElem?_eq_getElem hj2)]
    rfl
theorem clear_one (W : World) (r o c : Nat) (hc : ∀ j, j < 2 → (W.cell? ⟨r, o + j, none⟩).isSome = true) (hf : ∀ j, j < 2 → W.frozen? ⟨r, o + j, none⟩ = false) (ty : TypeId) :
    (Builtin.clear_ #[22] ty #[.slice (some ⟨r, o, none⟩) 1 c]).run Tryz.prog W = .ok (.tuple #[]) ((W.setCell ⟨r, o, none⟩ (.int .u64 0)).setCell ⟨r, o + 1, none⟩ (.slice none 0 0)) := by
  have hst := run_storeCells_cells (P := Tryz.prog) r o [.int .u64 0, .slice none 0 0] 0 W (by simpa using hc) (by simpa using hf) (by intro v hv; simp at hv; rcases hv with rfl | rfl <;> rfl)
  have hv : (zeroValue 31).run Tryz.prog W = .ok (.agg #[.int .u64 0, .slice none 0 0]) W := by kernel_rfl
  have hz : (Builtin.zeroCells (Value.agg #[.int .u64 0, .slice none 0 0]).cells 1).toList = [.int .u64 0, .slice none 0 0] := by kernel_rfl
  simp only [Nat.add_zero] at hst
  simp [Builtin.clear_, run_underlying Tryz.underlying22, hv, hz, hst, World.setCells]
theorem step_appS {P : Program} {w : World} {ops : Array Oper} {o : Oper} {a : Act} {K : Act → World → Prop} {Q : Exit → Act → World → Prop} {F : Prop} (hgd : o.guard = none) (s x : Operand) (t : TypeId)
    (ho : o.op = .call { callee := .builtin .append, args := #[s, x], argTypes := #[t, t] })
    (base : Nat) (e : TypeId) (i : TypeInfo) (size : Nat) (ht : P.underlying t = some (.slice e)) (hi : P.info? e = some i) (hsize : i.size = size)
    (g n cap : Nat) (xs : List Value) (hs : a.eval s = .slice (some ⟨g, 0, none⟩) n cap) (hown : OwnK size w base e (.slice (some ⟨g, 0, none⟩) n cap) n xs)
    (ad : Addr) (m c : Nat) (news : List Value) (hx : a.eval x = .slice (some ad) m c) (hl : news.length = m * size) (hnews : ∀ j u, news[j]? = some u → w.cell? (ad.add j) = some u) (h1 : ∀ u ∈ news, u.oneCell' = true)
    (hroom : n + m ≤ cap)
    (h : ∀ w', OwnK size w' base e (.slice (some ⟨g, 0, none⟩) (n + m) cap) (n + m) (xs ++ news) → Upd (fun k => k = g) w w' → K (a.put o.dst (.slice (some ⟨g, 0, none⟩) (n + m) cap)) w') :
    if Region.wanted o (yielded ops a.tmps) = true then Oper.wp P o a w K Q else F := by
  rw [if_pos (by simp [Region.wanted, hgd])]
  exact wp_append_own_spare w s x t ho base e i size ht hi hsize g n cap xs hs hown ad m c news hx hl hnews h1 hroom fun w' h2 h3 => h w' h2 ((Upd.refl _ w).grown h3 fun k hk => .inl (Option.some.inj hk).symm)
theorem ownK_take {size : Nat} {w : World} {base : Nat} {e : TypeId} {r n c i : Nat} {xs : List Value} (h : OwnK size w base e (.slice (some ⟨r, 0, none⟩) n c) n xs) (hi : i ≤ n) : OwnK size w base e (.slice (some ⟨r, 0, none⟩) i c) i (xs.take (i * size)) := by
  rcases h.2 with ⟨h0, _⟩ | ⟨g, cap, cur, hv, hbg, hg, hnc, hcm, hcs, htake⟩
  · cases h0
  · cases hv
    have hle : i * size ≤ n * size := Nat.mul_le_mul_right _ hi
    refine ⟨by rw [List.length_take, h.1]; omega, .inr ⟨r, c, cur, rfl, hbg, hg, by omega, hcm, hcs, ?_⟩⟩
    rw [← htake, List.take_take, Nat.min_eq_left hle]
end Go.Proofs.YtfkfpanhbanljaaGreatDoor.Chg

/- Arguments that are lists of cards, opened: all they hold is told of the argument's size. -/
namespace Go.Proofs.YtfkfpanhbanljaaGreatDoor.Opens
open Go.ChangeShapes Go.WideShapes Go.ChangeAt Go.RowKit Go.Deep Go.Joins Go.Proofs.YtfkfpanhbanljaaGreatDoor.Mem Go.Proofs.YtfkfpanhbanljaaGreatDoor.Card

def mB (m : List ByteArray) : Nat := (m.map fun q => q.size + 1).sum + 1
def lineB (z : LineM) : Nat := z.t.size + mB z.m
def cardB (y : CardM) : Nat := (y.ls.map lineB).sum
theorem sum_mem {α : Type} (f : α → Nat) : ∀ {l : List α} {x : α}, x ∈ l → f x ≤ (l.map f).sum
  | [], _, h => by cases h
  | y :: l, x, h => by
    rw [List.map_cons, List.sum_cons]
    rcases List.mem_cons.1 h with rfl | h
    · omega
    · have := sum_mem f h; omega
theorem more_in {l : List CardM} {n : Nat} (h : (l.map cardB).sum ≤ n) : ∀ y ∈ l, ∀ u ∈ y.ls, u.t.size ≤ n ∧ ∀ q ∈ u.m, q.size ≤ n := fun y hy u hu => by
  have h1 := sum_mem cardB hy
  have h2 : lineB u ≤ cardB y := sum_mem lineB hu
  unfold lineB at h2
  refine ⟨by omega, fun q hq => ?_⟩
  have h3 : q.size + 1 ≤ mB u.m := Nat.le_succ_of_le (sum_mem (fun q : ByteArray => q.size + 1) hq)
  omega
section
variable {H : Type} {enc : TypeId × Value → H} {W : World}
theorem str_some : Some_ enc Tryz.prog W 9 strE.g (fun z => z.size ≤ 140737488351232) (fun z => z.size + 1) := fun n cs x h hf => by
  obtain ⟨s, hs, hx, _⟩ := DataW.trod_string Tryz.underlying9 h
  have h1 : cs = [.string s] := hs
  subst h1
  obtain ⟨z, e, h2, h3⟩ := one_string Tryz.underlying9 n (.string s) x h hf
  exact ⟨z, by rw [e]; rfl, h2, h3⟩
theorem some_lineU : Some_ enc Tryz.prog W 44 LineM.cells (fun z => z.Ok W W.heap.size) lineB :=
  Some_.iso (fun z : Nat × ByteArray × SliceM ByteArray => (⟨z.1, z.2.1, z.2.2.A, z.2.2.l, z.2.2.c⟩ : LineM)) (fun _ => rfl)
    (fun z h => ⟨strE_rd.1 h.2.2.1, h.1, h.2.2.2.2.1, by
      have h1 := h.2.2.2.2.2
      have h2 := h.2.2.2.2.1
      have h3 : Tryz.prog.bytesOf 9 = 16 := by kernel_rfl
      rw [h3] at h1
      unfold reachBytes at h1
      show z.2.2.l.length ≤ _
      omega⟩) (fun z => by unfold lineB mB; dsimp only; omega)
    (struct_3 Tryz.underlying44 (by kernel_rfl) (by kernel_rfl) (one_u8 Tryz.underlying5) (one_string Tryz.underlying9) (one_slice strE Tryz.underlying36 (by kernel_rfl) str_some))
theorem some_cardU : Some_ enc Tryz.prog W 31 CardM.cells (fun y => y.Ok W W.heap.size) cardB :=
  Some_.iso (fun z : Nat × SliceM LineM => (⟨z.1, z.2.A, z.2.l, z.2.c⟩ : CardM)) (fun _ => rfl)
    (fun z h => ⟨h.1, ⟨h.2.1, fun y hy => h.2.2.1 y hy⟩, h.2.2.2.1, by
      have h1 := h.2.2.2.2
      have h2 := h.2.2.2.1
      have h3 : Tryz.prog.bytesOf 44 = 48 := by kernel_rfl
      rw [h3] at h1
      unfold reachBytes at h1
      show z.2.l.length ≤ _
      omega⟩) (fun z => by unfold cardB; dsimp only; omega)
    (struct_2 Tryz.underlying31 (by kernel_rfl) (by kernel_rfl) (one_u64 Tryz.underlying28) (one_slice lineE Tryz.underlying29 (by kernel_rfl) some_lineU))
theorem one_cardsU : One enc Tryz.prog W 22 (SliceM.val (α := CardM)) (fun z => Chg.cardE.Rd W W.heap.size z.A z.l ∧ (∀ y ∈ z.l, y.Ok W W.heap.size) ∧ z.l.length ≤ z.c ∧ z.c * Tryz.prog.bytesOf 31 ≤ reachBytes) (fun z => (z.l.map cardB).sum + 1) :=
  haveI : Inhabited CardM := ⟨⟨0, none, [], 0⟩⟩
  one_slice Chg.cardE Tryz.underlying22 (by kernel_rfl) some_cardU
set_option maxRecDepth 100000 in
theorem arg_cardsU {v : Value} {d : DataW H} {p : List MemPlace} {ts : List TypeId} {ds : List (DataW H)} {j b0 : Nat} (hv : Value.okWide Tryz.prog W .any b0 22 v) (h : DataW.Trod enc Tryz.prog W 0 (fun _ => true) true 22 v d p)
    (hw : (DataW.weightsEach Tryz.prog ts ds).all (· ≤ reachBytes) = true) (hts : ts[j]? = some 22) (hds : ds[j]? = some d) :
    ∃ A l c, v = .slice A (List.length l) c ∧ RdCards W W.heap.size A l ∧ l.length ≤ c ∧ c ≤ 4398046511104 ∧ (l.map cardB).sum + 1 ≤ Rows.uptoBulk d := by
  obtain ⟨⟨A, l, c⟩, rfl, ⟨h1, h2, h3, h4⟩, hb⟩ := one_cardsU.arg (slice_cells Tryz.underlying22 hv) h hw hts hds
  have h5 : Tryz.prog.bytesOf 31 = 32 := by kernel_rfl
  rw [h5] at h4
  unfold reachBytes at h4
  dsimp only at h1 h2 h3 h4 hb
  exact ⟨A, l, c, rfl, ⟨h1, h2⟩, h3, by omega, hb⟩
end
end Go.Proofs.YtfkfpanhbanljaaGreatDoor.Opens
