import Derived.Test.YtdlghabpnpbebaaDoorBlkOps
import Derived.Deep.MidRow
import Derived.Test.YtdlghabpnpbebaaDoorJrnGo
import Derived.Test.YtdlghabpnpbebaaDoorWalRScan
import Derived.Test.YtdlghabpnpbebaaDoorDiskRefs
import Derived.Test.YtdlghabpnpbebaaDoorNumWalksB
import Derived.Test.YtdlghabpnpbebaaDoorNumWalksD
import Derived.Deep.RegionLaw
import Derived.Deep.DeepCutAuto
import Derived.Deep.RegionHeld3
import Derived.Test.YtdlghabpnpbebaaDoorJrnDo
/- Words for the first cells of a block, over any program: a struct at the head of a greater one is loaded and stored as one step. -/
namespace Go.Proofs.YtdlghabpnpbebaaDoor.Mem
open Go.RowKit

theorem setCells_set (b : Nat) : ∀ (vs : List Value) (o : Nat) (w : World) (old : List Value) (t : TypeId), Blk w b old t → o + vs.length ≤ old.length → Blk (w.setCells b o vs) b (old.take o ++ vs ++ old.drop (o + vs.length)) t
  | [], o, w, old, t, h, ho => by simpa [World.setCells] using h
  | v :: r, o, w, old, t, h, ho => by
    simp only [List.length_cons] at ho
    have h1 := setCells_set b r (o + 1) (w.setCell ⟨b, o, none⟩ v) (old.set o v) t (h.set o v) (by rw [List.length_set]; omega)
    rw [World.setCells]
    have e : (old.set o v).take (o + 1) ++ r ++ (old.set o v).drop (o + 1 + r.length) = old.take o ++ v :: r ++ old.drop (o + (v :: r).length) := by
      have e1 : (old.set o v).take (o + 1) = old.take o ++ [v] := by
        rw [List.take_succ_eq_append_getElem (by rw [List.length_set]; omega), List.take_set_of_le (Nat.le_refl o)]
        simp
      have e2 : (old.set o v).drop (o + 1 + r.length) = old.drop (o + (v :: r).length) := by
        rw [List.drop_set_of_lt (by omega), List.length_cons, Nat.add_assoc, Nat.add_comm 1]
      rw [e1, e2]; simp
    rw [e] at h1
    exact h1
theorem setCells_upd (b : Nat) : ∀ (vs : List Value) (o : Nat) (w : World), Upd (fun k => k = b) w (w.setCells b o vs)
  | [], _, w => Upd.refl _ w
  | v :: r, o, w => by
    rw [World.setCells]
    exact (Upd.setCell (S := fun k => k = b) (Upd.refl _ w) (p := ⟨b, o, none⟩) (.inl rfl) v).trans (setCells_upd b r (o + 1) _)
section
variable {P : Program} {w : World}
theorem blk_range {g : Nat} {cs more : List Value} {t : TypeId} (h : Blk w g (cs ++ more) t) : w.rangeAt g 0 cs := fun j v hv => by
  rw [Nat.zero_add]
  exact h.cell (by rw [List.getElem?_append_left (List.getElem?_eq_some_iff.1 hv).1]; exact hv)
theorem blk_there {g : Nat} {old : List Value} {t : TypeId} (h : Blk w g old t) {n : Nat} (hn : n ≤ old.length) : w.there g 0 n := fun j hj => by
  rw [Nat.zero_add]
  exact ⟨by rw [h.cell (u := old[j]'(by omega)) (List.getElem?_eq_getElem (by omega))]; rfl, h.frozen j⟩
theorem wpl_loadP {ops : Array Oper} {rest : List Oper} {o : Oper} {a : Act} {Q : Exit → Act → World → Prop} (hgd : o.guard = none) (ty : TypeId) (x : Operand) (ho : o.op = .load ty x)
    (g : Nat) (hx : a.eval x = .pointer (some ⟨g, 0, none⟩)) (t : TypeId) (cs more : List Value) (hk : Blk w g (cs ++ more) t) (d : TypeDesc)
    (hu : P.underlying ty = some d) (hd : d.isRow = true) (hi : (P.info? ty).map (·.size) = some cs.length)
    (h : wpList P ops Q rest (a.put o.dst (.agg cs.toArray)) w) : wpList P ops Q (o :: rest) a w :=
  wpList_load_mid hgd ty x ho g 0 hx cs d (blk_range hk) hu hd hi h
theorem wpl_storeP {ops : Array Oper} {rest : List Oper} {o : Oper} {a : Act} {Q : Exit → Act → World → Prop} (hgd : o.guard = none) (ty : TypeId) (x y : Operand) (ho : o.op = .store ty x y)
    (g : Nat) (cells : List Value) (hx : a.eval x = .pointer (some ⟨g, 0, none⟩)) (hy : a.eval y = .agg cells.toArray)
    (t : TypeId) (old more : List Value) (hk : Blk w g (old ++ more) t) (hold : old.length = cells.length) (hi : (P.info? ty).map (·.size) = some cells.length) (h1 : cells.all (·.oneCell') = true)
    (h : ∀ w', Blk w' g (cells ++ more) t → Upd (fun k => k = g) w w' → wpList P ops Q rest (a.put o.dst undef) w') : wpList P ops Q (o :: rest) a w := by
  have hb := setCells_set g cells 0 w (old ++ more) t hk (by rw [List.length_append]; omega)
  have e : (old ++ more).take 0 ++ cells ++ (old ++ more).drop (0 + cells.length) = cells ++ more := by
    rw [Nat.zero_add, ← hold, List.drop_left]; rfl
  rw [e] at hb
  refine wpList_store_mid hgd ty x y ho g 0 cells.toArray hx hy (blk_there hk (by rw [List.length_append]; simp; omega)) (by simpa using hi) (by simpa using h1) ?_
  exact h _ hb (setCells_upd g cells 0 w)
theorem step_loadP {ops : Array Oper} {o : Oper} {a : Act} {K : Act → World → Prop} {Q : Exit → Act → World → Prop} {F : Prop} (hgd : o.guard = none) (ty : TypeId) (x : Operand) (ho : o.op = .load ty x)
    (g : Nat) (hx : a.eval x = .pointer (some ⟨g, 0, none⟩)) (t : TypeId) (cs more : List Value) (hk : Blk w g (cs ++ more) t) (d : TypeDesc)
    (hu : P.underlying ty = some d) (hd : d.isRow = true) (hi : (P.info? ty).map (·.size) = some cs.length)
    (h : K (a.put o.dst (.agg cs.toArray)) w) : if Region.wanted o (yielded ops a.tmps) = true then Oper.wp P o a w K Q else F := by
  rw [if_pos (by simp [Region.wanted, hgd])]
  exact wp_load_mid ty x ho g 0 hx cs d (blk_range hk) hu hd hi h
theorem step_storeP {ops : Array Oper} {o : Oper} {a : Act} {K : Act → World → Prop} {Q : Exit → Act → World → Prop} {F : Prop} (hgd : o.guard = none) (ty : TypeId) (x y : Operand) (ho : o.op = .store ty x y)
    (g : Nat) (cells : List Value) (hx : a.eval x = .pointer (some ⟨g, 0, none⟩)) (hy : a.eval y = .agg cells.toArray)
    (t : TypeId) (old more : List Value) (hk : Blk w g (old ++ more) t) (hold : old.length = cells.length) (hi : (P.info? ty).map (·.size) = some cells.length) (h1 : cells.all (·.oneCell') = true)
    (h : ∀ w', Blk w' g (cells ++ more) t → Upd (fun k => k = g) w w' → K (a.put o.dst undef) w') : if Region.wanted o (yielded ops a.tmps) = true then Oper.wp P o a w K Q else F := by
  have hb := setCells_set g cells 0 w (old ++ more) t hk (by rw [List.length_append]; omega)
  have e : (old ++ more).take 0 ++ cells ++ (old ++ more).drop (0 + cells.length) = cells ++ more := by
    rw [Nat.zero_add, ← hold, List.drop_left]; rfl
  rw [e] at hb
  rw [if_pos (by simp [Region.wanted, hgd])]
  refine wp_store_mid ty x y ho g 0 cells.toArray hx hy (blk_there hk (by rw [List.length_append]; simp; omega)) (by simpa using hi) (by simpa using h1) ?_
  exact h _ hb (setCells_upd g cells 0 w)
theorem step_storeB {ops : Array Oper} {o : Oper} {a : Act} {K : Act → World → Prop} {Q : Exit → Act → World → Prop} {F : Prop} (hgd : o.guard = none) (ty : TypeId) (x y : Operand) (ho : o.op = .store ty x y)
    (g : Nat) (cells : List Value) (hx : a.eval x = .pointer (some ⟨g, 0, none⟩)) (hy : a.eval y = .agg cells.toArray)
    (t : TypeId) (old : List Value) (hk : Blk w g old t) (hold : old.length = cells.length) (hi : (P.info? ty).map (·.size) = some cells.length) (h1 : cells.all (·.oneCell') = true)
    (h : ∀ w', Blk w' g cells t → Upd (fun k => k = g) w w' → K (a.put o.dst undef) w') : if Region.wanted o (yielded ops a.tmps) = true then Oper.wp P o a w K Q else F :=
  step_storeP hgd ty x y ho g cells hx hy t old [] (by rw [List.append_nil]; exact hk) hold hi h1 fun w' h2 h3 => h w' (by rw [List.append_nil] at h2; exact h2) h3
end
end Go.Proofs.YtdlghabpnpbebaaDoor.Mem

/- Layer 24 (journal): the walks of the document's head, empty, write. -/
namespace Go.Proofs.YtdlghabpnpbebaaDoor.Jrn
open Go.RowKit Go.Proofs.YtdlghabpnpbebaaDoor.Mem Go.Proofs.YtdlghabpnpbebaaDoor.Num Go.Proofs.YtdlghabpnpbebaaDoor.Wal Go.Proofs.YtdlghabpnpbebaaDoor.Disk Go.Proofs.YtdlghabpnpbebaaDoor.Crc

theorem rhead_any (gen : Nat) (X : Option Addr) (m c : Nat) (l : List Nat) (w : World) (hm : m = l.length) (hg : gen < 18446744073709551616) (hl : AllB l) (hr : Rd w w.heap.size X (BB l)) (hsz : l.length ≤ 140737488354000) :
    Calls Tryd.prog 49 #[.int .u64 (gen : Int), .slice X m c] w (Gives w (headN gen l)) := by
  subst hm
  have CN := kept (rappend_any none 0 0 [] gen w rfl hg Rd.nil (by simp))
  have HR := kept (fun (W : World) (h : Below w.heap.size w W) => hr.next h)
  have hn9 : (numB gen).length ≤ 9 := by have := numB_length gen; have := Shift.lenB_le gen; omega
  have hna : AllB (numB gen) := numB_all gen
  clear hr
  go_enter Tryd.func49, Tryd.ntmps49
  go_wp2_with fail
  refine CN.out.mono ?_
  rintro e w2 ⟨A2, c2, rfl, hown2, hc2, hb2⟩
  rw [List.nil_append] at hown2 hc2
  rw [List.nil_append]
  have hr2 := HR.out _ hb2
  have hbase := hb2.size
  have hsz2 : (numB gen).length + l.length ≤ 140737488355328 := by omega
  clear CN
  go_wp2_with (at_builtin; refine wpl_app rfl (.tmp 6) (.tmp 7) rfl w.heap.size _ (numB gen) rfl hown2 _ _ _ _ l rfl rfl hr2 hsz2 hbase ?_; intro A3 c3 w3 r3 hr3 hown3 hg3 hb3)
  obtain rfl : r3 = numB gen ++ l := hr3.out
  have hb23 := hb2.trans hb3
  have CP := kept (rput_any A3 _ c3 (numB gen ++ l) w3 rfl (app_all hna hl) hown3.rd (by rw [List.length_append]; omega))
  have HB := kept hb23
  clear hown3 hown2 hb2 hb3 hg3 hr3 hb23 hr2
  go_wp2_with fail
  refine CP.out.mono ?_
  rintro e w4 ⟨A4, c4, rfl, hown4, hc4, hb4⟩
  have HO := kept (And.intro (hown4.mono HB.out.size) (HB.out.trans (hb4.mono HB.out.size)))
  clear hown4 hb4 CP
  go_wp2_with fail
  go_ret
  exact ⟨A4, c4, rfl, HO.out.1, hc4, HO.out.2⟩
theorem bytes_ne {x : ByteArray} (h : ¬ x = ⟨#[]⟩) : (x.toList == ([] : List UInt8)) = false := by
  rw [beq_eq_false_iff_ne]
  intro e
  refine h (ByteArray.ext (Array.toList_inj.1 ?_))
  rw [← ByteArray.toList_eq, e]
theorem strB_nil_iff {l : List Nat} : strB l = ⟨#[]⟩ ↔ l = [] := by
  constructor
  · intro h
    have h1 := congrArg ByteArray.size h
    rw [strB_size] at h1
    exact List.eq_nil_of_length_eq_zero h1
  · rintro rfl; rfl
set_option maxRecDepth 100000 in
theorem rempty_0 (d : DS) (w : World) (h : d.Ok) : Calls Tryd.prog 45 #[rV d, .int .i64 0] w (RGives w (.tuple #[rV (emptyM d 0).1, .int .i64 ((emptyM d 0).2 : Int)])) := by
  have C := kept (fun W => rcut_any d 0 0 W h)
  have H := kept (Rn.start w (rL d) rZ)
  have HE : Kept (emptyM d 0 = if d.b0 = [] then (d, 0) else d.cutM 0 0) := ⟨rfl⟩
  have hs0 : strB d.b0 = ⟨#[]⟩ ↔ d.b0 = [] := strB_nil_iff
  generalize d.cutM 0 0 = r at *
  obtain ⟨d2, e2⟩ := r
  obtain ⟨b0, s0, b1, s1, room, fuse, down⟩ := d
  obtain ⟨c0, t0, c1, t1, roon, fuze, dn⟩ := d2
  dsimp only at HE hs0
  show Calls Tryd.prog 45 #[.agg #[.string (strB b0), .string (strB b1), .int .i64 (s0 : Int), .int .i64 (s1 : Int), .int .i64 (room : Int), .int .i64 fuse, .bool down], .int .i64 0] w _
  change Kept (∀ W : World, Calls Tryd.prog 44 #[.agg #[.string (strB b0), .string (strB b1), .int .i64 (s0 : Int), .int .i64 (s1 : Int), .int .i64 (room : Int), .int .i64 fuse, .bool down], .int .i64 0, .int .i64 0] W _) at C
  have HK : Kept (rL ⟨b0, s0, b1, s1, room, fuse, down⟩ = rC (strB b0) (strB b1) s0 s1 room fuse down) := ⟨rfl⟩
  have HV : Kept (∀ e : Int, Value.tuple #[rV ⟨b0, s0, b1, s1, room, fuse, down⟩, .int .i64 e] = .tuple #[.agg #[.string (strB b0), .string (strB b1), .int .i64 (s0 : Int), .int .i64 (s1 : Int), .int .i64 (room : Int), .int .i64 fuse, .bool down], .int .i64 e]) := ⟨fun _ => rfl⟩
  have HS0 := kept hs0
  rw [HK.out] at H
  clear hs0 HK h
  generalize strB b0 = S0 at *
  by_cases hb : S0 = ⟨#[]⟩
  · subst hb
    have HR : Kept (emptyM ⟨b0, s0, b1, s1, room, fuse, down⟩ 0 = (⟨b0, s0, b1, s1, room, fuse, down⟩, 0)) := ⟨by rw [HE.out, if_pos (HS0.out.1 rfl)]⟩
    clear HE HS0 C
    have hk1 := H.out.2.2
    go_enter Tryd.func45, Tryd.ntmps45
    go_wp2_with (refine wpl_storeB rfl _ _ _ rfl (w.heap.size + 1) (rC ⟨#[]⟩ (strB b1) s0 s1 room fuse down) rfl rfl _ _ hk1 rfl rfl rfl ?_; intro w2 hk3 hu3; have H2 := kept (H.out.res hk3 hu3); clear hk3 hu3)
    exact bodyPost_ret (res_cell_tmp rfl _ (w.heap.size + 1) _ (rC ⟨#[]⟩ (strB b1) s0 s1 room fuse down) _ rfl H2.out.2.2 rfl rfl rfl) rfl ⟨by rw [HR.out, HV.out]; rfl, H2.out.1⟩
  · have HR : Kept (emptyM ⟨b0, s0, b1, s1, room, fuse, down⟩ 0 = (⟨c0, t0, c1, t1, roon, fuze, dn⟩, e2)) := ⟨by rw [HE.out, if_neg (fun h => hb (HS0.out.2 h))]⟩
    have hbb : (S0.toList == ([] : List UInt8)) = false := bytes_ne hb
    clear HE HS0 HV
    go_enter Tryd.func45, Tryd.ntmps45
    go_wp2_with fail
    refine (C.out _).mono ?_
    rintro e w1 ⟨rfl, hb1⟩
    have H1 := kept (H.out.next hb1)
    have hk1 := H1.out.2.2
    clear hb1 C H
    go_wp2_with (refine wpl_storeB rfl _ _ _ rfl (w.heap.size + 1) (rL ⟨c0, t0, c1, t1, roon, fuze, dn⟩) rfl rfl _ _ hk1 rfl rfl rfl ?_; intro w2 hk3 hu3; have H2 := kept (H1.out.res hk3 hu3); clear hk3 hu3)
    exact bodyPost_ret (res_cell_tmp rfl _ (w.heap.size + 1) _ (rL ⟨c0, t0, c1, t1, roon, fuze, dn⟩) _ rfl H2.out.2.2 rfl rfl rfl) rfl ⟨by rw [HR.out]; rfl, H2.out.1⟩
set_option maxRecDepth 100000 in
theorem rempty_1 (d : DS) (w : World) (h : d.Ok) : Calls Tryd.prog 45 #[rV d, .int .i64 1] w (RGives w (.tuple #[rV (emptyM d 1).1, .int .i64 ((emptyM d 1).2 : Int)])) := by
  have C := kept (fun W => rcut_any d 1 0 W h)
  have H := kept (Rn.start w (rL d) rZ)
  have HE : Kept (emptyM d 1 = if d.b1 = [] then (d, 0) else d.cutM 1 0) := ⟨rfl⟩
  have hs0 : strB d.b1 = ⟨#[]⟩ ↔ d.b1 = [] := strB_nil_iff
  generalize d.cutM 1 0 = r at *
  obtain ⟨d2, e2⟩ := r
  obtain ⟨b0, s0, b1, s1, room, fuse, down⟩ := d
  obtain ⟨c0, t0, c1, t1, roon, fuze, dn⟩ := d2
  dsimp only at HE hs0
  show Calls Tryd.prog 45 #[.agg #[.string (strB b0), .string (strB b1), .int .i64 (s0 : Int), .int .i64 (s1 : Int), .int .i64 (room : Int), .int .i64 fuse, .bool down], .int .i64 1] w _
  change Kept (∀ W : World, Calls Tryd.prog 44 #[.agg #[.string (strB b0), .string (strB b1), .int .i64 (s0 : Int), .int .i64 (s1 : Int), .int .i64 (room : Int), .int .i64 fuse, .bool down], .int .i64 1, .int .i64 0] W _) at C
  have HK : Kept (rL ⟨b0, s0, b1, s1, room, fuse, down⟩ = rC (strB b0) (strB b1) s0 s1 room fuse down) := ⟨rfl⟩
  have HV : Kept (∀ e : Int, Value.tuple #[rV ⟨b0, s0, b1, s1, room, fuse, down⟩, .int .i64 e] = .tuple #[.agg #[.string (strB b0), .string (strB b1), .int .i64 (s0 : Int), .int .i64 (s1 : Int), .int .i64 (room : Int), .int .i64 fuse, .bool down], .int .i64 e]) := ⟨fun _ => rfl⟩
  have HS0 := kept hs0
  rw [HK.out] at H
  clear hs0 HK h
  generalize strB b1 = S0 at *
  by_cases hb : S0 = ⟨#[]⟩
  · subst hb
    have HR : Kept (emptyM ⟨b0, s0, b1, s1, room, fuse, down⟩ 1 = (⟨b0, s0, b1, s1, room, fuse, down⟩, 0)) := ⟨by rw [HE.out, if_pos (HS0.out.1 rfl)]⟩
    clear HE HS0 C
    have hk1 := H.out.2.2
    go_enter Tryd.func45, Tryd.ntmps45
    go_wp2_with (refine wpl_storeB rfl _ _ _ rfl (w.heap.size + 1) (rC (strB b0) ⟨#[]⟩ s0 s1 room fuse down) rfl rfl _ _ hk1 rfl rfl rfl ?_; intro w2 hk3 hu3; have H2 := kept (H.out.res hk3 hu3); clear hk3 hu3)
    exact bodyPost_ret (res_cell_tmp rfl _ (w.heap.size + 1) _ (rC (strB b0) ⟨#[]⟩ s0 s1 room fuse down) _ rfl H2.out.2.2 rfl rfl rfl) rfl ⟨by rw [HR.out, HV.out]; rfl, H2.out.1⟩
  · have HR : Kept (emptyM ⟨b0, s0, b1, s1, room, fuse, down⟩ 1 = (⟨c0, t0, c1, t1, roon, fuze, dn⟩, e2)) := ⟨by rw [HE.out, if_neg (fun h => hb (HS0.out.2 h))]⟩
    have hbb : (S0.toList == ([] : List UInt8)) = false := bytes_ne hb
    clear HE HS0 HV
    go_enter Tryd.func45, Tryd.ntmps45
    go_wp2_with fail
    refine (C.out _).mono ?_
    rintro e w1 ⟨rfl, hb1⟩
    have H1 := kept (H.out.next hb1)
    have hk1 := H1.out.2.2
    clear hb1 C H
    go_wp2_with (refine wpl_storeB rfl _ _ _ rfl (w.heap.size + 1) (rL ⟨c0, t0, c1, t1, roon, fuze, dn⟩) rfl rfl _ _ hk1 rfl rfl rfl ?_; intro w2 hk3 hu3; have H2 := kept (H1.out.res hk3 hu3); clear hk3 hu3)
    exact bodyPost_ret (res_cell_tmp rfl _ (w.heap.size + 1) _ (rL ⟨c0, t0, c1, t1, roon, fuze, dn⟩) _ rfl H2.out.2.2 rfl rfl rfl) rfl ⟨by rw [HR.out]; rfl, H2.out.1⟩
theorem rempty_any (d : DS) (f : Int) (w : World) (h : d.Ok) (hf : f = 0 ∨ f = 1) : Calls Tryd.prog 45 #[rV d, .int .i64 f] w (RGives w (.tuple #[rV (emptyM d f).1, .int .i64 ((emptyM d f).2 : Int)])) := by
  rcases hf with rfl | rfl
  · exact rempty_0 d w h
  · exact rempty_1 d w h
/-! what stays in bounds -/
theorem appM_ok {d : DS} (h : d.Ok) {f : Int} {l : List Nat} (hl : AllB l) : (d.appM f l).1.Ok := by
  have hb := burn_ok h
  unfold DS.appM
  split
  · rename_i hf
    split
    · exact hb
    · split
      · exact hb
      · rename_i hroom
        have h6 := hb.2.2.2.2.2.1
        have hf' : f = 0 ∨ f = 1 := by unfold isF at hf; simpa using hf
        rcases hf' with rfl | rfl
        · refine put_ok hb (app_all (b_all hb 0) hl) ?_ ?_
          · show d.burn.s0 ≤ (d.burn.b0 ++ l).length
            have := hb.2.2.1
            rw [List.length_append]; omega
          · show (d.burn.b0 ++ l).length + d.burn.b1.length ≤ _
            unfold DS.used at hroom
            rw [List.length_append]; omega
        · refine put_ok hb (app_all (b_all hb 1) hl) ?_ ?_
          · show d.burn.s1 ≤ (d.burn.b1 ++ l).length
            have := hb.2.2.2.1
            rw [List.length_append]; omega
          · show d.burn.b0.length + (d.burn.b1 ++ l).length ≤ _
            unfold DS.used at hroom
            rw [List.length_append]; omega
  · exact h
theorem syncM_ok {d : DS} (h : d.Ok) (f : Int) : (d.syncM f).1.Ok := by
  have hb := burn_ok h
  have hu := hb.2.2.2.2.1
  unfold DS.syncM
  split
  · rename_i hf
    split
    · exact hb
    · have hf' : f = 0 ∨ f = 1 := by unfold isF at hf; simpa using hf
      rcases hf' with rfl | rfl
      · exact put_ok hb (b_all hb 0) (Nat.le_refl _) hu
      · exact put_ok hb (b_all hb 1) (Nat.le_refl _) hu
  · exact h
theorem cutM_ok {d : DS} (h : d.Ok) (f n : Int) : (d.cutM f n).1.Ok := by
  have hb := burn_ok h
  have hu := hb.2.2.2.2.1
  unfold DS.used at hu
  unfold DS.cutM
  split
  · rename_i hf
    split
    · exact hb
    · obtain ⟨hf, hn, hl⟩ := hf
      have hf' : f = 0 ∨ f = 1 := by unfold isF at hf; simpa using hf
      have e0 := (burn_b d).1
      have e1 := (burn_b d).2.1
      rcases hf' with rfl | rfl
      · have hl' : n ≤ (d.b0.length : Int) := hl
        refine put_ok hb (take_all (b_all hb 0) _) ?_ ?_
        · show n.toNat ≤ (d.burn.b0.take n.toNat).length
          rw [List.length_take, e0]; omega
        · show (d.burn.b0.take n.toNat).length + d.burn.b1.length ≤ _
          rw [List.length_take]; omega
      · have hl' : n ≤ (d.b1.length : Int) := hl
        refine put_ok hb (take_all (b_all hb 1) _) ?_ ?_
        · show n.toNat ≤ (d.burn.b1.take n.toNat).length
          rw [List.length_take, e1]; omega
        · show d.burn.b0.length + (d.burn.b1.take n.toNat).length ≤ _
          rw [List.length_take]; omega
  · exact h
theorem writeM_ok {d : DS} (h : d.Ok) {f : Int} {l : List Nat} (hl : AllB l) : (writeM d f l).1.Ok := by
  unfold writeM
  split
  · exact appM_ok h hl
  · exact syncM_ok (appM_ok h hl) f
theorem emptyM_ok {d : DS} (h : d.Ok) (f : Int) : (emptyM d f).1.Ok := by
  unfold emptyM
  split
  · exact h
  · exact cutM_ok h f 0
set_option maxRecDepth 100000 in
theorem rwrite_any (d : DS) (f : Int) (X : Option Addr) (m c : Nat) (l : List Nat) (w : World) (h : d.Ok) (hl : AllB l) (hm : m = l.length) (hr : Rd w w.heap.size X (BB l)) (hsz : l.length ≤ 140737488355000) :
    Calls Tryd.prog 47 #[rV d, .int .i64 f, .slice X m c] w (RGives w (.tuple #[rV (writeM d f l).1, .int .i64 ((writeM d f l).2 : Int)])) := by
  subst hm
  have H := kept (Rn.start w (rL d) rZ)
  have CA := kept (fun (W : World) (hb : Below w.heap.size w W) => rapp_any d f X l.length c l W h rfl (hr.next hb) hsz)
  have CS := kept (fun (W : World) => rsync_any (d.appM f l).1 f W (appM_ok h hl))
  have HE : Kept (writeM d f l = if (d.appM f l).2 ≠ 0 then d.appM f l else (d.appM f l).1.syncM f) := ⟨rfl⟩
  clear h hr
  generalize d.appM f l = r at *
  obtain ⟨d1, e1⟩ := r
  dsimp only at HE CS
  generalize d1.syncM f = r2 at *
  obtain ⟨d2, e2⟩ := r2
  show Calls Tryd.prog 47 #[.agg #[.string (strB d.b0), .string (strB d.b1), .int .i64 (d.s0 : Int), .int .i64 (d.s1 : Int), .int .i64 (d.room : Int), .int .i64 d.fuse, .bool d.down], .int .i64 f, .slice X l.length c] w _
  have CA1 := kept (CA.out _ H.out.1)
  go_enter Tryd.func47, Tryd.ntmps47
  go_wp2_with fail
  refine CA1.out.mono ?_
  rintro e w1 ⟨rfl, hb1⟩
  have H1 := kept (H.out.next hb1)
  have hk1 := H1.out.2.1
  clear hb1 CA CA1 H
  by_cases he : e1 = 0
  · subst he
    have HR : Kept (writeM d f l = (d2, e2)) := ⟨by rw [HE.out]; rfl⟩
    clear HE
    go_wp2_with (first | (refine wpl_storeB rfl _ _ _ rfl w.heap.size (rL d1) rfl rfl _ _ hk1 rfl rfl rfl ?_; intro w2 hk3 hu3; have H2 := kept (H1.out.par hk3 hu3); have hk4 := H2.out.2.2; clear hk1 hu3) | (refine wpl_loadB rfl _ _ rfl w.heap.size rfl _ _ hk3 _ rfl rfl rfl ?_))
    refine (CS.out _).mono ?_
    rintro e w3 ⟨rfl, hb3⟩
    have H3 := kept (H2.out.next hb3)
    have hk5 := H3.out.2.2
    clear hb3 CS H2 H1 hk3 hk4
    go_wp2_with (refine wpl_storeB rfl _ _ _ rfl (w.heap.size + 1) (rL d2) rfl rfl _ _ hk5 rfl rfl rfl ?_; intro w4 hk6 hu6; have H4 := kept (H3.out.res hk6 hu6); clear hk6 hu6)
    exact bodyPost_ret (res_cell_tmp rfl _ (w.heap.size + 1) _ (rL d2) _ rfl H4.out.2.2 rfl rfl rfl) rfl ⟨by rw [HR.out]; rfl, H4.out.1⟩
  · have HR : Kept (writeM d f l = (d1, e1)) := ⟨by rw [HE.out, if_pos he]⟩
    have heb : ((e1 : Int) != 0) = true := by simpa using he
    clear HE CS
    go_wp2_with (first | (refine wpl_storeB rfl _ _ _ rfl w.heap.size (rL d1) rfl rfl _ _ hk1 rfl rfl rfl ?_; intro w2 hk3 hu3; have H2 := kept (H1.out.par hk3 hu3); have hk4 := H2.out.2.2; clear hk1 hu3) | (refine wpl_loadB rfl _ _ rfl w.heap.size rfl _ _ hk3 _ rfl rfl rfl ?_) | (refine wpl_storeB rfl _ _ _ rfl (w.heap.size + 1) (rL d1) rfl rfl _ _ hk4 rfl rfl rfl ?_; intro w4 hk6 hu6; have H4 := kept (H2.out.res hk6 hu6); clear hk6 hu6))
    exact bodyPost_ret (res_cell_tmp rfl _ (w.heap.size + 1) _ (rL d1) _ rfl H4.out.2.2 rfl rfl rfl) rfl ⟨by rw [HR.out]; rfl, H4.out.1⟩
end Go.Proofs.YtdlghabpnpbebaaDoor.Jrn

/- Layer 24 (journal): the walks of the document's gen, first. -/
namespace Go.Proofs.YtdlghabpnpbebaaDoor.Jrn
open Go.RowKit Go.Proofs.YtdlghabpnpbebaaDoor.Mem Go.Proofs.YtdlghabpnpbebaaDoor.Num Go.Proofs.YtdlghabpnpbebaaDoor.Wal Go.Proofs.YtdlghabpnpbebaaDoor.Disk Go.Proofs.YtdlghabpnpbebaaDoor.Crc

/-- []byte(s) of known bytes, with its room -/
theorem str_row (w : World) (L : List Nat) (hL : AllB L) (hs : L.length ≤ 1048576) : ∃ c w', (convert 9 22 (.string (strB L))).run Tryd.prog w = .ok (.slice (some ⟨w.heap.size, 0, none⟩) L.length c) w' ∧
    Rd w' w'.heap.size (some ⟨w.heap.size, 0, none⟩) (BB L) ∧ Below w.heap.size w w' ∧ L.length ≤ c ∧ c ≤ 9223372036854775807 := by
  obtain ⟨c2, w2, h1, h2, h3, _⟩ := str_cells w L hL
  have hz : (strB L).size = L.length := strB_size L
  have hr := Lib.run_convert_string_bytes (P := Tryd.prog) w 9 22 5 (strB L) Tryd.underlying9 Tryd.underlying22 Tryd.underlying5
  rw [hz, h1] at hr
  injection hr with h5 h6
  injection h5 with _ _ h7
  refine ⟨c2, w2, h1, h2, h3, ?_, ?_⟩
  · rw [h7]; exact grownCap_ge w _ 0 _
  · have := grownCap_le_maxLen w L.length 0 5 (by unfold maxLen; omega)
    rw [h7]
    unfold maxLen at this
    omega
/-- what the document's gen tells -/
def genL : List (List Nat) → Nat × List Nat
  | [] => (0, [])
  | h :: _ => if (readAt h 0).err ≠ 0 then (0, []) else ((readAt h 0).v, h.drop (readAt h 0).next)
def genM (b : List Nat) : Nat × List Nat := genL (scanM b)

theorem gen_look (b : List Nat) : (look b).gen = (genM b).1 := by
  unfold look genM
  cases scanM b with
  | nil => rfl
  | cons h t =>
    show (lookH h t _).gen = (if (readAt h 0).err ≠ 0 then ((0 : Nat), ([] : List Nat)) else ((readAt h 0).v, h.drop (readAt h 0).next)).1
    unfold lookH
    have e : Pack.RS.numV ⟨h, 0⟩ = (readAt h 0).v := by unfold Pack.RS.numV; rw [if_pos rfl]
    rw [e]
    by_cases he : (readAt h 0).err ≠ 0
    · rw [if_pos he, Pack.read_v_err 0 he, if_pos rfl]; rfl
    · rw [if_neg he]
      split
      · rename_i h0; rw [h0]; rfl
      · rfl
theorem gen_snap {b : List Nat} (hg : (genM b).1 ≠ 0) : (look b).snap = (genM b).2 := by
  unfold look
  unfold genM at hg ⊢
  cases hs : scanM b with
  | nil => rw [hs] at hg; exact absurd rfl hg
  | cons h t =>
    rw [hs] at hg
    show (lookH h t _).snap = (if (readAt h 0).err ≠ 0 then ((0 : Nat), ([] : List Nat)) else ((readAt h 0).v, h.drop (readAt h 0).next)).2
    have hg' : (if (readAt h 0).err ≠ 0 then ((0 : Nat), ([] : List Nat)) else ((readAt h 0).v, h.drop (readAt h 0).next)).1 ≠ 0 := hg
    have e : Pack.RS.numV ⟨h, 0⟩ = (readAt h 0).v := by unfold Pack.RS.numV; rw [if_pos rfl]
    by_cases he : (readAt h 0).err ≠ 0
    · rw [if_pos he] at hg'; exact absurd rfl hg'
    · rw [if_neg he] at hg' ⊢
      have he0 : (readAt h 0).err = 0 := Decidable.not_not.1 he
      have e2 : Pack.RS.numR ⟨h, 0⟩ = ⟨h.drop (readAt h 0).next, 0⟩ := by unfold Pack.RS.numR; rw [if_pos rfl]; exact if_pos he0
      unfold lookH
      rw [e, e2, if_neg hg']
      dsimp only
      rw [List.length_drop]
      have := Pack.read_next_le he0
      rw [show h.length - (h.length - (readAt h 0).next) = (readAt h 0).next by omega]
theorem own_le {w : World} {base : Nat} {A : Option Addr} {c : Nat} {l : List Nat} (h : Own w base 5 (.slice A l.length c) (BB l)) : l.length ≤ c := by
  obtain ⟨A', c', he, hc, _⟩ := h.form
  injection he with _ _ h3
  subst h3
  rwa [BB_length] at hc
/-- it gives its bytes, in memory of its own -/
def GenG (w : World) (b : List Nat) (e : Ending) (w' : World) : Prop :=
  ∃ A c, e = .returned (.tuple #[.int .u64 ((genM b).1 : Int), .slice A (genM b).2.length c]) ∧ Rd w' w'.heap.size A (BB (genM b).2) ∧ (∀ x, A = some x → w.heap.size ≤ x.block) ∧ AllB (genM b).2 ∧ (genM b).1 < 18446744073709551616 ∧ Below w.heap.size w w'
set_option maxRecDepth 100000 in
theorem rgen_any (b : List Nat) (w : World) (hl : AllB b) (hsz : b.length ≤ 1048576) : Calls Tryd.prog 41 #[.string (strB b)] w (GenG w b) := by
  obtain ⟨c0, w0, hcv, hr0, hb0, hle, hmx⟩ := str_row w b hl hsz
  have CS := kept (rscan_any (some ⟨w.heap.size, 0, none⟩) b.length c0 b w0 rfl hl hle hmx hr0 (by omega))
  have HB0 := kept hb0
  have HG : Kept (genM b = genL (scanM b)) := ⟨rfl⟩
  have HL1 := kept hl
  generalize strB b = sb at *
  clear hr0 hb0 hl
  go_enter Tryd.func41, Tryd.ntmps41
  go_wp2_with fail
  refine CS.out.mono ?_
  rintro e w1 ⟨X, c1, ps, fin, rfl, hsc, hop, hb1⟩
  obtain ⟨hbo, hfi⟩ := scans_is (by omega) hsc
  have HB1 := kept (HB0.out.trans (hb1.mono HB0.out.size))
  have HOP := kept hop
  have HZ0 := kept HB0.out.size
  clear CS hop hb1 hsc hfi
  cases ps with
  | nil =>
    have HR : Kept (genM b = (0, [])) := ⟨by rw [HG.out, ← hbo]; rfl⟩
    clear hbo
    go_wp2_with fail
    exact bodyPost_ret (v := .tuple #[.int .u64 0, .slice none 0 0]) (by simp [results, Tryd.results41, go_sem]) rfl ⟨none, 0, by rw [HR.out]; rfl, (by rw [HR.out]; exact Rd.nil), (fun x hx => by cases hx), (by rw [HR.out]; exact fun x hx => by cases hx), (by rw [HR.out]; decide), HB1.out⟩
  | cons p ps =>
    obtain ⟨pA, pl, pc⟩ := p
    have hlk : genM b = genL (pl :: bodies ps) := by rw [HG.out, ← hbo]; rfl
    obtain ⟨bb, o, rfl, hbb, hcell, hpr, hpa, hpm⟩ := HOP.out.rd.at_ (j := 0) rfl
    have hp0 := HOP.out.2 ⟨pA, pl, pc⟩ List.mem_cons_self
    have hpc : pl.length ≤ pc := own_le hp0.1
    have hpm3 : pl.length ≤ 140737488355328 := hp0.2.2
    have hcell0 : w1.cell? ⟨bb, o, none⟩ = some (.slice pA pl.length pc) := hcell
    have CR := kept (rread_any pA pl.length pc pl 0 w1 rfl hpa hpc hpm3 hpr)
    have HRN : Kept (readNum pl 0 = readAt pl 0) := ⟨readNum_nat pl 0⟩
    rw [HRN.out] at CR
    unfold outV at CR
    have HLK := kept hlk
    have HV := kept (Pack.read_v_lt hpa 0)
    have HPR := kept hpr
    have HPA := kept hpa
    have HFR : Kept (∀ x, pA = some x → w.heap.size ≤ x.block) := ⟨fun x hx => by
      have := (Own.lt hp0.1 x.block (by unfold Part.val; rw [hx]; rfl)).1
      have := HZ0.out
      omega⟩
    have hnl := @Pack.read_next_le pl
    obtain ⟨⟨rv, rn, re⟩, hro⟩ : ∃ r, readAt pl 0 = r := ⟨_, rfl⟩
    rw [hro] at CR HV hnl
    have HRO := kept hro
    dsimp only at CR HV hnl
    clear hlk hbo hro hpr hpa hp0 hcell
    by_cases he : re = 0
    · subst he
      have HR : Kept (genM b = (rv, pl.drop rn)) := ⟨by rw [HLK.out]; show (if (readAt pl 0).err ≠ 0 then _ else _) = _; rw [HRO.out]; rfl⟩
      have hnl' := hnl rfl
      clear hnl HLK
      go_wp2_with fail
      refine CR.out.mono ?_
      rintro e w' ⟨rfl, rfl⟩
      obtain ⟨A2, hA2⟩ : ∃ A2, (if pc = rn then pA else Option.map (fun x => x.add rn) pA) = A2 := ⟨_, rfl⟩
      have HA := kept hA2
      go_wp2_with fail
      go_quiet (fail)
      go_wp2_with fail
      have hq := HPR.out.drop rn pc pl.length hnl' hpc (BB_length pl)
      have hA3 : (if pc = rn then pA else pA.map (·.add rn)) = A2 := HA.out
      rw [hA3, BB_drop] at hq
      have hbq : ∀ q, Below w1.heap.size w1 (w1.drewN q) := fun q => ⟨rfl, rfl, rfl, Nat.le_refl _, fun _ _ => rfl⟩
      have hfr : ∀ x, A2 = some x → w.heap.size ≤ x.block := fun x hx => by
        rw [← HA.out] at hx
        split at hx
        · exact HFR.out x hx
        · obtain ⟨y, hy, rfl⟩ := Option.map_eq_some_iff.1 hx
          have e : (y.add rn).block = y.block := by unfold Addr.add; split <;> rfl
          rw [e]
          exact HFR.out y hy
      refine bodyPost_ret (v := .tuple #[.int .u64 (rv : Int), .slice A2 (pl.length - rn) (pc - rn)]) (by simp [results, Tryd.results41, go_sem]) rfl ⟨A2, pc - rn, by rw [HR.out, List.length_drop], by rw [HR.out]; exact hq.next (hbq _), hfr, by rw [HR.out]; exact fun x hx => HPA.out x (List.mem_of_mem_drop hx), by rw [HR.out]; exact HV.out, HB1.out.trans ((hbq _).mono HB1.out.size)⟩
    · have HR : Kept (genM b = (0, [])) := ⟨by rw [HLK.out]; show (if (readAt pl 0).err ≠ 0 then _ else _) = _; rw [HRO.out, if_pos he]⟩
      have heb : ((re : Int) != 0) = true := by simpa using he
      clear hnl HLK
      go_wp2_with fail
      refine CR.out.mono ?_
      rintro e w' ⟨rfl, rfl⟩
      go_wp2_with fail
      exact bodyPost_ret (v := .tuple #[.int .u64 0, .slice none 0 0]) (by simp [results, Tryd.results41, go_sem]) rfl ⟨none, 0, by rw [HR.out]; rfl, (by rw [HR.out]; exact Rd.nil), (fun x hx => by cases hx), (by rw [HR.out]; exact fun x hx => by cases hx), (by rw [HR.out]; decide), HB1.out⟩
end Go.Proofs.YtdlghabpnpbebaaDoor.Jrn

/- Layer 24 (journal): the walk of the document's first. -/
namespace Go.Proofs.YtdlghabpnpbebaaDoor.Jrn
open Go.RowKit Go.Proofs.YtdlghabpnpbebaaDoor.Mem Go.Proofs.YtdlghabpnpbebaaDoor.Num Go.Proofs.YtdlghabpnpbebaaDoor.Wal Go.Proofs.YtdlghabpnpbebaaDoor.Disk Go.Proofs.YtdlghabpnpbebaaDoor.Crc

/-- the document's journal -/
def jL (d : DS) (f : Int) (g : Nat) : List Value := [.string (strB d.b0), .string (strB d.b1), .int .i64 (d.s0 : Int), .int .i64 (d.s1 : Int), .int .i64 (d.room : Int), .int .i64 d.fuse, .bool d.down, .int .i64 f, .int .u64 (g : Int)]
theorem jL_eq (d : DS) (f : Int) (g : Nat) : jL d f g = rL d ++ [.int .i64 f, .int .u64 (g : Int)] := rfl
def jV (d : DS) (f : Int) (g : Nat) : Value := .agg (jL d f g).toArray
def jZ : List Value := [.string ⟨#[]⟩, .string ⟨#[]⟩, .int .i64 0, .int .i64 0, .int .i64 0, .int .i64 0, .bool false, .int .i64 0, .int .u64 0]
/-- the parameter's block and the result's, within a call that began in w -/
def Rj (w W : World) (L Z : List Value) : Prop := Below w.heap.size w W ∧ Blk W w.heap.size L 55 ∧ Blk W (w.heap.size + 1) Z 57
section
variable {w W W' : World} {L L' Z Z' : List Value}
theorem Rj.start (w : World) (L Z : List Value) : Rj w ((w.alloc (.cells L.toArray 55)).alloc (.cells Z.toArray 57)) L Z :=
  ⟨((Below.refl _ _).alloc (Nat.le_refl _) _).alloc (by simp) _, (Blk.new w L _).alloc _, Blk.newAt _ Z _ (by simp)⟩
theorem Rj.next (h : Rj w W L Z) (hb : Below W.heap.size W W') : Rj w W' L Z := ⟨h.1.trans (hb.mono h.1.size), h.2.1.next hb, h.2.2.next hb⟩
theorem Rj.par (h : Rj w W L Z) (hk : Blk W' w.heap.size L' 55) (hu : Upd (fun k => k = w.heap.size) W W') : Rj w W' L' Z :=
  ⟨h.1.trans (hu.below h.1.size fun i _ hi => by omega), hk, h.2.2.upd hu (by omega)⟩
theorem Rj.res (h : Rj w W L Z) (hk : Blk W' (w.heap.size + 1) Z' 57) (hu : Upd (fun k => k = w.heap.size + 1) W W') : Rj w W' L Z' :=
  ⟨h.1.trans (hu.below h.1.size fun i _ hi => by omega), h.2.1.upd hu (by omega), hk⟩
theorem Rj.drew (h : Rj w W L Z) : Rj w W.drew L Z := h.next (Below.refl _ _).drew
end
theorem Rj.set7 {w W : World} {d d3 : DS} {Z : List Value} (h : Rj w W (rL d) Z) {L : List Value} (hL : L = rL d3) :
    Rj w (((((((W.setCell ⟨w.heap.size, 0, none⟩ (.string (strB d3.b0))).setCell ⟨w.heap.size, 1, none⟩ (.string (strB d3.b1))).setCell ⟨w.heap.size, 2, none⟩ (.int .i64 (d3.s0 : Int))).setCell ⟨w.heap.size, 3, none⟩ (.int .i64 (d3.s1 : Int))).setCell ⟨w.heap.size, 4, none⟩ (.int .i64 (d3.room : Int))).setCell ⟨w.heap.size, 5, none⟩ (.int .i64 d3.fuse)).setCell ⟨w.heap.size, 6, none⟩ (.bool d3.down)) L Z := by
  subst hL
  have hk := ((((((h.2.1.set 0 (.string (strB d3.b0))).set 1 (.string (strB d3.b1))).set 2 (.int .i64 (d3.s0 : Int))).set 3 (.int .i64 (d3.s1 : Int))).set 4 (.int .i64 (d3.room : Int))).set 5 (.int .i64 d3.fuse)).set 6 (.bool d3.down)
  refine h.par hk ?_
  have st : ∀ {V : World}, Upd (fun k => k = w.heap.size) W V → ∀ (j : Nat) (v : Value), Upd (fun k => k = w.heap.size) W (V.setCell ⟨w.heap.size, j, none⟩ v) := fun hu j v => hu.setCell (p := ⟨w.heap.size, j, none⟩) (.inl rfl) v
  exact st (st (st (st (st (st (st (Upd.refl _ _) 0 _) 1 _) 2 _) 3 _) 4 _) 5 _) 6 _
def firstM (d : DS) : DS × Nat := first2 (if (emptyM d 0).2 = 0 then emptyM (emptyM d 0).1 1 else emptyM d 0) where
  first2 (r : DS × Nat) : DS × Nat := if r.2 = 0 then writeM r.1 0 (headN 1 []) else r
theorem rV_ex (d : DS) : rV d = .agg #[.string (strB d.b0), .string (strB d.b1), .int .i64 (d.s0 : Int), .int .i64 (d.s1 : Int), .int .i64 (d.room : Int), .int .i64 d.fuse, .bool d.down] := rfl
/-- the cells, spelled -/
theorem blk_lit {W : World} {g : Nat} {d : DS} {t : TypeId} (h : Blk W g (rL d) t) : Blk W g [.string (strB d.b0), .string (strB d.b1), .int .i64 (d.s0 : Int), .int .i64 (d.s1 : Int), .int .i64 (d.room : Int), .int .i64 d.fuse, .bool d.down] t := h
theorem hd_le0 (g : Nat) (s : List Nat) : (headN g s).length ≤ s.length + 22 := by
  unfold headN
  have := recB_le (numB g ++ s)
  have h2 := numB_length g
  have h3 := Shift.lenB_le g
  rw [List.length_append] at this
  omega
set_option maxRecDepth 100000 in
set_option maxHeartbeats 400000 in
theorem rfirst_any (d : DS) (w : World) (h : d.Ok) : Calls Tryd.prog 42 #[rV d] w (RGives w (.tuple #[jV (firstM d).1 0 1, .int .i64 ((firstM d).2 : Int)])) := by
  have H := kept (Rj.start w (rL d) jZ)
  have C0 := kept (fun W => rempty_any d 0 W h (.inl rfl))
  have hok1 := emptyM_ok h 0
  have HF : Kept (firstM d = firstM.first2 (if (emptyM d 0).2 = 0 then emptyM (emptyM d 0).1 1 else emptyM d 0)) := ⟨rfl⟩
  clear h
  generalize emptyM d 0 = r1 at *
  obtain ⟨d1, e1⟩ := r1
  dsimp only at HF hok1
  have C1 := kept (fun W => rempty_any d1 1 W hok1 (.inr rfl))
  have hok2 := emptyM_ok hok1 1
  generalize emptyM d1 1 = r2 at *
  obtain ⟨d2, e2⟩ := r2
  dsimp only at hok2
  have hnil : AllB [] := fun x hx => by cases hx
  have CH := kept (fun W => rhead_any 1 none 0 0 [] W rfl (by decide) hnil Rd.nil (by simp))
  have CW := kept (fun (W : World) (A : Option Addr) (c : Nat) (hr : Rd W W.heap.size A (BB (headN 1 []))) => rwrite_any d2 0 A (headN 1 []).length c (headN 1 []) W hok2 (recB_all fun x hx => (List.mem_append.1 hx).elim (numB_all 1 x) (hnil x)) rfl hr (by have := hd_le0 1 []; simp only [List.length_nil] at this; omega))
  have HA : Kept (e1 ≠ 0 → firstM d = (d1, e1)) := ⟨fun he => by rw [HF.out, if_neg he]; unfold firstM.first2; rw [if_neg he]⟩
  have HB : Kept (e1 = 0 → e2 ≠ 0 → firstM d = (d2, e2)) := ⟨fun he he2 => by rw [HF.out, if_pos he]; unfold firstM.first2; rw [if_neg he2]⟩
  have HC : Kept (e1 = 0 → e2 = 0 → firstM d = writeM d2 0 (headN 1 [])) := ⟨fun he he2 => by rw [HF.out, if_pos he]; unfold firstM.first2; rw [if_pos he2]⟩
  clear HF
  generalize writeM d2 0 (headN 1 []) = r3 at *
  generalize headN 1 [] = hb9 at *
  obtain ⟨d3, e3⟩ := r3
  show Calls Tryd.prog 42 #[.agg #[.string (strB d.b0), .string (strB d.b1), .int .i64 (d.s0 : Int), .int .i64 (d.s1 : Int), .int .i64 (d.room : Int), .int .i64 d.fuse, .bool d.down]] w _
  simp only [rV_ex] at C0 C1 CW
  go_enter Tryd.func42, Tryd.ntmps42
  go_wp2_with fail
  refine (C0.out _).mono ?_
  rintro e w1 ⟨rfl, hb1⟩
  have H1 := kept (H.out.next hb1)
  have hk1 := H1.out.2.1
  clear hb1 C0 H hok1 hok2
  by_cases he1 : e1 = 0
  · subst he1
    go_wp2_with (first | (refine wpl_storeB rfl _ _ _ rfl w.heap.size (rL d1) rfl rfl _ _ hk1 rfl rfl rfl ?_; intro w2 hk2 hu2; have H2 := kept (H1.out.par hk2 hu2); clear hk1 hu2) | (refine wpl_loadB rfl _ _ rfl w.heap.size rfl _ _ hk2 _ rfl rfl rfl ?_))
    refine (C1.out _).mono ?_
    rintro e w3 ⟨rfl, hb3⟩
    have H3 := kept (H2.out.next hb3)
    have hk3 := H3.out.2.1
    clear hb3 C1 H1 hk2 H2
    by_cases he2 : e2 = 0
    · subst he2
      have HR : Kept (firstM d = (d3, e3)) := ⟨HC.out trivial rfl⟩
      clear HA HB HC
      go_upto_region 5 with (first | (refine wpl_storeB rfl _ _ _ rfl w.heap.size (rL d2) rfl rfl _ _ hk3 rfl rfl rfl ?_; intro w4 hk4 hu4; have H4 := kept (H3.out.par hk4 hu4); clear hk3 hu4))
      have hkA := blk_lit H4.out.drew.2.1
      have H4d := kept H4.out.drew
      go_cut [4] (fun p wr => p = .int .i64 (e3 : Int) ∧ Kept (Rj w wr (rL d3) jZ))
      case first =>
        have za0 := (hkA).cell (j := 0) rfl
        have za1 := (hkA).cell (j := 1) rfl
        have za2 := (hkA).cell (j := 2) rfl
        have za3 := (hkA).cell (j := 3) rfl
        have za4 := (hkA).cell (j := 4) rfl
        have za5 := (hkA).cell (j := 5) rfl
        have za6 := (hkA).cell (j := 6) rfl
        have zd0 := (hk4).cell (j := 0) rfl
        have zd1 := (hk4).cell (j := 1) rfl
        have zd2 := (hk4).cell (j := 2) rfl
        have zd3 := (hk4).cell (j := 3) rfl
        have zd4 := (hk4).cell (j := 4) rfl
        have zd5 := (hk4).cell (j := 5) rfl
        have zd6 := (hk4).cell (j := 6) rfl
        go_region_law (first
          | (go_simp; go_at_call 49; refine (CH.out _).mono ?_; rintro e w5 ⟨A5, c5, rfl, ho5, hc5, hb5⟩; have H5 := kept (H4d.out.next hb5); have hkB := blk_lit H5.out.2.1; have zb0 := (hkB).cell (j := 0) rfl; have zb1 := (hkB).cell (j := 1) rfl; have zb2 := (hkB).cell (j := 2) rfl; have zb3 := (hkB).cell (j := 3) rfl; have zb4 := (hkB).cell (j := 4) rfl; have zb5 := (hkB).cell (j := 5) rfl; have zb6 := (hkB).cell (j := 6) rfl; have CW5 := kept (CW.out w5 A5 c5 ho5.rd); clear ho5 hb5)
          | (go_simp; go_at_call 47; refine CW5.out.mono ?_; rintro e w6 ⟨rfl, hb6⟩; have H6 := kept (H5.out.next hb6); have hkC := blk_lit H6.out.2.1; have zc0 := (hkC).cell (j := 0) rfl; have zc1 := (hkC).cell (j := 1) rfl; have zc2 := (hkC).cell (j := 2) rfl; have zc3 := (hkC).cell (j := 3) rfl; have zc4 := (hkC).cell (j := 4) rfl; have zc5 := (hkC).cell (j := 5) rfl; have zc6 := (hkC).cell (j := 6) rfl; have fc0 := (hkC).frozen 0; have fc1 := (hkC).frozen 1; have fc2 := (hkC).frozen 2; have fc3 := (hkC).frozen 3; have fc4 := (hkC).frozen 4; have fc5 := (hkC).frozen 5; have fc6 := (hkC).frozen 6; have hlC := hkC.lt; clear hb6))
        all_goals go_wp2_with fail
        all_goals go_meet
        all_goals exact ⟨rfl, ⟨H6.out.set7 rfl⟩⟩
      case rest =>
        obtain ⟨rfl, H7⟩ := hcut
        obtain ⟨w7, rfl⟩ : ∃ w7 : World, w7 = wc := ⟨_, rfl⟩
        have hk7 := blk_lit H7.out.2.1
        have hk8 := H7.out.2.2
        clear CW CH H4 H4d hkA
        go_wp2_with (first | (refine wpl_loadB rfl _ _ rfl w.heap.size rfl _ _ hk7 _ rfl rfl rfl ?_) | (refine wpl_storeB rfl _ _ _ rfl (w.heap.size + 1) (jL d3 0 1) rfl rfl _ _ hk8 rfl rfl rfl ?_; intro w9 hk9 hu9; have H9 := kept (H7.out.res hk9 hu9); clear hk9 hu9))
        exact bodyPost_ret (res_cell_tmp rfl _ (w.heap.size + 1) _ (jL d3 0 1) _ rfl H9.out.2.2 rfl rfl rfl) rfl ⟨by rw [HR.out]; rfl, H9.out.1⟩
    · have HR : Kept (firstM d = (d2, e2)) := ⟨HB.out trivial he2⟩
      have heb : ((e2 : Int) == 0) = false := by simpa using he2
      clear HA HB HC CW CH
      go_wp2_with (first | (refine wpl_storeB rfl _ _ _ rfl w.heap.size (rL d2) rfl rfl _ _ hk3 rfl rfl rfl ?_; intro w4 hk4 hu4; have H4 := kept (H3.out.par hk4 hu4); have hk5 := H4.out.2.2; have hk4l := blk_lit hk4; clear hk3 hu4) | (refine wpl_loadB rfl _ _ rfl w.heap.size rfl _ _ hk4l _ rfl rfl rfl ?_) | (refine wpl_storeB rfl _ _ _ rfl (w.heap.size + 1) (jL d2 0 1) rfl rfl _ _ hk5 rfl rfl rfl ?_; intro w6 hk6 hu6; have H6 := kept (H4.out.res hk6 hu6); clear hk6 hu6))
      exact bodyPost_ret (res_cell_tmp rfl _ (w.heap.size + 1) _ (jL d2 0 1) _ rfl H6.out.2.2 rfl rfl rfl) rfl ⟨by rw [HR.out]; rfl, H6.out.1⟩
  · have HR : Kept (firstM d = (d1, e1)) := ⟨HA.out he1⟩
    have heb : ((e1 : Int) == 0) = false := by simpa using he1
    clear HA HB HC CW CH C1
    go_wp2_with (first | (refine wpl_storeB rfl _ _ _ rfl w.heap.size (rL d1) rfl rfl _ _ hk1 rfl rfl rfl ?_; intro w4 hk4 hu4; have H4 := kept (H1.out.par hk4 hu4); have hk5 := H4.out.2.2; have hk4l := blk_lit hk4; clear hk1 hu4) | (refine wpl_loadB rfl _ _ rfl w.heap.size rfl _ _ hk4l _ rfl rfl rfl ?_) | (refine wpl_storeB rfl _ _ _ rfl (w.heap.size + 1) (jL d1 0 1) rfl rfl _ _ hk5 rfl rfl rfl ?_; intro w6 hk6 hu6; have H6 := kept (H4.out.res hk6 hu6); clear hk6 hu6))
    exact bodyPost_ret (res_cell_tmp rfl _ (w.heap.size + 1) _ (jL d1 0 1) _ rfl H6.out.2.2 rfl rfl rfl) rfl ⟨by rw [HR.out]; rfl, H6.out.1⟩
end Go.Proofs.YtdlghabpnpbebaaDoor.Jrn

/- Layer 24 (journal): the walk of the document's Add. -/
namespace Go.Proofs.YtdlghabpnpbebaaDoor.Jrn
open Go.RowKit Go.Proofs.YtdlghabpnpbebaaDoor.Mem Go.Proofs.YtdlghabpnpbebaaDoor.Num Go.Proofs.YtdlghabpnpbebaaDoor.Wal Go.Proofs.YtdlghabpnpbebaaDoor.Disk Go.Proofs.YtdlghabpnpbebaaDoor.Crc

/-- the parameter's block and the result's, both a journal -/
def Rq (w W : World) (L Z : List Value) : Prop := Below w.heap.size w W ∧ Blk W w.heap.size L 57 ∧ Blk W (w.heap.size + 1) Z 57
section
variable {w W W' : World} {L L' Z Z' : List Value}
theorem Rq.start (w : World) (L Z : List Value) : Rq w ((w.alloc (.cells L.toArray 57)).alloc (.cells Z.toArray 57)) L Z :=
  ⟨((Below.refl _ _).alloc (Nat.le_refl _) _).alloc (by simp) _, (Blk.new w L _).alloc _, Blk.newAt _ Z _ (by simp)⟩
theorem Rq.next (h : Rq w W L Z) (hb : Below W.heap.size W W') : Rq w W' L Z := ⟨h.1.trans (hb.mono h.1.size), h.2.1.next hb, h.2.2.next hb⟩
theorem Rq.par (h : Rq w W L Z) (hk : Blk W' w.heap.size L' 57) (hu : Upd (fun k => k = w.heap.size) W W') : Rq w W' L' Z :=
  ⟨h.1.trans (hu.below h.1.size fun i _ hi => by omega), hk, h.2.2.upd hu (by omega)⟩
theorem Rq.res (h : Rq w W L Z) (hk : Blk W' (w.heap.size + 1) Z' 57) (hu : Upd (fun k => k = w.heap.size + 1) W W') : Rq w W' L Z' :=
  ⟨h.1.trans (hu.below h.1.size fun i _ hi => by omega), h.2.1.upd hu (by omega), hk⟩
theorem Rq.upd (h : Rq w W L Z) {g : Nat} (hg : w.heap.size + 1 < g) (hu : Upd (fun k => k = g) W W') : Rq w W' L Z :=
  ⟨h.1.trans (hu.below h.1.size fun i _ hi => by omega), h.2.1.upd hu (by omega), h.2.2.upd hu (by omega)⟩
end
theorem bset {B : Nat} {a W : World} (h : Below B a W) {g : Nat} (hp : B ≤ g) (j : Nat) (v : Value) : Below B a (W.setCell ⟨g, j, none⟩ v) := h.setCell (p := ⟨g, j, none⟩) hp v
theorem blk_set7 {W : World} {g : Nat} {old : List Value} {d3 : DS} {t : TypeId} (h : Blk W g old t) (hl : old.length = 7) :
    Blk (((((((W.setCell ⟨g, 0, none⟩ (.string (strB d3.b0))).setCell ⟨g, 1, none⟩ (.string (strB d3.b1))).setCell ⟨g, 2, none⟩ (.int .i64 (d3.s0 : Int))).setCell ⟨g, 3, none⟩ (.int .i64 (d3.s1 : Int))).setCell ⟨g, 4, none⟩ (.int .i64 (d3.room : Int))).setCell ⟨g, 5, none⟩ (.int .i64 d3.fuse)).setCell ⟨g, 6, none⟩ (.bool d3.down)) g (rL d3) t ∧
    Upd (fun k => k = g) W (((((((W.setCell ⟨g, 0, none⟩ (.string (strB d3.b0))).setCell ⟨g, 1, none⟩ (.string (strB d3.b1))).setCell ⟨g, 2, none⟩ (.int .i64 (d3.s0 : Int))).setCell ⟨g, 3, none⟩ (.int .i64 (d3.s1 : Int))).setCell ⟨g, 4, none⟩ (.int .i64 (d3.room : Int))).setCell ⟨g, 5, none⟩ (.int .i64 d3.fuse)).setCell ⟨g, 6, none⟩ (.bool d3.down)) := by
  obtain ⟨a, b, c, e, f, i, j, rfl⟩ : ∃ a b c e f i j, old = [a, b, c, e, f, i, j] := by
    match old, hl with
    | [a, b, c, e, f, i, j], _ => exact ⟨a, b, c, e, f, i, j, rfl⟩
  refine ⟨((((((h.set 0 (.string (strB d3.b0))).set 1 (.string (strB d3.b1))).set 2 (.int .i64 (d3.s0 : Int))).set 3 (.int .i64 (d3.s1 : Int))).set 4 (.int .i64 (d3.room : Int))).set 5 (.int .i64 d3.fuse)).set 6 (.bool d3.down), ?_⟩
  have st : ∀ {V : World}, Upd (fun k => k = g) W V → ∀ (j : Nat) (v : Value), Upd (fun k => k = g) W (V.setCell ⟨g, j, none⟩ v) := fun hu j v => hu.setCell (p := ⟨g, j, none⟩) (.inl rfl) v
  exact st (st (st (st (st (st (st (Upd.refl _ _) 0 _) 1 _) 2 _) 3 _) 4 _) 5 _) 6 _
set_option maxRecDepth 100000 in
set_option maxHeartbeats 1000000 in
theorem radd_any (j : JS) (X : Option Addr) (m c : Nat) (l : List Nat) (w : World) (h : j.d.Ok) (hf : j.file = 0 ∨ j.file = 1) (hm : m = l.length) (hl : AllB l) (hr : Rd w w.heap.size X (BB l)) (hsz : l.length ≤ 140737488354000) :
    Calls Tryd.prog 24 #[jV j.d j.file j.gen, .slice X m c] w (RGives w (.tuple #[jV (addM j l).1.d (addM j l).1.file (addM j l).1.gen, .int .i64 ((addM j l).2 : Int)])) := by
  subst hm
  obtain ⟨d, f, g⟩ := j
  dsimp only at h hf ⊢
  have H := kept (Rq.start w (jL d f g) jZ)
  have hrl := recB_le l
  have CP := kept (fun (W : World) (hb : Below w.heap.size w W) => rput_any X l.length c l W rfl hl (hr.next hb) (by omega))
  have CW := kept (fun (W : World) (A : Option Addr) (c : Nat) (hr : Rd W W.heap.size A (BB (recB l))) => rwrite_any d f A (recB l).length c (recB l) W h (recB_all hl) rfl hr (by omega))
  have HR : Kept (addM ⟨d, f, g⟩ l = (⟨(writeM d f (recB l)).1, f, g⟩, (writeM d f (recB l)).2)) := ⟨rfl⟩
  clear hr
  generalize writeM d f (recB l) = r1 at *
  generalize recB l = rl at *
  obtain ⟨d1, e1⟩ := r1
  dsimp only at HR
  simp only [rV_ex] at CW
  show Calls Tryd.prog 24 #[.agg #[.string (strB d.b0), .string (strB d.b1), .int .i64 (d.s0 : Int), .int .i64 (d.s1 : Int), .int .i64 (d.room : Int), .int .i64 d.fuse, .bool d.down, .int .i64 f, .int .u64 (g : Int)], .slice X l.length c] w _
  go_enter Tryd.func24, Tryd.ntmps24
  go_upto_region 1 with fail
  change Code.wp _ _ _ _ ((w.alloc (.cells (jL d f g).toArray 57)).alloc (.cells jZ.toArray 57))
  generalize (w.alloc (.cells (jL d f g).toArray 57)).alloc (.cells jZ.toArray 57) = w0 at *
  have hk0 := H.out.2.1
  have hb0 := H.out.1
  have hlt0 := hk0.lt
  have z0 := hk0.cell (j := 0) rfl
  have z1 := hk0.cell (j := 1) rfl
  have z2 := hk0.cell (j := 2) rfl
  have z3 := hk0.cell (j := 3) rfl
  have z4 := hk0.cell (j := 4) rfl
  have z5 := hk0.cell (j := 5) rfl
  have z6 := hk0.cell (j := 6) rfl
  have z7 := hk0.cell (j := 7) rfl
  have HKB : Kept (∀ W, Below w0.heap.size w0 W → W.cell? ⟨w.heap.size, 0, none⟩ = some (.string (strB d.b0)) ∧ W.cell? ⟨w.heap.size, 1, none⟩ = some (.string (strB d.b1)) ∧ W.cell? ⟨w.heap.size, 2, none⟩ = some (.int .i64 (d.s0 : Int)) ∧ W.cell? ⟨w.heap.size, 3, none⟩ = some (.int .i64 (d.s1 : Int)) ∧ W.cell? ⟨w.heap.size, 4, none⟩ = some (.int .i64 (d.room : Int)) ∧ W.cell? ⟨w.heap.size, 5, none⟩ = some (.int .i64 d.fuse) ∧ W.cell? ⟨w.heap.size, 6, none⟩ = some (.bool d.down) ∧ W.cell? ⟨w.heap.size, 7, none⟩ = some (.int .i64 f)) := ⟨fun W hb => by
    have hk := hk0.next hb
    exact ⟨hk.cell (j := 0) rfl, hk.cell (j := 1) rfl, hk.cell (j := 2) rfl, hk.cell (j := 3) rfl, hk.cell (j := 4) rfl, hk.cell (j := 5) rfl, hk.cell (j := 6) rfl, hk.cell (j := 7) rfl⟩⟩
  have hbA : Below w0.heap.size w0 w0.drew := (Below.refl _ _).drew
  have hbB : Below w0.heap.size w0 (w0.alloc (.cells #[.string ⟨#[]⟩, .string ⟨#[]⟩, .int .i64 0, .int .i64 0, .int .i64 0, .int .i64 0, .bool false] 55)).drew := ((Below.refl _ _).alloc (Nat.le_refl _) _).drew
  have CP0 := kept (fun (W : World) (hb : Below w0.heap.size w0 W) => CP.out W (hb0.trans (hb.mono hb0.size)))
  go_cut [6, 7] (fun p q wr => ∃ g6, p = .pointer (some ⟨g6, 0, none⟩) ∧ q = .int .i64 (e1 : Int) ∧ Kept (w0.heap.size ≤ g6 ∧ Blk wr g6 (rL d1) 55 ∧ Below w0.heap.size w0 wr))
  case first =>
    go_region_held3 (fun W => W.cell? ⟨w.heap.size, 0, none⟩ = some (.string (strB d.b0)) ∧ W.cell? ⟨w.heap.size, 1, none⟩ = some (.string (strB d.b1)) ∧ W.cell? ⟨w.heap.size, 2, none⟩ = some (.int .i64 (d.s0 : Int)) ∧ W.cell? ⟨w.heap.size, 3, none⟩ = some (.int .i64 (d.s1 : Int)) ∧ W.cell? ⟨w.heap.size, 4, none⟩ = some (.int .i64 (d.room : Int)) ∧ W.cell? ⟨w.heap.size, 5, none⟩ = some (.int .i64 d.fuse) ∧ W.cell? ⟨w.heap.size, 6, none⟩ = some (.bool d.down) ∧ W.cell? ⟨w.heap.size, 7, none⟩ = some (.int .i64 f)) (first | (with_reducible exact HKB.out _ (by assumption)) | (with_reducible exact HKB.out _ (hb6w.alloc hb6w.size _)) | (with_reducible refine HKB.out _ ?_; with_reducible (repeat refine bset ?_ (by omega) _ _); with_reducible assumption)) (first
      | (go_at_call 48; ((with_reducible refine (CP0.out _ (by assumption)).mono ?_); rintro e w5 ⟨A5, c5, rfl, ho5, hc5, hb5⟩; have hb5w : Below w0.heap.size w0 w5 := Below.trans (by assumption) (hb5.mono (by simp)); have hz5 := hb5w.size; have hb5a := hb5w.alloc hb5w.size (.cells #[.string ⟨#[]⟩, .string ⟨#[]⟩, .int .i64 0, .int .i64 0, .int .i64 0, .int .i64 0, .bool false] 55); have hr5 := ho5.rd; have hr5a := hr5.next ((Below.refl w5.heap.size w5).alloc (Nat.le_refl _) (.cells #[.string ⟨#[]⟩, .string ⟨#[]⟩, .int .i64 0, .int .i64 0, .int .i64 0, .int .i64 0, .bool false] 55)); (try (have pb := (Blk.new w0 [.string ⟨#[]⟩, .string ⟨#[]⟩, .int .i64 0, .int .i64 0, .int .i64 0, .int .i64 0, .bool false] 55).drew.next hb5; have pc0 := (pb).cell (j := 0) rfl; have pc1 := (pb).cell (j := 1) rfl; have pc2 := (pb).cell (j := 2) rfl; have pc3 := (pb).cell (j := 3) rfl; have pc4 := (pb).cell (j := 4) rfl; have pc5 := (pb).cell (j := 5) rfl; have pc6 := (pb).cell (j := 6) rfl; have pf0 := (pb).frozen 0; have pf1 := (pb).frozen 1; have pf2 := (pb).frozen 2; have pf3 := (pb).frozen 3; have pf4 := (pb).frozen 4; have pf5 := (pb).frozen 5; have pf6 := (pb).frozen 6; have pl := pb.lt))))
      | (go_at_call 47; ((with_reducible refine (CW.out _ _ _ (by assumption)).mono ?_); rintro e w6 ⟨rfl, hb6⟩; have hb6w : Below w0.heap.size w0 w6 := Below.trans (by assumption) (hb6.mono (by have := hb5w.size; simp; omega)); (try (have qb := (Blk.new w5 [.string ⟨#[]⟩, .string ⟨#[]⟩, .int .i64 0, .int .i64 0, .int .i64 0, .int .i64 0, .bool false] 55).next hb6; have qc0 := (qb).cell (j := 0) rfl; have qc1 := (qb).cell (j := 1) rfl; have qc2 := (qb).cell (j := 2) rfl; have qc3 := (qb).cell (j := 3) rfl; have qc4 := (qb).cell (j := 4) rfl; have qc5 := (qb).cell (j := 5) rfl; have qc6 := (qb).cell (j := 6) rfl; have qf0 := (qb).frozen 0; have qf1 := (qb).frozen 1; have qf2 := (qb).frozen 2; have qf3 := (qb).frozen 3; have qf4 := (qb).frozen 4; have qf5 := (qb).frozen 5; have qf6 := (qb).frozen 6; have ql := qb.lt)); (try (have rb := pb.next hb6; have rc0 := (rb).cell (j := 0) rfl; have rc1 := (rb).cell (j := 1) rfl; have rc2 := (rb).cell (j := 2) rfl; have rc3 := (rb).cell (j := 3) rfl; have rc4 := (rb).cell (j := 4) rfl; have rc5 := (rb).cell (j := 5) rfl; have rc6 := (rb).cell (j := 6) rfl; have rf0 := (rb).frozen 0; have rf1 := (rb).frozen 1; have rf2 := (rb).frozen 2; have rf3 := (rb).frozen 3; have rf4 := (rb).frozen 4; have rf5 := (rb).frozen 5; have rf6 := (rb).frozen 6; have rl0 := rb.lt)))))
    all_goals go_wp2_with fail
    all_goals go_meet
    · exact ⟨w6.heap.size, rfl, rfl, ⟨hb6w.size, Blk.new w6 (rL d1) 55, hb6w.alloc hb6w.size _⟩⟩
    · exact ⟨w5.heap.size, rfl, rfl, ⟨hb5w.size, (blk_set7 qb rfl).1, hb6w.trans ((blk_set7 (d3 := d1) qb rfl).2.below hb6w.size fun i _ e => by omega)⟩⟩
    · exact ⟨w0.heap.size, rfl, rfl, ⟨Nat.le_refl _, (blk_set7 rb rfl).1, hb6w.trans ((blk_set7 (d3 := d1) rb rfl).2.below hb6w.size fun i _ e => by omega)⟩⟩
  case rest =>
    obtain ⟨g6, rfl, rfl, hk6⟩ := hcut
    obtain ⟨w7, rfl⟩ : ∃ w7 : World, w7 = wc := ⟨_, rfl⟩
    have hH := kept (H.out.next hk6.out.2.2)
    have hg6 : w.heap.size + 1 < g6 := by have h1 := hk6.out.1; have h2 := H.out.2.2.lt; omega
    have hk7 := blk_lit hk6.out.2.1
    have hp7 : Blk w7 w.heap.size (rL d ++ [.int .i64 f, .int .u64 (g : Int)]) 57 := hH.out.2.1
    clear hbA hbB CP0 CP CW hk0 hb0 z0 z1 z2 z3 z4 z5 z6 z7 HKB hk6 H
    go_wp2_with (first | (refine wpl_loadB rfl _ _ rfl g6 rfl _ _ hk7 _ rfl rfl rfl ?_) | (refine wpl_storeP rfl _ _ _ rfl w.heap.size (rL d1) rfl rfl _ (rL d) [.int .i64 f, .int .u64 (g : Int)] hp7 rfl rfl rfl ?_; intro w8 hk8 hu8; have H8 := kept (hH.out.par hk8 hu8); have hj8 : Blk w8 w.heap.size (jL d1 f g) 57 := hk8; have hr8 := H8.out.2.2; clear hp7 hu8 hk7) | (refine wpl_loadB rfl _ _ rfl w.heap.size rfl _ _ hj8 _ rfl rfl rfl ?_) | (refine wpl_storeB rfl _ _ _ rfl (w.heap.size + 1) (jL d1 f g) rfl rfl _ _ hr8 rfl rfl rfl ?_; intro w9 hk9 hu9; have H9 := kept (H8.out.res hk9 hu9); clear hk9 hu9))
    exact bodyPost_ret (res_cell_tmp rfl _ (w.heap.size + 1) _ (jL d1 f g) _ rfl H9.out.2.2 rfl rfl rfl) rfl ⟨by rw [HR.out]; rfl, H9.out.1⟩
end Go.Proofs.YtdlghabpnpbebaaDoor.Jrn

/- Layer 24 (journal): the walk of the document's Checkpoint. -/
namespace Go.Proofs.YtdlghabpnpbebaaDoor.Jrn
open Go.RowKit Go.Proofs.YtdlghabpnpbebaaDoor.Mem Go.Proofs.YtdlghabpnpbebaaDoor.Num Go.Proofs.YtdlghabpnpbebaaDoor.Wal Go.Proofs.YtdlghabpnpbebaaDoor.Disk Go.Proofs.YtdlghabpnpbebaaDoor.Crc

set_option maxRecDepth 100000 in
set_option maxHeartbeats 1000000 in
theorem rck_any (j : JS) (X : Option Addr) (m c : Nat) (l : List Nat) (w : World) (h : j.d.Ok) (hf : j.file = 0 ∨ j.file = 1) (hgen : j.gen < 18446744073709551616) (hm : m = l.length) (hl : AllB l) (hr : Rd w w.heap.size X (BB l)) (hsz : l.length ≤ 140737488354000) :
    Calls Tryd.prog 25 #[jV j.d j.file j.gen, .slice X m c] w (RGives w (.tuple #[jV (ckM j l).1.d (ckM j l).1.file (ckM j l).1.gen, .int .i64 ((ckM j l).2 : Int)])) := by
  subst hm
  obtain ⟨d, f, g⟩ := j
  dsimp only at h hf hgen ⊢
  have H := kept (Rq.start w (jL d f g) jZ)
  have hfe : 1 - f = 0 ∨ 1 - f = 1 := by omega
  have hw1 : IntKind.i64.wrap (1 - f) = 1 - f := IntWalk.i64_in _ (by omega)
  have CE := kept (fun (W : World) => rempty_any d (1 - f) W h hfe)
  have HM : Kept (ckM ⟨d, f, g⟩ l = ck3 (ck2 (emptyM d (1 - f)) ⟨d, f, g⟩ l) ⟨d, f, g⟩) := ⟨rfl⟩
  have hok1 := emptyM_ok h (1 - f)
  generalize emptyM d (1 - f) = r1 at *
  obtain ⟨d1, e1⟩ := r1
  dsimp only at hok1
  simp only [rV_ex] at CE
  show Calls Tryd.prog 25 #[.agg #[.string (strB d.b0), .string (strB d.b1), .int .i64 (d.s0 : Int), .int .i64 (d.s1 : Int), .int .i64 (d.room : Int), .int .i64 d.fuse, .bool d.down, .int .i64 f, .int .u64 (g : Int)], .slice X l.length c] w _
  go_enter Tryd.func25, Tryd.ntmps25
  go_upto_region 1 with fail
  change Code.wp _ _ _ _ ((w.alloc (.cells (jL d f g).toArray 57)).alloc (.cells jZ.toArray 57))
  generalize (w.alloc (.cells (jL d f g).toArray 57)).alloc (.cells jZ.toArray 57) = w0 at *
  have hp0 : Blk w0 w.heap.size (([.string (strB d.b0), .string (strB d.b1), .int .i64 (d.s0 : Int), .int .i64 (d.s1 : Int), .int .i64 (d.room : Int), .int .i64 d.fuse, .bool d.down] : List Value) ++ [.int .i64 f, .int .u64 (g : Int)]) 57 := H.out.2.1
  have z7 := H.out.2.1.cell (j := 7) rfl
  go_wp2_with (refine wpl_loadP rfl _ _ rfl w.heap.size rfl _ _ _ hp0 _ rfl rfl rfl ?_)
  refine (CE.out _).mono ?_
  rintro e w1 ⟨rfl, hb1⟩
  have H1 := kept (H.out.next hb1)
  clear CE H hp0 z7 hb1
  go_upto_if 18 with fail
  have hg6 : w.heap.size + 1 < w1.heap.size := H1.out.2.2.lt
  have H2 := kept (H1.out.next ((Below.refl w1.heap.size w1).alloc (Nat.le_refl _) (.cells #[.string (strB d1.b0), .string (strB d1.b1), .int .i64 (d1.s0 : Int), .int .i64 (d1.s1 : Int), .int .i64 (d1.room : Int), .int .i64 d1.fuse, .bool d1.down] 55)))
  have HK2 : Kept (Blk (w1.alloc (.cells #[.string (strB d1.b0), .string (strB d1.b1), .int .i64 (d1.s0 : Int), .int .i64 (d1.s1 : Int), .int .i64 (d1.room : Int), .int .i64 d1.fuse, .bool d1.down] 55)) w1.heap.size (rL d1) 55) := ⟨Blk.new w1 [.string (strB d1.b0), .string (strB d1.b1), .int .i64 (d1.s0 : Int), .int .i64 (d1.s1 : Int), .int .i64 (d1.room : Int), .int .i64 d1.fuse, .bool d1.down] 55⟩
  obtain ⟨⟨d2, e2⟩, hr2⟩ : ∃ r, ck2 (d1, e1) ⟨d, f, g⟩ l = r := ⟨_, rfl⟩
  rw [hr2] at HM
  have HR2 := kept hr2
  have hok2 : d2.Ok := by
    have e : d2 = (ck2 (d1, e1) ⟨d, f, g⟩ l).1 := by rw [hr2]
    rw [e]
    unfold ck2
    split
    · exact writeM_ok hok1 (recB_all fun x hx => (List.mem_append.1 hx).elim (numB_all _ x) (hl x))
    · exact hok1
  clear hr2
  go_cut [7] (fun q wr => q = .int .i64 (e2 : Int) ∧ Kept (Blk wr w1.heap.size (rL d2) 55 ∧ Rq w wr (jL d f g) jZ))
  case first =>
    by_cases he1 : e1 = 0
    · subst he1
      have hnl : nextG g < 18446744073709551616 := nextG_lt g
      have hgn : IntKind.u64.wrap ((g : Int) + 1) = ((nextG g : Nat) : Int) := by unfold nextG; simp [IntKind.wrap, IntKind.bits, IntKind.signed]
      have hhl := hd_le0 (nextG g) l
      have CH := kept (fun (W : World) (hb : Below w.heap.size w W) => rhead_any (nextG g) X l.length c l W rfl hnl hl (hr.next hb) hsz)
      have CW := kept (fun (W : World) (A : Option Addr) (c : Nat) (hr : Rd W W.heap.size A (BB (headN (nextG g) l))) => rwrite_any d1 (1 - f) A (headN (nextG g) l).length c (headN (nextG g) l) W hok1 (recB_all fun x hx => (List.mem_append.1 hx).elim (numB_all _ x) (hl x)) rfl hr (by omega))
      have hw : writeM d1 (1 - f) (headN (nextG g) l) = (d2, e2) := by rw [← HR2.out]; rfl
      rw [hw] at CW
      simp only [rV_ex] at CW
      clear hw
      generalize headN (nextG g) l = hb9 at *
      have HW := kept (And.intro HK2.out.drew (H2.out.next (Below.refl _ _).drew))
      have kA := HW.out.1
      have pA := HW.out.2.2.1
      have a0 := (kA).cell (j := 0) rfl
      have a1 := (kA).cell (j := 1) rfl
      have a2 := (kA).cell (j := 2) rfl
      have a3 := (kA).cell (j := 3) rfl
      have a4 := (kA).cell (j := 4) rfl
      have a5 := (kA).cell (j := 5) rfl
      have a6 := (kA).cell (j := 6) rfl
      have b7 := (pA).cell (j := 7) rfl
      have b8 := (pA).cell (j := 8) rfl
      go_wp2_with fail
      go_region_law (first
        | (go_simp; go_at_call 49; refine (CH.out _ HW.out.2.1).mono ?_; rintro e w5 ⟨A5, c5, rfl, ho5, hc5, hb5⟩; have CW5 := kept (CW.out w5 A5 c5 ho5.rd); have kB := kA.next hb5; have HB := kept (HW.out.2.next hb5); have pB := HB.out.2.1; have qq0 := (kB).cell (j := 0) rfl; have qq1 := (kB).cell (j := 1) rfl; have qq2 := (kB).cell (j := 2) rfl; have qq3 := (kB).cell (j := 3) rfl; have qq4 := (kB).cell (j := 4) rfl; have qq5 := (kB).cell (j := 5) rfl; have qq6 := (kB).cell (j := 6) rfl; have hh7 := (pB).cell (j := 7) rfl; have hh8 := (pB).cell (j := 8) rfl; clear ho5 hb5)
        | (go_simp; go_at_call 47; refine CW5.out.mono ?_; rintro e w6 ⟨rfl, hb6⟩; have kC := kB.next hb6; have HC := kept (HB.out.next hb6); have mm0 := (kC).cell (j := 0) rfl; have mm1 := (kC).cell (j := 1) rfl; have mm2 := (kC).cell (j := 2) rfl; have mm3 := (kC).cell (j := 3) rfl; have mm4 := (kC).cell (j := 4) rfl; have mm5 := (kC).cell (j := 5) rfl; have mm6 := (kC).cell (j := 6) rfl; have nn0 := (kC).frozen 0; have nn1 := (kC).frozen 1; have nn2 := (kC).frozen 2; have nn3 := (kC).frozen 3; have nn4 := (kC).frozen 4; have nn5 := (kC).frozen 5; have nn6 := (kC).frozen 6; have lC := kC.lt; clear hb6))
      all_goals go_wp2_with fail
      all_goals go_meet
      all_goals exact ⟨rfl, ⟨(blk_set7 kC rfl).1, HC.out.upd hg6 (blk_set7 (d3 := d2) kC rfl).2⟩⟩
    · have he2 : (d2, e2) = (d1, e1) := by rw [← HR2.out]; unfold ck2; rw [if_neg he1]
      obtain ⟨rfl, rfl⟩ := Prod.mk.inj he2
      have heb : ((e2 : Int) == 0) = false := by simpa using he1
      go_wp2_with fail
      go_meet
      exact ⟨rfl, ⟨HK2.out, H2.out⟩⟩
  case rest =>
    obtain ⟨rfl, hin⟩ := hcut
    obtain ⟨w4, rfl⟩ : ∃ w4 : World, w4 = wc := ⟨_, rfl⟩
    have hk6 := blk_lit hin.out.1
    have hp4 : Blk w4 w.heap.size (rL d ++ [.int .i64 f, .int .u64 (g : Int)]) 57 := hin.out.2.2.1
    have H3 : Kept (∀ r, ck3 r ⟨d, f, g⟩ = if r.2 ≠ 0 then (⟨r.1, f, g⟩, r.2) else (⟨(r.1.cutM f 0).1, 1 - f, nextG g⟩, (r.1.cutM f 0).2)) := ⟨fun _ => rfl⟩
    clear H1 H2 HK2
    by_cases he2 : e2 = 0
    · subst he2
      obtain ⟨⟨d3, e3⟩, hr3⟩ : ∃ r, d2.cutM f 0 = r := ⟨_, rfl⟩
      have HR : Kept (ckM ⟨d, f, g⟩ l = (⟨d3, 1 - f, nextG g⟩, e3)) := ⟨by rw [HM.out, H3.out, if_neg (show ¬ ((0 : Nat) ≠ 0) by decide)]; show ((⟨(d2.cutM f 0).1, 1 - f, nextG g⟩ : JS), (d2.cutM f 0).2) = _; rw [hr3]⟩
      have CC := kept (fun (W : World) => rcut_any d2 f 0 W hok2)
      rw [hr3] at CC
      simp only [rV_ex] at CC
      have hw2 : IntKind.i64.wrap (1 - (1 - f)) = f := by rw [show 1 - (1 - f) = f by omega]; exact IntWalk.i64_in _ (by omega)
      have hw3 : 1 - (1 - f) = f := by omega
      have hgn : ((nextG g : Nat) : Int) = ((g : Int) + 1) % 18446744073709551616 := by unfold nextG; omega
      have HGN := kept hgn
      clear hr3 HM H3 HR2 hgn
      go_upto_region 7 with (first | (refine wpl_loadB rfl _ _ rfl w1.heap.size rfl _ _ hk6 _ rfl rfl rfl ?_) | (refine wpl_storeP rfl _ _ _ rfl w.heap.size (rL d2) rfl rfl _ (rL d) [.int .i64 f, .int .u64 (g : Int)] hp4 rfl rfl rfl ?_; intro w8 hk8 hu8; have H8 := kept (hin.out.2.par hk8 hu8); have hk68 := hin.out.1.upd hu8 (by omega); clear hp4 hu8 hk6))
      have hj8 : Blk w8 w.heap.size (jL d2 f g) 57 := hk8
      have y7 := hj8.cell (j := 7) rfl
      have y8 := hj8.cell (j := 8) rfl
      have f7 := hj8.frozen 7
      have f8 := hj8.frozen 8
      go_upto_region 9 with fail
      change Code.wp _ _ _ _ ((w8.setCell ⟨w.heap.size, 7, none⟩ (.int .i64 (1 - f))).setCell ⟨w.heap.size, 8, none⟩ (.int .u64 (((g : Int) + 1) % 18446744073709551616)))
      rw [← HGN.out]
      have hjA : Blk ((w8.setCell ⟨w.heap.size, 7, none⟩ (.int .i64 (1 - f))).setCell ⟨w.heap.size, 8, none⟩ (.int .u64 ((nextG g : Nat) : Int))) w.heap.size (jL d2 (1 - f) (nextG g)) 57 := (hj8.set 7 _).set 8 _
      have huA : Upd (fun k => k = w.heap.size) w8 ((w8.setCell ⟨w.heap.size, 7, none⟩ (.int .i64 (1 - f))).setCell ⟨w.heap.size, 8, none⟩ (.int .u64 ((nextG g : Nat) : Int))) := Upd.setCell (S := fun k => k = w.heap.size) (Upd.setCell (S := fun k => k = w.heap.size) (Upd.refl _ w8) (p := ⟨w.heap.size, 7, none⟩) (.inl rfl) _) (p := ⟨w.heap.size, 8, none⟩) (.inl rfl) _
      have HA := kept (H8.out.par hjA huA)
      have hk6A := hk68.upd huA (by omega)
      generalize (w8.setCell ⟨w.heap.size, 7, none⟩ (.int .i64 (1 - f))).setCell ⟨w.heap.size, 8, none⟩ (.int .u64 ((nextG g : Nat) : Int)) = wA at *
      have hpA : Blk wA w.heap.size (([.string (strB d2.b0), .string (strB d2.b1), .int .i64 (d2.s0 : Int), .int .i64 (d2.s1 : Int), .int .i64 (d2.room : Int), .int .i64 d2.fuse, .bool d2.down] : List Value) ++ [.int .i64 (1 - f), .int .u64 ((nextG g : Nat) : Int)]) 57 := hjA
      have x7 := hjA.cell (j := 7) rfl
      clear y7 y8 f7 f8 hj8 hk8 huA H8 hk68
      go_wp2_with (refine wpl_loadP rfl _ _ rfl w.heap.size rfl _ _ _ hpA _ rfl rfl rfl ?_)
      refine (CC.out _).mono ?_
      rintro e wB ⟨rfl, hbB⟩
      have HB := kept (HA.out.next hbB)
      have hk6B := hk6A.next hbB
      have hpB : Blk wB w.heap.size (rL d2 ++ [.int .i64 (1 - f), .int .u64 ((nextG g : Nat) : Int)]) 57 := HB.out.2.1
      clear HA hjA hk6A hpA x7 hbB CC
      go_wp2_with (first | (refine wpl_storeB rfl _ _ _ rfl w1.heap.size (rL d3) rfl rfl _ _ hk6B rfl rfl rfl ?_; intro wC hkC huC; have HC := kept (HB.out.upd hg6 huC); have hkCl := blk_lit hkC; have hpC : Blk wC w.heap.size (rL d2 ++ [.int .i64 (1 - f), .int .u64 ((nextG g : Nat) : Int)]) 57 := HC.out.2.1; clear hk6B huC hpB) | (refine wpl_loadB rfl _ _ rfl w1.heap.size rfl _ _ hkCl _ rfl rfl rfl ?_) | (refine wpl_storeP rfl _ _ _ rfl w.heap.size (rL d3) rfl rfl _ (rL d2) [.int .i64 (1 - f), .int .u64 ((nextG g : Nat) : Int)] hpC rfl rfl rfl ?_; intro wD hkD huD; have HD := kept (HC.out.par hkD huD); have hjD : Blk wD w.heap.size (jL d3 (1 - f) (nextG g)) 57 := hkD; have hrD := HD.out.2.2; clear hpC huD hkCl) | (refine wpl_loadB rfl _ _ rfl w.heap.size rfl _ _ hjD _ rfl rfl rfl ?_) | (refine wpl_storeB rfl _ _ _ rfl (w.heap.size + 1) (jL d3 (1 - f) (nextG g)) rfl rfl _ _ hrD rfl rfl rfl ?_; intro wE hkE huE; have HE := kept (HD.out.res hkE huE); clear hkE huE))
      exact bodyPost_ret (res_cell_tmp rfl _ (w.heap.size + 1) _ (jL d3 (1 - f) (nextG g)) _ rfl HE.out.2.2 rfl rfl rfl) rfl ⟨by rw [HR.out]; rfl, HE.out.1⟩
    · have HR : Kept (ckM ⟨d, f, g⟩ l = (⟨d2, f, g⟩, e2)) := ⟨by rw [HM.out, H3.out, if_pos he2]⟩
      have heb : ((e2 : Int) != 0) = true := by simpa using he2
      clear HM H3 HR2
      go_wp2_with (first | (refine wpl_loadB rfl _ _ rfl w1.heap.size rfl _ _ hk6 _ rfl rfl rfl ?_) | (refine wpl_storeP rfl _ _ _ rfl w.heap.size (rL d2) rfl rfl _ (rL d) [.int .i64 f, .int .u64 (g : Int)] hp4 rfl rfl rfl ?_; intro w8 hk8 hu8; have H8 := kept (hin.out.2.par hk8 hu8); have hj8 : Blk w8 w.heap.size (jL d2 f g) 57 := hk8; have hr8 := H8.out.2.2; clear hp4 hu8 hk6) | (refine wpl_loadB rfl _ _ rfl w.heap.size rfl _ _ hj8 _ rfl rfl rfl ?_) | (refine wpl_storeB rfl _ _ _ rfl (w.heap.size + 1) (jL d2 f g) rfl rfl _ _ hr8 rfl rfl rfl ?_; intro w9 hk9 hu9; have H9 := kept (H8.out.res hk9 hu9); clear hk9 hu9))
      exact bodyPost_ret (res_cell_tmp rfl _ (w.heap.size + 1) _ (jL d2 f g) _ rfl H9.out.2.2 rfl rfl rfl) rfl ⟨by rw [HR.out]; rfl, H9.out.1⟩
end Go.Proofs.YtdlghabpnpbebaaDoor.Jrn

/- Layer 24 (journal): the document's Open. -/
namespace Go.Proofs.YtdlghabpnpbebaaDoor.Jrn
open Go.RowKit Go.Proofs.YtdlghabpnpbebaaDoor.Mem Go.Proofs.YtdlghabpnpbebaaDoor.Num Go.Proofs.YtdlghabpnpbebaaDoor.Wal Go.Proofs.YtdlghabpnpbebaaDoor.Disk Go.Proofs.YtdlghabpnpbebaaDoor.Crc

theorem look_zero {b : List Nat} (h : (look b).gen = 0) : look b = zeroF := by
  unfold look at h ⊢
  cases hs : scanM b with
  | nil => rfl
  | cons a t =>
    rw [hs] at h
    have h' : (lookH a t (recsB (a :: t)).length).gen = 0 := h
    show lookH a t _ = zeroF
    unfold lookH at h' ⊢
    split
    · rfl
    · rename_i hn
      rw [if_neg hn] at h'
      exact absurd h' hn
/-- no file counts: the document's first is the program's way -/
theorem open_first' {d : DS} (h0 : (genM d.b0).1 = 0) (h1 : (genM d.b1).1 = 0) :
    (openM d).1.d = (firstM d).1 ∧ (openM d).2 = (firstM d).2 ∧ ((firstM d).2 = 0 → (openM d).1.file = 0 ∧ (openM d).1.gen = 1) ∧ pick d = (0, zeroF) := by
  have g0 : (look d.b0).gen = 0 := by rw [gen_look]; exact h0
  have g1 : (look d.b1).gen = 0 := by rw [gen_look]; exact h1
  have hp : pick d = (0, zeroF) := by
    unfold pick
    rw [if_neg (by omega), look_zero g0]
  have hc : cleanM d 0 0 = if (emptyM d 0).2 = 0 then emptyM (emptyM d 0).1 1 else emptyM d 0 := by
    have e : (if 0 < (d.b 0).length then d.cutM 0 ((0 : Nat) : Int) else (d, 0)) = emptyM d 0 := by
      unfold emptyM
      by_cases hb : d.b 0 = []
      · rw [if_pos hb, if_neg (by rw [hb]; exact Nat.lt_irrefl 0)]
      · rw [if_neg hb, if_pos (List.length_pos_iff.2 hb)]
        rfl
    unfold cleanM clean2
    rw [e]
    by_cases h2 : (emptyM d 0).2 = 0
    · rw [if_neg (by rw [h2]; decide), if_pos h2]; rfl
    · rw [if_pos h2, if_neg h2]
  have ho : openM d = open2 (cleanM d 0 0) (0, zeroF) := by unfold openM; rw [hp]; rfl
  have hf : firstM d = firstM.first2 (cleanM d 0 0) := by unfold firstM; rw [hc]
  rw [ho, hf]
  unfold open2 firstM.first2
  by_cases h2 : (cleanM d 0 0).2 = 0
  · rw [if_pos ⟨h2, rfl⟩, if_pos h2]
    exact ⟨rfl, rfl, fun _ => ⟨rfl, rfl⟩, hp⟩
  · rw [if_neg (fun h => h2 h.1), if_neg h2]
    exact ⟨rfl, rfl, fun h => absurd h h2, hp⟩
theorem look_some {b : List Nat} (h : (look b).gen ≠ 0) : (look b).fin = (recsB (scanM b)).length ∧ ∃ a, scanM b = a :: (look b).recs := by
  unfold look at h ⊢
  cases hs : scanM b with
  | nil => rw [hs] at h; exact absurd rfl h
  | cons a t =>
    rw [hs] at h
    have h' : (lookH a t (recsB (a :: t)).length).gen ≠ 0 := h
    show (lookH a t _).fin = _ ∧ ∃ a', a :: t = a' :: (lookH a t _).recs
    unfold lookH at h' ⊢
    split
    · rename_i hn; rw [if_pos hn] at h'; exact absurd rfl h'
    · exact ⟨rfl, a, rfl⟩
/-- a file counts -/
theorem open_other {d : DS} (h : ¬ ((genM d.b0).1 = 0 ∧ (genM d.b1).1 = 0)) :
    (pick d).2.gen ≠ 0 ∧ (pick d).2 = look (d.b (pick d).1) ∧ openM d = (⟨(cleanM d (pick d).1 (pick d).2.fin).1, (pick d).1, (pick d).2.gen⟩, (cleanM d (pick d).1 (pick d).2.fin).2) := by
  rw [← gen_look, ← gen_look] at h
  have hg : (pick d).2.gen ≠ 0 := by
    unfold pick
    split
    · show (look d.b1).gen ≠ 0; omega
    · show (look d.b0).gen ≠ 0; omega
  refine ⟨hg, ?_, ?_⟩
  · unfold pick
    split <;> rfl
  · unfold openM open2
    rw [if_neg (fun h2 => hg h2.2)]
/-- a struct and three things beside it, handed back -/
theorem res_cell_tmp3 {P : Program} {w : World} {fn : Func} {p q r s : Tmp} {ty : TypeId} (h : fn.results = #[.cell p ty, .tmp q, .tmp r, .tmp s]) (tmps : Array Value) (g : Nat) (t : TypeId) (cs : List Value) (d : TypeDesc)
    (hp : tmps.getD p undef = .pointer (some ⟨g, 0, none⟩)) (hk : Blk w g cs t)
    (hu : P.underlying ty = some d) (hd : (match d with | .struct _ | .array _ _ => true | _ => false) = true) (hi : (P.info? ty).map (·.size) = some cs.length) :
    (results fn tmps).run P w = .ok (.tuple #[.agg cs.toArray, tmps.getD q undef, tmps.getD r undef, tmps.getD s undef]) w := by
  have hp' : tmps[p]?.getD undef = .pointer (some ⟨g, 0, none⟩) := by simpa using hp
  simp [results, h, hp', asAddr, run_loadVar_row w g t ty cs.toArray (0, 0) d hk hu hd (by simpa using hi)]
/-- the document's Open: what it gives -/
def ROpenG (w : World) (d : DS) (e : Ending) (w' : World) : Prop :=
  Below w.heap.size w w' ∧
  (((openM d).2 = 0 ∧ ∃ A c X c2 ps, e = .returned (.tuple #[jV (openM d).1.d (openM d).1.file (openM d).1.gen, .slice A (pick d).2.snap.length c, .slice X (List.length ps) c2, .int .i64 0]) ∧ bodies ps = (pick d).2.recs ∧ Rd w' w'.heap.size A (BB (pick d).2.snap) ∧ RdParts w' w'.heap.size X ps ∧ AllB (pick d).2.snap ∧ List.length ps ≤ 1048576) ∨
   ((openM d).2 ≠ 0 ∧ ∃ f g, e = .returned (.tuple #[jV (openM d).1.d f g, .slice none 0 0, .slice none 0 0, .int .i64 ((openM d).2 : Int)])))
/-- the parameter's block, the result's, the journal's at g, and what is to be told -/
def RO (w W : World) (d : DS) (g : Nat) (L : List Value) (A : Option Addr) (snap : List Nat) (X : Option Addr) (ps : List Part) : Prop :=
  Rj w W (rL d) jZ ∧ w.heap.size + 1 < g ∧ Blk W g L 57 ∧ FAt W (fun k => k = g ∨ k = w.heap.size + 1) A snap X ps
section
variable {w W W' : World} {d : DS} {g : Nat} {L L' Z : List Value} {A X : Option Addr} {snap : List Nat} {ps : List Part}
theorem RO.next (h : RO w W d g L A snap X ps) (hb : Below W.heap.size W W') : RO w W' d g L A snap X ps := ⟨h.1.next hb, h.2.1, h.2.2.1.next hb, h.2.2.2.next hb⟩
theorem RO.set (h : RO w W d g L A snap X ps) (hk : Blk W' g L' 57) (hu : Upd (fun k => k = g) W W') : RO w W' d g L' A snap X ps :=
  ⟨⟨h.1.1.trans (hu.below h.1.1.size fun i _ e => by have := h.2.1; omega), h.1.2.1.upd hu (by have := h.2.1; omega), h.1.2.2.upd hu (by have := h.2.1; omega)⟩, h.2.1, hk,
    h.2.2.2.goes ⟨hu.mono fun _ _ e => .inl e, fun _ e => .inl e⟩⟩
theorem RO.res (h : RO w W d g L A snap X ps) (hu : Upd (fun k => k = w.heap.size + 1) W W') : Below w.heap.size w W' ∧ Rd W' W'.heap.size A (BB snap) ∧ RdParts W' W'.heap.size X ps := by
  have h2 := h.2.2.2.goes (w' := W') (S1 := fun k => k = g ∨ k = w.heap.size + 1) ⟨hu.mono fun _ _ e => .inr e, fun _ e => .inl e⟩
  exact ⟨h.1.1.trans (hu.below h.1.1.size fun i _ e => by omega), h2.1, h2.2.1⟩
end
theorem jV_ex (d : DS) (f : Int) (g : Nat) : jV d f g = .agg #[.string (strB d.b0), .string (strB d.b1), .int .i64 (d.s0 : Int), .int .i64 (d.s1 : Int), .int .i64 (d.room : Int), .int .i64 d.fuse, .bool d.down, .int .i64 f, .int .u64 (g : Int)] := rfl
set_option maxRecDepth 100000 in
set_option maxHeartbeats 1000000 in
theorem ropen_first (d : DS) (w : World) (h : d.Ok) (h0 : (genM d.b0).1 = 0) (h1 : (genM d.b1).1 = 0) :
    Calls Tryd.prog 22 #[rV d] w (ROpenG w d) := by
  have H := kept (Rj.start w (rL d) jZ)
  have C0 := kept (fun W => rgen_any d.b0 W (b_all h 0) (b_len h 0))
  have C1 := kept (fun W => rgen_any d.b1 W (b_all h 1) (b_len h 1))
  have CF := kept (fun W => rfirst_any d W h)
  have HO := kept (open_first' h0 h1)
  have HG0 := kept h0
  have HG1 := kept h1
  clear h h0 h1
  generalize firstM d = r1 at *
  obtain ⟨d1, e1⟩ := r1
  dsimp only at CF
  simp only [rV_ex, jV_ex] at CF
  show Calls Tryd.prog 22 #[.agg #[.string (strB d.b0), .string (strB d.b1), .int .i64 (d.s0 : Int), .int .i64 (d.s1 : Int), .int .i64 (d.room : Int), .int .i64 d.fuse, .bool d.down]] w _
  go_enter Tryd.func22, Tryd.ntmps22
  go_wp2_with fail
  refine (C0.out _).mono ?_
  rintro e w1 ⟨A0, c0, rfl, -, -, -, -, hb1⟩
  rw [HG0.out]
  have H1 := kept (H.out.next hb1)
  have z1 := H1.out.2.1.cell (j := 1) rfl
  clear hb1 C0 H
  go_wp2_with fail
  refine (C1.out _).mono ?_
  rintro e w2 ⟨A1, c1, rfl, -, -, -, -, hb2⟩
  rw [HG1.out]
  have H2 := kept (H1.out.next hb2)
  have hk2 := blk_lit H2.out.2.1
  clear hb2 C1 H1 z1
  go_wp2_with (refine wpl_loadB rfl _ _ rfl w.heap.size rfl _ _ hk2 _ rfl rfl rfl ?_)
  refine (CF.out _).mono ?_
  rintro e w3 ⟨rfl, hb3⟩
  have H3 := kept (H2.out.next hb3)
  have HK3 : Kept (Blk (w3.alloc (.cells (jL d1 0 1).toArray 57)) w3.heap.size (jL d1 0 1) 57) := ⟨Blk.new w3 _ _⟩
  have H4 := kept (H3.out.next ((Below.refl w3.heap.size w3).alloc (Nat.le_refl _) (.cells (jL d1 0 1).toArray 57)))
  clear hb3 CF H2 hk2
  have hk3 : Blk (w3.alloc (.cells #[.string (strB d1.b0), .string (strB d1.b1), .int .i64 (d1.s0 : Int), .int .i64 (d1.s1 : Int), .int .i64 (d1.room : Int), .int .i64 d1.fuse, .bool d1.down, .int .i64 0, .int .u64 1] 57)) w3.heap.size [.string (strB d1.b0), .string (strB d1.b1), .int .i64 (d1.s0 : Int), .int .i64 (d1.s1 : Int), .int .i64 (d1.room : Int), .int .i64 d1.fuse, .bool d1.down, .int .i64 0, .int .u64 1] 57 := HK3.out
  have hk4 : Blk (w3.alloc (.cells #[.string (strB d1.b0), .string (strB d1.b1), .int .i64 (d1.s0 : Int), .int .i64 (d1.s1 : Int), .int .i64 (d1.room : Int), .int .i64 d1.fuse, .bool d1.down, .int .i64 0, .int .u64 1] 57)) (w.heap.size + 1) jZ 57 := H4.out.2.2
  go_wp2_with (first | (refine wpl_loadB rfl _ _ rfl w3.heap.size rfl _ _ hk3 _ rfl rfl rfl ?_) | (refine wpl_storeB rfl _ _ _ rfl (w.heap.size + 1) (jL d1 0 1) rfl rfl _ _ hk4 rfl rfl rfl ?_; intro w5 hk5 hu5; have H5 := kept (H4.out.res hk5 hu5); clear hk5 hu5))
  obtain ⟨o1, o2, o3, o4⟩ := HO.out
  refine bodyPost_ret (res_cell_tmp3 rfl _ (w.heap.size + 1) _ (jL d1 0 1) _ rfl H5.out.2.2 rfl rfl rfl) rfl ⟨H5.out.1, ?_⟩
  rw [o2, o1, o4]
  by_cases he : e1 = 0
  · subst he
    obtain ⟨o5, o6⟩ := o3 rfl
    rw [o5, o6]
    exact .inl ⟨rfl, none, 0, none, 0, [], rfl, rfl, Rd.nil, ⟨Rd.nil, fun p hp => by cases hp⟩, (fun x hx => by cases hx), Nat.zero_le _⟩
  · exact .inr ⟨he, 0, 1, rfl⟩
theorem own_capMax {size : Nat} {w : World} {base : Nat} {e : TypeId} {A : Option Addr} {m c n : Nat} {xs : List Value} (h : OwnK size w base e (.slice A m c) n xs) : c ≤ 9223372036854775807 := by
  rcases h.2 with ⟨h1, _⟩ | ⟨g, cap, cur, h1, _, _, _, hcm, _⟩
  · injection h1 with _ _ h2; omega
  · injection h1 with _ _ h2; subst h2; unfold maxLen at hcm; omega
theorem blk_set9a {W : World} {g : Nat} {old : List Value} {t : TypeId} (h : Blk W g old t) (d : DS) (hl : old.length = 9) :
    Blk (((((((W.setCell ⟨g, 0, none⟩ (.string (strB d.b0))).setCell ⟨g, 1, none⟩ (.string (strB d.b1))).setCell ⟨g, 2, none⟩ (.int .i64 (d.s0 : Int))).setCell ⟨g, 3, none⟩ (.int .i64 (d.s1 : Int))).setCell ⟨g, 4, none⟩ (.int .i64 (d.room : Int))).setCell ⟨g, 5, none⟩ (.int .i64 d.fuse)).setCell ⟨g, 6, none⟩ (.bool d.down)) g (rL d ++ old.drop 7) t ∧
    Upd (fun k => k = g) W (((((((W.setCell ⟨g, 0, none⟩ (.string (strB d.b0))).setCell ⟨g, 1, none⟩ (.string (strB d.b1))).setCell ⟨g, 2, none⟩ (.int .i64 (d.s0 : Int))).setCell ⟨g, 3, none⟩ (.int .i64 (d.s1 : Int))).setCell ⟨g, 4, none⟩ (.int .i64 (d.room : Int))).setCell ⟨g, 5, none⟩ (.int .i64 d.fuse)).setCell ⟨g, 6, none⟩ (.bool d.down)) := by
  obtain ⟨a, b, c, e, f, i, j, k, l, rfl⟩ : ∃ a b c e f i j k l, old = [a, b, c, e, f, i, j, k, l] := by
    match old, hl with
    | [a, b, c, e, f, i, j, k, l], _ => exact ⟨a, b, c, e, f, i, j, k, l, rfl⟩
  refine ⟨((((((h.set 0 (.string (strB d.b0))).set 1 (.string (strB d.b1))).set 2 (.int .i64 (d.s0 : Int))).set 3 (.int .i64 (d.s1 : Int))).set 4 (.int .i64 (d.room : Int))).set 5 (.int .i64 d.fuse)).set 6 (.bool d.down), ?_⟩
  have st : ∀ {V : World}, Upd (fun k => k = g) W V → ∀ (j : Nat) (v : Value), Upd (fun k => k = g) W (V.setCell ⟨g, j, none⟩ v) := fun hu j v => hu.setCell (p := ⟨g, j, none⟩) (.inl rfl) v
  exact st (st (st (st (st (st (st (Upd.refl _ _) 0 _) 1 _) 2 _) 3 _) 4 _) 5 _) 6 _
theorem blk_set9 {W : World} {g : Nat} {old : List Value} {t : TypeId} (h : Blk W g old t) (d : DS) (f : Int) (gn : Nat) (hl : old.length = 9) :
    Blk (((((((((W.setCell ⟨g, 0, none⟩ (.string (strB d.b0))).setCell ⟨g, 1, none⟩ (.string (strB d.b1))).setCell ⟨g, 2, none⟩ (.int .i64 (d.s0 : Int))).setCell ⟨g, 3, none⟩ (.int .i64 (d.s1 : Int))).setCell ⟨g, 4, none⟩ (.int .i64 (d.room : Int))).setCell ⟨g, 5, none⟩ (.int .i64 d.fuse)).setCell ⟨g, 6, none⟩ (.bool d.down)).setCell ⟨g, 7, none⟩ (.int .i64 f)).setCell ⟨g, 8, none⟩ (.int .u64 (gn : Int))) g (jL d f gn) t ∧
    Upd (fun k => k = g) W (((((((((W.setCell ⟨g, 0, none⟩ (.string (strB d.b0))).setCell ⟨g, 1, none⟩ (.string (strB d.b1))).setCell ⟨g, 2, none⟩ (.int .i64 (d.s0 : Int))).setCell ⟨g, 3, none⟩ (.int .i64 (d.s1 : Int))).setCell ⟨g, 4, none⟩ (.int .i64 (d.room : Int))).setCell ⟨g, 5, none⟩ (.int .i64 d.fuse)).setCell ⟨g, 6, none⟩ (.bool d.down)).setCell ⟨g, 7, none⟩ (.int .i64 f)).setCell ⟨g, 8, none⟩ (.int .u64 (gn : Int))) := by
  obtain ⟨a, b, c, e, f', i, j, k, l, rfl⟩ : ∃ a b c e f' i j k l, old = [a, b, c, e, f', i, j, k, l] := by
    match old, hl with
    | [a, b, c, e, f', i, j, k, l], _ => exact ⟨a, b, c, e, f', i, j, k, l, rfl⟩
  have h7 := blk_set9a h d hl
  refine ⟨(h7.1.set 7 (.int .i64 f)).set 8 (.int .u64 (gn : Int)), ?_⟩
  exact (h7.2.setCell (p := ⟨g, 7, none⟩) (.inl rfl) _).setCell (p := ⟨g, 8, none⟩) (.inl rfl) _
theorem look_gen' {b : List Nat} (h : (look b).gen ≠ 0) : (look b).gen = (genM b).1 ∧ (look b).snap = (genM b).2 := ⟨gen_look b, gen_snap (by rw [← gen_look]; exact h)⟩
theorem b_zero (d : DS) : d.b 0 = d.b0 := rfl
theorem b_one (d : DS) : d.b 1 = d.b1 := rfl
set_option maxRecDepth 100000 in
set_option maxHeartbeats 2000000 in
theorem ropen_other (d : DS) (w : World) (h : d.Ok) (h0 : ¬ ((genM d.b0).1 = 0 ∧ (genM d.b1).1 = 0)) :
    Calls Tryd.prog 22 #[rV d] w (ROpenG w d) := by
  have H := kept (Rj.start w (rL d) jZ)
  have C0 := kept (fun W => rgen_any d.b0 W (b_all h 0) (b_len h 0))
  have C1 := kept (fun W => rgen_any d.b1 W (b_all h 1) (b_len h 1))
  have HO := kept (open_other h0)
  have HP : Kept (pick d = if (genM d.b0).1 < (genM d.b1).1 then (1, look d.b1) else (0, look d.b0)) := ⟨by unfold pick; rw [gen_look, gen_look]⟩
  have HL0 := kept (@look_gen' d.b0)
  have HL1 := kept (@look_gen' d.b1)
  have HOK := kept h
  obtain ⟨⟨ga, sa⟩, hga⟩ : ∃ r, genM d.b0 = r := ⟨_, rfl⟩
  obtain ⟨⟨gb, sb⟩, hgb⟩ : ∃ r, genM d.b1 = r := ⟨_, rfl⟩
  unfold GenG at C0 C1
  rw [hga] at C0 HL0 HP h0
  rw [hgb] at C1 HL1 HP h0
  dsimp only at C0 C1 HL0 HL1 HP h0
  have H00 := kept h0
  clear h h0 hga hgb
  show Calls Tryd.prog 22 #[.agg #[.string (strB d.b0), .string (strB d.b1), .int .i64 (d.s0 : Int), .int .i64 (d.s1 : Int), .int .i64 (d.room : Int), .int .i64 d.fuse, .bool d.down]] w _
  go_enter Tryd.func22, Tryd.ntmps22
  go_wp2_with fail
  refine (C0.out _).mono ?_
  rintro e w1 ⟨A0, c0, rfl, hr0, hf0, ha0, hg0, hb1⟩
  have H1 := kept (H.out.next hb1)
  have z1 := H1.out.2.1.cell (j := 1) rfl
  have HA := kept (And.intro hr0 (And.intro (fun x hx => Nat.lt_of_lt_of_le H.out.2.2.lt (hf0 x hx)) (And.intro ha0 hg0)))
  clear hb1 C0 H hr0 hf0 ha0 hg0
  go_wp2_with fail
  refine (C1.out _).mono ?_
  rintro e w2 ⟨A1, c1, rfl, hr1, hf1, ha1, hg1, hb2⟩
  have H2 := kept (H1.out.next hb2)
  have hk2 := blk_lit H2.out.2.1
  have HB := kept (And.intro hr1 (And.intro (fun x hx => Nat.lt_of_lt_of_le H1.out.2.2.lt (hf1 x hx)) (And.intro ha1 hg1)))
  have HA2 := kept (And.intro (HA.out.1.next hb2) HA.out.2)
  clear hb2 C1 H1 z1 hr1 hf1 ha1 hg1 HA
  go_upto_region 3 with fail
  go_cut [39] (fun p wr => p = .bool false ∧ w2 = wr)
  case first =>
    by_cases hz : ga = 0
    · subst hz
      have hz2 : ((gb : Int) == 0) = false := by have := H00.out; simp; omega
      go_wp2_with fail
      go_meet
      exact ⟨rfl, rfl⟩
    · have hz2 : ((ga : Int) == 0) = false := by simpa using hz
      go_wp2_with fail
      go_meet
      exact ⟨rfl, rfl⟩
  case rest =>
  obtain ⟨rfl, rfl⟩ := hcut
  go_upto_if 52 with (refine wpl_loadB rfl _ _ rfl w.heap.size rfl _ _ hk2 _ rfl rfl rfl ?_)
  change Code.wp _ _ _ _ (w2.alloc (.cells (jL d 0 ga).toArray 57))
  have hbx : Below w2.heap.size w2 (w2.alloc (.cells (jL d 0 ga).toArray 57)) := (Below.refl w2.heap.size w2).alloc (Nat.le_refl _) _
  have hkx : Blk (w2.alloc (.cells (jL d 0 ga).toArray 57)) w2.heap.size (jL d 0 ga) 57 := Blk.new w2 _ _
  have HRX : Kept (∀ (A : Option Addr) (snap : List Nat), (Rd w2 w2.heap.size A (BB snap) ∧ (∀ x, A = some x → w.heap.size + 1 < x.block) ∧ AllB snap ∧ True) → RO w (w2.alloc (.cells (jL d 0 ga).toArray 57)) d w2.heap.size (jL d 0 ga) A snap none []) :=
    ⟨fun A snap hx => ⟨H2.out.next hbx, H2.out.2.2.lt, hkx, hx.1.next hbx, ⟨Rd.nil, (fun p hp => by cases hp)⟩, (fun x hA hn hs => by have h1 := rd_lt hx.1 hA hn; have h2 := hx.2.1 x hA; rcases hs with e | e <;> omega), (fun x hA => by cases hA), (fun p hp => by cases hp)⟩⟩
  have HRA := kept (HRX.out A0 sa ⟨HA2.out.1, HA2.out.2.1, HA2.out.2.2.1, trivial⟩)
  have HRB := kept (HRX.out A1 sb ⟨HB.out.1, HB.out.2.1, HB.out.2.2.1, trivial⟩)
  have HAA := kept HA2.out.2.2.1
  have HAB := kept HB.out.2.2.1
  generalize w2.alloc (.cells (jL d 0 ga).toArray 57) = w3 at *
  generalize w2.heap.size = g at *
  clear hbx hkx HRX HA2 HB hk2 H2
  have hk3 := blk_lit HRA.out.1.2.1
  have hj3 := HRA.out.2.2.1
  go_cut [7] (fun p wr => ∃ (f : Int) (gn : Nat) (A : Option Addr) (c : Nat) (snap : List Nat), p = .slice A snap.length c ∧ Kept (pick d = (f, look (d.b f)) ∧ (f = 0 ∨ f = 1) ∧ gn = (look (d.b f)).gen ∧ snap = (look (d.b f)).snap ∧ AllB snap ∧ RO w wr d g (jL d f gn) A snap none []))
  case first =>
    by_cases hgt : ga < gb
    · have hp : pick d = (1, look d.b1) := by rw [HP.out, if_pos hgt]
      have hg0 : (look d.b1).gen ≠ 0 := by have := HO.out.1; rw [hp] at this; exact this
      obtain ⟨hl1, hl2⟩ := HL1.out hg0
      have HX := kept (And.intro hp (And.intro hl1 hl2))
      clear hp hg0 hl1 hl2
      go_wp2_with (first | (refine wpl_loadB rfl _ _ rfl w.heap.size rfl _ _ hk3 _ rfl rfl rfl ?_) | (refine wpl_storeB rfl _ _ _ rfl g (jL d 1 gb) rfl rfl _ _ hj3 rfl rfl rfl ?_; intro w5 hk5 hu5; have H5 := kept (HRB.out.set hk5 hu5); clear hk5 hu5))
      go_meet
      exact ⟨1, gb, A1, _, sb, rfl, ⟨HX.out.1, .inr rfl, HX.out.2.1.symm, HX.out.2.2.symm, HAB.out, H5.out⟩⟩
    · have hp : pick d = (0, look d.b0) := by rw [HP.out, if_neg hgt]
      have hg0 : (look d.b0).gen ≠ 0 := by have := HO.out.1; rw [hp] at this; exact this
      obtain ⟨hl1, hl2⟩ := HL0.out hg0
      have HX := kept (And.intro hp (And.intro hl1 hl2))
      clear hp hg0 hl1 hl2
      go_wp2_with fail
      go_meet
      exact ⟨0, ga, A0, _, sa, rfl, ⟨HX.out.1, .inl rfl, HX.out.2.1.symm, HX.out.2.2.symm, HAA.out, HRA.out⟩⟩
  case rest =>
  clear HRA HRB HAA HAB hk3 hj3 HP HL0 HL1 H00
  obtain ⟨f, gn, A, c, snap, rfl, hin⟩ := hcut
  obtain ⟨w4, rfl⟩ : ∃ w4 : World, w4 = wc := ⟨_, rfl⟩
  obtain ⟨hp, hf, rfl, rfl, hal, hro⟩ := hin.out
  obtain ⟨ho1, ho2, ho3⟩ := HO.out
  rw [hp] at ho1 ho2 ho3
  dsimp only at ho1 ho2 ho3
  obtain ⟨hfin, a0, hsc⟩ := look_some ho1
  have hfe : (recsB (scanM (d.b f))).length ≤ (d.b f).length := by
    have := scans_le (scanM_scans (d.b f))
    exact this
  have hbl := b_len HOK.out f
  rw [hfin] at ho3
  obtain ⟨fin, hfn⟩ : ∃ fin, (recsB (scanM (d.b f))).length = fin := ⟨_, rfl⟩
  rw [hfn] at ho3 hfin hfe
  have HOM := kept ho3
  have HPK := kept hp
  have HRO := kept hro
  have HAL := kept hal
  have HSC := kept hsc
  have HFN := kept hfn
  clear hin ho1 ho2 ho3 hp hro hal hsc hfn hfin HO
  generalize (look (d.b f)).gen = gn at *
  obtain ⟨snap, hsn⟩ : ∃ s, (look (d.b f)).snap = s := ⟨_, rfl⟩
  rw [hsn] at HRO HAL ⊢
  have HSN := kept hsn
  clear hsn
  have z7 : w4.cell? ⟨g, 7, none⟩ = some (.int .i64 f) := HRO.out.2.2.1.cell (j := 7) rfl
  have hgw : g < w4.heap.size := HRO.out.2.2.1.lt
  have hg1 := HRO.out.2.1
  go_upto_region 10 with fail
  go_cut [13, 14] (fun p q wr => ∃ (X : Option Addr) (cX : Nat) (p0 : Part) (ps : List Part), p = .slice X (List.length (p0 :: ps)) cX ∧ q = .int .i64 (fin : Int) ∧ Kept (bodies ps = (look (d.b f)).recs ∧ (p0 :: ps).length ≤ cX ∧ cX ≤ 9223372036854775807 ∧ (p0 :: ps).length ≤ 1048576 ∧ RO w wr d g (jL d f gn) A snap X (p0 :: ps)))
  case first =>
    rcases hf with rfl | rfl
    · have zf : w4.cell? ⟨w.heap.size, 0, none⟩ = some (.string (strB d.b0)) := HRO.out.1.2.1.cell (j := 0) rfl
      obtain ⟨cv, w5, hcv, hrv, hbv, hle, hmx⟩ := str_row w4 d.b0 (b_all HOK.out 0) hbl
      have CS := kept (rscan_any (some ⟨w4.heap.size, 0, none⟩) d.b0.length cv d.b0 w5 rfl (b_all HOK.out 0) hle hmx hrv (by have : d.b0.length ≤ 1048576 := hbl; omega))
      have HBV := kept hbv
      clear hrv hbv
      go_wp2_with fail
      refine CS.out.mono ?_
      rintro e w6 ⟨X, cX, ps, e6, rfl, hs6, hop, hb6⟩
      obtain ⟨hbo, hfi⟩ := scans_is (by have : d.b0.length ≤ 1048576 := hbl; omega) hs6
      have he6 : e6 = fin := by rw [hfi]; exact HFN.out
      subst he6
      have HX := kept (And.intro hbo (And.intro hop hb6))
      clear hs6 hbo hfi hop hb6 CS hcv zf
      cases ps with
      | nil =>
        have h1 : ([] : List (List Nat)) = scanM d.b0 := HX.out.1
        have h2 : scanM d.b0 = a0 :: (look d.b0).recs := HSC.out
        rw [h2] at h1
        cases h1
      | cons p0 ps =>
        obtain ⟨hbo, hop, hb6⟩ := HX.out
        have h2 : scanM d.b0 = a0 :: (look d.b0).recs := HSC.out
        have hbo2 : p0.l :: bodies ps = a0 :: (look d.b0).recs := by rw [← h2, ← hbo]; rfl
        have hb46 : Below w4.heap.size w4 w6 := HBV.out.trans (hb6.mono HBV.out.size)
        have hz5 := HBV.out.size
        have hcl : (p0 :: ps).length ≤ 1048576 := by
          have h3 := recsB_count (scanM d.b0)
          have h4 : (scanM d.b0).length = (p0 :: ps).length := by rw [← hbo]; exact List.length_map ..
          have h5 : (recsB (scanM d.b0)).length = e6 := HFN.out
          have h6 : d.b0.length ≤ 1048576 := hbl
          have h7 : e6 ≤ d.b0.length := hfe
          omega
        have hcap := hop.1.cap
        have hcm : cX ≤ 9223372036854775807 := own_capMax hop.1
        have HN := kept (And.intro (List.cons.inj hbo2).2 (And.intro hcap (And.intro hcm (And.intro hcl (show RO w w6 d g (jL d 0 gn) A snap X (p0 :: ps) from
          ⟨(HRO.out.next hb46).1, hg1, (HRO.out.next hb46).2.2.1, (HRO.out.next hb46).2.2.2.1, hop.rd, (HRO.out.next hb46).2.2.2.2.2.1,
            (fun x hx _ hs => by have h1 := (OwnK.under hop.1 x.block (by rw [hx]; rfl)).1; rcases hs with e | e <;> omega),
            (fun p hp x hx _ hs => by have h1 := (Own.lt (hop.2 p hp).1 x.block (by unfold Part.val; rw [hx]; rfl)).1; rcases hs with e | e <;> omega)⟩)))))
        clear hbo hop hb6 h2 hbo2 hb46 hz5 hcl hcap hcm HX HBV
        go_wp2_with fail
        go_meet
        exact ⟨X, cX, p0, ps, rfl, rfl, HN⟩
    · have zf : w4.cell? ⟨w.heap.size, 1, none⟩ = some (.string (strB d.b1)) := HRO.out.1.2.1.cell (j := 1) rfl
      obtain ⟨cv, w5, hcv, hrv, hbv, hle, hmx⟩ := str_row w4 d.b1 (b_all HOK.out 1) hbl
      have CS := kept (rscan_any (some ⟨w4.heap.size, 0, none⟩) d.b1.length cv d.b1 w5 rfl (b_all HOK.out 1) hle hmx hrv (by have : d.b1.length ≤ 1048576 := hbl; omega))
      have HBV := kept hbv
      clear hrv hbv
      go_wp2_with fail
      refine CS.out.mono ?_
      rintro e w6 ⟨X, cX, ps, e6, rfl, hs6, hop, hb6⟩
      obtain ⟨hbo, hfi⟩ := scans_is (by have : d.b1.length ≤ 1048576 := hbl; omega) hs6
      have he6 : e6 = fin := by rw [hfi]; exact HFN.out
      subst he6
      have HX := kept (And.intro hbo (And.intro hop hb6))
      clear hs6 hbo hfi hop hb6 CS hcv zf
      cases ps with
      | nil =>
        have h1 : ([] : List (List Nat)) = scanM d.b1 := HX.out.1
        have h2 : scanM d.b1 = a0 :: (look d.b1).recs := HSC.out
        rw [h2] at h1
        cases h1
      | cons p0 ps =>
        obtain ⟨hbo, hop, hb6⟩ := HX.out
        have h2 : scanM d.b1 = a0 :: (look d.b1).recs := HSC.out
        have hbo2 : p0.l :: bodies ps = a0 :: (look d.b1).recs := by rw [← h2, ← hbo]; rfl
        have hb46 : Below w4.heap.size w4 w6 := HBV.out.trans (hb6.mono HBV.out.size)
        have hz5 := HBV.out.size
        have hcl : (p0 :: ps).length ≤ 1048576 := by
          have h3 := recsB_count (scanM d.b1)
          have h4 : (scanM d.b1).length = (p0 :: ps).length := by rw [← hbo]; exact List.length_map ..
          have h5 : (recsB (scanM d.b1)).length = e6 := HFN.out
          have h6 : d.b1.length ≤ 1048576 := hbl
          have h7 : e6 ≤ d.b1.length := hfe
          omega
        have hcap := hop.1.cap
        have hcm : cX ≤ 9223372036854775807 := own_capMax hop.1
        have HN := kept (And.intro (List.cons.inj hbo2).2 (And.intro hcap (And.intro hcm (And.intro hcl (show RO w w6 d g (jL d 1 gn) A snap X (p0 :: ps) from
          ⟨(HRO.out.next hb46).1, hg1, (HRO.out.next hb46).2.2.1, (HRO.out.next hb46).2.2.2.1, hop.rd, (HRO.out.next hb46).2.2.2.2.2.1,
            (fun x hx _ hs => by have h1 := (OwnK.under hop.1 x.block (by rw [hx]; rfl)).1; rcases hs with e | e <;> omega),
            (fun p hp x hx _ hs => by have h1 := (Own.lt (hop.2 p hp).1 x.block (by unfold Part.val; rw [hx]; rfl)).1; rcases hs with e | e <;> omega)⟩)))))
        clear hbo hop hb6 h2 hbo2 hb46 hz5 hcl hcap hcm HX HBV
        go_wp2_with fail
        go_meet
        exact ⟨X, cX, p0, ps, rfl, rfl, HN⟩
  case rest =>
  obtain ⟨X, cX, p0, ps, rfl, rfl, hin⟩ := hcut
  obtain ⟨w5, rfl⟩ : ∃ w5 : World, w5 = wc := ⟨_, rfl⟩
  obtain ⟨hbo, hcap, hcm, hnp, hro⟩ := hin.out
  have HBO := kept hbo
  have HR5 := kept hro
  clear hin hbo hro HRO HSC HFN z7 hgw
  have z7 : w5.cell? ⟨g, 7, none⟩ = some (.int .i64 f) := HR5.out.2.2.1.cell (j := 7) rfl
  go_upto_region 12 with fail
  go_cut [74] (fun p wr => p = .bool (decide (fin < (d.b f).length)) ∧ w5 = wr)
  case first =>
    rcases hf with rfl | rfl
    · have zf : w5.cell? ⟨w.heap.size, 0, none⟩ = some (.string (strB d.b0)) := HR5.out.1.2.1.cell (j := 0) rfl
      have hsz : (strB d.b0).size = d.b0.length := strB_size _
      have hlt : fin < d.b0.length ∨ ¬ fin < d.b0.length := by omega
      rcases hlt with hlt | hlt
      all_goals
        go_wp2_with fail
        go_meet
        exact ⟨by first | (rw [decide_eq_true (show fin < (d.b 0).length from hlt)]) | (rw [decide_eq_false (show ¬ fin < (d.b 0).length from hlt)]), rfl⟩
    · have zf : w5.cell? ⟨w.heap.size, 1, none⟩ = some (.string (strB d.b1)) := HR5.out.1.2.1.cell (j := 1) rfl
      have hsz : (strB d.b1).size = d.b1.length := strB_size _
      have hlt : fin < d.b1.length ∨ ¬ fin < d.b1.length := by omega
      rcases hlt with hlt | hlt
      all_goals
        go_wp2_with fail
        go_meet
        exact ⟨by first | (rw [decide_eq_true (show fin < (d.b 1).length from hlt)]) | (rw [decide_eq_false (show ¬ fin < (d.b 1).length from hlt)]), rfl⟩
  case rest =>
  obtain ⟨rfl, rfl⟩ := hcut
  go_upto_if 74 with fail
  obtain ⟨⟨d1, e1⟩, hr1⟩ : ∃ r, (if fin < (d.b f).length then d.cutM f fin else (d, 0)) = r := ⟨_, rfl⟩
  have HR1 := kept hr1
  have hok1 : d1.Ok := by
    have e : d1 = (if fin < (d.b f).length then d.cutM f fin else (d, 0)).1 := by rw [hr1]
    rw [e]
    split
    · exact cutM_ok HOK.out f fin
    · exact HOK.out
  have HOK1 := kept hok1
  clear hr1 hok1
  go_cut [15] (fun p wr => p = .int .i64 (e1 : Int) ∧ Kept (RO w wr d g (jL d1 f gn) A snap X (p0 :: ps)))
  case first =>
    by_cases hlt : fin < (d.b f).length
    · have hd : decide (fin < (d.b f).length) = true := decide_eq_true hlt
      have hc := HR1.out
      rw [if_pos hlt] at hc
      have CC := kept (fun (W : World) => rcut_any d f fin W HOK.out)
      rw [hc] at CC
      simp only [rV_ex] at CC
      clear hc hlt
      generalize decide (fin < (d.b f).length) = bb at *
      subst hd
      have hp5 : Blk w5 g ([.string (strB d.b0), .string (strB d.b1), .int .i64 (d.s0 : Int), .int .i64 (d.s1 : Int), .int .i64 (d.room : Int), .int .i64 d.fuse, .bool d.down] ++ [.int .i64 f, .int .u64 (gn : Int)]) 57 := HR5.out.2.2.1
      go_wp2_with (refine wpl_loadP rfl _ _ rfl g rfl _ _ _ hp5 _ rfl rfl rfl ?_)
      refine (CC.out _).mono ?_
      rintro e w6 ⟨rfl, hb6⟩
      have hbx : Below w6.heap.size w6 (w6.alloc (.cells (rL d1).toArray 55)) := (Below.refl w6.heap.size w6).alloc (Nat.le_refl _) _
      have H7 := kept ((HR5.out.next hb6).next hbx)
      have hk7 : Blk (w6.alloc (.cells #[.string (strB d1.b0), .string (strB d1.b1), .int .i64 (d1.s0 : Int), .int .i64 (d1.s1 : Int), .int .i64 (d1.room : Int), .int .i64 d1.fuse, .bool d1.down] 55)) w6.heap.size [.string (strB d1.b0), .string (strB d1.b1), .int .i64 (d1.s0 : Int), .int .i64 (d1.s1 : Int), .int .i64 (d1.room : Int), .int .i64 d1.fuse, .bool d1.down] 55 := Blk.new w6 _ _
      have hp7 : Blk (w6.alloc (.cells #[.string (strB d1.b0), .string (strB d1.b1), .int .i64 (d1.s0 : Int), .int .i64 (d1.s1 : Int), .int .i64 (d1.room : Int), .int .i64 d1.fuse, .bool d1.down] 55)) g (rL d ++ [.int .i64 f, .int .u64 (gn : Int)]) 57 := H7.out.2.2.1
      clear hb6 hp5 CC hbx z7
      go_wp2_with (first | (refine wpl_loadB rfl _ _ rfl w6.heap.size rfl _ _ hk7 _ rfl rfl rfl ?_) | (refine wpl_storeP rfl _ _ _ rfl g (rL d1) rfl rfl _ (rL d) [.int .i64 f, .int .u64 (gn : Int)] hp7 rfl rfl rfl ?_; intro w8 hk8 hu8; have H8 := kept (H7.out.set hk8 hu8); clear hk8 hu8))
      go_meet
      exact ⟨rfl, H8⟩
    · have hd : decide (fin < (d.b f).length) = false := decide_eq_false hlt
      have hc := HR1.out
      rw [if_neg hlt] at hc
      obtain ⟨rfl, rfl⟩ := Prod.mk.inj hc
      clear hc hlt HR1
      generalize decide (fin < (d.b f).length) = bb at *
      subst hd
      go_wp2_with fail
      go_meet
      exact ⟨rfl, HR5⟩
  case rest =>
  obtain ⟨rfl, H6⟩ := hcut
  obtain ⟨w6, rfl⟩ : ∃ w6 : World, w6 = wc := ⟨_, rfl⟩
  have hcl : openM d = (⟨(clean2 (d1, e1) f).1, f, gn⟩, (clean2 (d1, e1) f).2) := by rw [HOM.out]; unfold cleanM; rw [HR1.out]
  have HCL := kept hcl
  clear HR5 z7 HR1 HOM hcl
  obtain ⟨⟨d2, e2⟩, hr2⟩ : ∃ r, clean2 (d1, e1) f = r := ⟨_, rfl⟩
  rw [hr2] at HCL
  have HR2 := kept hr2
  clear hr2
  go_upto_if 88 with fail
  go_cut [15] (fun p wr => p = .int .i64 (e2 : Int) ∧ Kept (RO w wr d g (jL d2 f gn) A snap X (p0 :: ps)))
  case first =>
    by_cases he1 : e1 = 0
    · subst he1
      have hc : emptyM d1 (1 - f) = (d2, e2) := by rw [← HR2.out]; rfl
      have hfe : 1 - f = 0 ∨ 1 - f = 1 := by omega
      have hw1 : IntKind.i64.wrap (1 - f) = 1 - f := IntWalk.i64_in _ (by omega)
      have CC := kept (fun (W : World) => rempty_any d1 (1 - f) W HOK1.out hfe)
      rw [hc] at CC
      simp only [rV_ex] at CC
      clear hc hfe
      have z7 : w6.cell? ⟨g, 7, none⟩ = some (.int .i64 f) := H6.out.2.2.1.cell (j := 7) rfl
      have hp5 : Blk w6 g ([.string (strB d1.b0), .string (strB d1.b1), .int .i64 (d1.s0 : Int), .int .i64 (d1.s1 : Int), .int .i64 (d1.room : Int), .int .i64 d1.fuse, .bool d1.down] ++ [.int .i64 f, .int .u64 (gn : Int)]) 57 := H6.out.2.2.1
      go_wp2_with (refine wpl_loadP rfl _ _ rfl g rfl _ _ _ hp5 _ rfl rfl rfl ?_)
      refine (CC.out _).mono ?_
      rintro e w7 ⟨rfl, hb7⟩
      have hbx : Below w7.heap.size w7 (w7.alloc (.cells (rL d2).toArray 55)) := (Below.refl w7.heap.size w7).alloc (Nat.le_refl _) _
      have H7 := kept ((H6.out.next hb7).next hbx)
      have hk7 : Blk (w7.alloc (.cells #[.string (strB d2.b0), .string (strB d2.b1), .int .i64 (d2.s0 : Int), .int .i64 (d2.s1 : Int), .int .i64 (d2.room : Int), .int .i64 d2.fuse, .bool d2.down] 55)) w7.heap.size [.string (strB d2.b0), .string (strB d2.b1), .int .i64 (d2.s0 : Int), .int .i64 (d2.s1 : Int), .int .i64 (d2.room : Int), .int .i64 d2.fuse, .bool d2.down] 55 := Blk.new w7 _ _
      have hp7 : Blk (w7.alloc (.cells #[.string (strB d2.b0), .string (strB d2.b1), .int .i64 (d2.s0 : Int), .int .i64 (d2.s1 : Int), .int .i64 (d2.room : Int), .int .i64 d2.fuse, .bool d2.down] 55)) g (rL d1 ++ [.int .i64 f, .int .u64 (gn : Int)]) 57 := H7.out.2.2.1
      clear hb7 hp5 CC hbx z7
      go_wp2_with (first | (refine wpl_loadB rfl _ _ rfl w7.heap.size rfl _ _ hk7 _ rfl rfl rfl ?_) | (refine wpl_storeP rfl _ _ _ rfl g (rL d2) rfl rfl _ (rL d1) [.int .i64 f, .int .u64 (gn : Int)] hp7 rfl rfl rfl ?_; intro w8 hk8 hu8; have H8 := kept (H7.out.set hk8 hu8); clear hk8 hu8))
      go_meet
      exact ⟨rfl, H8⟩
    · have heb : ((e1 : Int) == 0) = false := by simpa using he1
      have hc : clean2 (d1, e1) f = (d1, e1) := by unfold clean2; rw [if_pos he1]
      rw [HR2.out] at hc
      obtain ⟨rfl, rfl⟩ := Prod.mk.inj hc
      clear hc HR2
      go_wp2_with fail
      go_meet
      exact ⟨rfl, H6⟩
  case rest =>
  obtain ⟨rfl, H7⟩ := hcut
  obtain ⟨w7, rfl⟩ : ∃ w7 : World, w7 = wc := ⟨_, rfl⟩
  clear H6 HR2
  by_cases he2 : e2 = 0
  · subst he2
    have HEND : Kept (∀ (W : World) (X2 : Option Addr) (c2 : Nat), Below w.heap.size w W → Rd W W.heap.size A (BB snap) → RdParts W W.heap.size X2 ps → ROpenG w d (.returned (.tuple #[.agg (jL d2 f gn).toArray, .slice A snap.length c, .slice X2 ps.length c2, .int .i64 0])) W) := by
      refine ⟨fun W X2 c2 hb hr ht => ⟨hb, .inl ⟨by rw [HCL.out], A, c, X2, c2, ps, ?_, ?_, ?_, ht, ?_, ?_⟩⟩⟩
      · rw [HCL.out, HPK.out]
        show Ending.returned _ = .returned (.tuple #[jV d2 f gn, .slice A (look (d.b f)).snap.length c, _, _])
        rw [HSN.out]
        rfl
      · rw [HBO.out, HPK.out]
      · rw [HPK.out]
        show Rd W W.heap.size A (BB (look (d.b f)).snap)
        rw [HSN.out]
        exact hr
      · rw [HPK.out]
        show AllB (look (d.b f)).snap
        rw [HSN.out]
        exact HAL.out
      · simp only [List.length_cons] at hnp; omega
    obtain ⟨b1, o1, rfl, -, -⟩ := H7.out.2.2.2.2.1.1.at_ (k := 0) (u := p0.val) rfl
    have hx5 : (1 : Int) ≤ (ps.length : Int) + 1 := by omega
    have hx6 : (ps.length : Int) + 1 ≤ (cX : Int) := by simp only [List.length_cons] at hcap; omega
    have HCAP := kept hcap
    have hps : (p0 :: ps).length = ps.length + 1 := rfl
    rw [hps]
    have hj7 : Blk w7 g [.string (strB d2.b0), .string (strB d2.b1), .int .i64 (d2.s0 : Int), .int .i64 (d2.s1 : Int), .int .i64 (d2.room : Int), .int .i64 d2.fuse, .bool d2.down, .int .i64 f, .int .u64 (gn : Int)] 57 := H7.out.2.2.1
    have hr7 : Blk w7 (w.heap.size + 1) jZ 57 := H7.out.1.2.2
    obtain ⟨q0, q1, q2, q3, q4, q5, q6, q7, q8⟩ : w7.cell? ⟨g, 0, none⟩ = some (.string (strB d2.b0)) ∧ w7.cell? ⟨g, 1, none⟩ = some (.string (strB d2.b1)) ∧ w7.cell? ⟨g, 2, none⟩ = some (.int .i64 (d2.s0 : Int)) ∧ w7.cell? ⟨g, 3, none⟩ = some (.int .i64 (d2.s1 : Int)) ∧ w7.cell? ⟨g, 4, none⟩ = some (.int .i64 (d2.room : Int)) ∧ w7.cell? ⟨g, 5, none⟩ = some (.int .i64 d2.fuse) ∧ w7.cell? ⟨g, 6, none⟩ = some (.bool d2.down) ∧ w7.cell? ⟨g, 7, none⟩ = some (.int .i64 f) ∧ w7.cell? ⟨g, 8, none⟩ = some (.int .u64 (gn : Int)) :=
      ⟨hj7.cell (j := 0) rfl, hj7.cell (j := 1) rfl, hj7.cell (j := 2) rfl, hj7.cell (j := 3) rfl, hj7.cell (j := 4) rfl, hj7.cell (j := 5) rfl, hj7.cell (j := 6) rfl, hj7.cell (j := 7) rfl, hj7.cell (j := 8) rfl⟩
    have r0 := hr7.cell (j := 0) rfl
    have r1 := hr7.cell (j := 1) rfl
    have r2 := hr7.cell (j := 2) rfl
    have r3 := hr7.cell (j := 3) rfl
    have r4 := hr7.cell (j := 4) rfl
    have r5 := hr7.cell (j := 5) rfl
    have r6 := hr7.cell (j := 6) rfl
    have r7 := hr7.cell (j := 7) rfl
    have r8 := hr7.cell (j := 8) rfl
    have f0 := hr7.frozen 0
    have f1 := hr7.frozen 1
    have f2 := hr7.frozen 2
    have f3 := hr7.frozen 3
    have f4 := hr7.frozen 4
    have f5 := hr7.frozen 5
    have f6 := hr7.frozen 6
    have f7 := hr7.frozen 7
    have f8 := hr7.frozen 8
    have HK9 := kept (blk_set9 hr7 d2 f gn rfl)
    clear hj7 hr7 hcap hps
    by_cases hc1 : cX = 1
    · subst hc1
      go_wp2_with fail
      go_region_law (fail)
      go_wp2_with fail
      refine bodyPost_ret (res_cell_tmp3 rfl _ (w.heap.size + 1) _ (jL d2 f gn) _ rfl (Blk.drew HK9.out.1) rfl rfl rfl) rfl ?_
      obtain ⟨hb8, hr8, hp8⟩ := H7.out.res HK9.out.2.drew
      have ht := parts_tail hp8 HCAP.out
      rw [if_pos rfl] at ht
      exact HEND.out _ (some ⟨b1, o1, none⟩) 0 hb8 hr8 ht
    · have HC1 := kept hc1
      go_wp2_with fail
      go_region_law (fail)
      go_wp2_with fail
      refine bodyPost_ret (res_cell_tmp3 rfl _ (w.heap.size + 1) _ (jL d2 f gn) _ rfl (Blk.drew HK9.out.1) rfl rfl rfl) rfl ?_
      obtain ⟨hb8, hr8, hp8⟩ := H7.out.res HK9.out.2.drew
      have ht := parts_tail hp8 HCAP.out
      rw [if_neg HC1.out] at ht
      exact HEND.out _ (some ⟨b1, o1 + 1, none⟩) (cX - 1) hb8 hr8 ht
  · have heb : ((e2 : Int) != 0) = true := by simpa using he2
    have hj7 : Blk w7 g [.string (strB d2.b0), .string (strB d2.b1), .int .i64 (d2.s0 : Int), .int .i64 (d2.s1 : Int), .int .i64 (d2.room : Int), .int .i64 d2.fuse, .bool d2.down, .int .i64 f, .int .u64 (gn : Int)] 57 := H7.out.2.2.1
    have hr7 : Blk w7 (w.heap.size + 1) jZ 57 := H7.out.1.2.2
    go_wp2_with (first | (refine wpl_loadB rfl _ _ rfl g rfl _ _ hj7 _ rfl rfl rfl ?_) | (refine wpl_storeB rfl _ _ _ rfl (w.heap.size + 1) (jL d2 f gn) rfl rfl _ _ hr7 rfl rfl rfl ?_; intro w8 hk8 hu8; have H8 := kept (H7.out.res hu8); have HK8 := kept hk8; clear hk8 hu8))
    refine bodyPost_ret (res_cell_tmp3 rfl _ (w.heap.size + 1) _ (jL d2 f gn) _ rfl HK8.out rfl rfl rfl) rfl ⟨H8.out.1, .inr ⟨by rw [HCL.out]; exact he2, f, gn, ?_⟩⟩
    rw [HCL.out]
    rfl
theorem ropen_any (d : DS) (w : World) (h : d.Ok) : Calls Tryd.prog 22 #[rV d] w (ROpenG w d) := by
  by_cases h0 : (genM d.b0).1 = 0 ∧ (genM d.b1).1 = 0
  · exact ropen_first d w h h0.1 h0.2
  · exact ropen_other d w h h0
end Go.Proofs.YtdlghabpnpbebaaDoor.Jrn
