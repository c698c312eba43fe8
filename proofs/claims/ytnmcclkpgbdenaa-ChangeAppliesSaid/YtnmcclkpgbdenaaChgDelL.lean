/- Layer 50 (change): slices.DeleteFunc of lines of one field. -/
import Derived.Test.YtnmcclkpgbdenaaSet19
namespace Go.Proofs.Ytnmcclkpgbdenaa.Chg
open Go.RowKit Go.Proofs.Ytnmcclkpgbdenaa.Mem Go.Proofs.Ytnmcclkpgbdenaa.Card

/-- a whole line is stored over another -/
theorem line_set {w : World} {base : Nat} {r n c : Nat} {l : List LineM} (h : lineE.Own w base 41 (.slice (some ⟨r, 0, none⟩) n c) l) {i : Nat} {y : LineM} (hi : l[i]? = some y) (x : LineM) :
    lineE.Own (((w.setCell ⟨r, i * 3, none⟩ (.int .u8 (x.f : Int))).setCell ⟨r, i * 3 + 1, none⟩ (.string x.t)).setCell ⟨r, i * 3 + 2, none⟩ (.slice x.A x.m.length x.c)) base 41 (.slice (some ⟨r, 0, none⟩) n c) (l.set i x) ∧
    Upd (fun k => k = r) w (((w.setCell ⟨r, i * 3, none⟩ (.int .u8 (x.f : Int))).setCell ⟨r, i * 3 + 1, none⟩ (.string x.t)).setCell ⟨r, i * 3 + 2, none⟩ (.slice x.A x.m.length x.c)) := by
  have hlt := (List.getElem?_eq_some_iff.1 hi).1
  obtain ⟨g, e1, -, -, -, -, h1⟩ := h.spot (j := 0) hi rfl
  obtain rfl : g = r := (congrArg Addr.block (Option.some.inj e1)).symm
  obtain ⟨s1, -⟩ := h1 ⟨x.f, y.t, y.A, y.m, y.c⟩ (.int .u8 (x.f : Int)) rfl
  have e2 : (l.set i (⟨x.f, y.t, y.A, y.m, y.c⟩ : LineM))[i]? = some ⟨x.f, y.t, y.A, y.m, y.c⟩ := by rw [List.getElem?_set_self hlt]
  obtain ⟨g2, e3, -, -, -, -, h2⟩ := s1.spot (j := 1) e2 rfl
  obtain rfl : g2 = g := (congrArg Addr.block (Option.some.inj e3)).symm
  obtain ⟨s2, -⟩ := h2 ⟨x.f, x.t, y.A, y.m, y.c⟩ (.string x.t) rfl
  rw [List.set_set] at s2
  have e4 : (l.set i (⟨x.f, x.t, y.A, y.m, y.c⟩ : LineM))[i]? = some ⟨x.f, x.t, y.A, y.m, y.c⟩ := by rw [List.getElem?_set_self hlt]
  obtain ⟨g3, e5, -, -, -, -, h3⟩ := s2.spot (j := 2) e4 rfl
  obtain rfl : g3 = g2 := (congrArg Addr.block (Option.some.inj e5)).symm
  obtain ⟨s3, -⟩ := h3 x (.slice x.A x.m.length x.c) rfl
  rw [List.set_set] at s3
  exact ⟨s3, ((((Upd.refl (fun k => k = _) w).setCell (p := ⟨_, i * 3, none⟩) (.inl rfl) _).setCell (p := ⟨_, i * 3 + 1, none⟩) (.inl rfl) _).setCell (p := ⟨_, i * 3 + 2, none⟩) (.inl rfl) _)⟩
def noF (f : Nat) (l : List LineM) : List LineM := l.filter fun x => !(isF f x)
theorem filter_next {α : Type} (p : α → Bool) {l : List α} {j : Nat} {x : α} (hx : l[j]? = some x) : (l.take (j + 1)).filter p = (l.take j).filter p ++ (if p x then [x] else []) := by
  obtain ⟨h1, h2⟩ := List.getElem?_eq_some_iff.1 hx
  rw [List.take_succ_eq_append_getElem h1, h2, List.filter_append]
  simp [List.filter_cons]
set_option maxRecDepth 100000 in
set_option maxHeartbeats 2000000 in
theorem dell_any (base : Nat) (A : Option Addr) (c : Nat) (l : List LineM) (f g : Nat) (w : World) (h : lineE.Own w base 41 (.slice A l.length c) l) (hok : ∀ x ∈ l, x.Ok w w.heap.size) (hc : w.cell? ⟨g, 0, none⟩ = some (.int .u8 (f : Int))) (hg : g < base) (hbs : base ≤ w.heap.size) (hsz : l.length ≤ 1000000) :
    Calls Try.prog 109 #[.slice A l.length c, .func (.func 110) #[] #[.pointer (some ⟨g, 0, none⟩)]] w fun e w' =>
      ∃ A' c', e = .returned (.slice A' (noF f l).length c') ∧ lineE.Own w' base 41 (.slice A' (noF f l).length c') (noF f l) ∧ Upd (fun k => (Value.slice A l.length c).ownBlock = some k) w w' := by
  have CI := kept (idx_any A l.length c l f g w rfl ⟨h.rd, hok⟩ hc (Nat.lt_of_lt_of_le hg hbs) hsz)
  have HO := kept h
  have HC := kept hc
  clear h hc hok
  go_enter Try.func109, Try.ntmps109
  go_wp2_with fail
  refine CI.out.mono ?_
  rintro e w1 ⟨⟨rr, rfl, hidx⟩, hb1⟩
  rcases hidx with ⟨k0, x0, rfl, hk0, hx0, hbef⟩ | ⟨rfl, hn⟩
  · have hlt0 := (List.getElem?_eq_some_iff.1 hk0).1
    have hcap : l.length ≤ c := HO.out.cap
    obtain ⟨r, rfl, hbr, hrw, -, -, -⟩ := HO.out.spot (i := k0) (j := 0) hk0 rfl
    have HNO : Kept (∀ q : List LineM, noF f q = q.filter fun x => !(isF f x)) := ⟨fun _ => rfl⟩
    have h0 : l.take k0 = noF f (l.take (k0 + 1)) := by
      rw [HNO.out, filter_next (fun x => !(isF f x)) hk0, hx0]
      have : (l.take k0).filter (fun x => !(isF f x)) = l.take k0 := List.filter_eq_self.2 fun x hx => by
        obtain ⟨j, hj⟩ := List.getElem?_of_mem hx
        rw [List.getElem?_take] at hj
        split at hj
        · rw [hbef j x (by assumption) hj]; rfl
        · cases hj
      rw [this]; simp
    have H0 := kept h0
    have hkm : ((k0 : Int) == -1) = false := by rw [beq_eq_false_iff_ne]; omega
    have HB1 := kept hb1
    have hgr : g ≠ r := by omega
    clear hbef hk0 hx0 h0 CI hb1
    go_wp2_with fail
    go_loopw [5, 6] (fun iv jv wr => ∃ (i j : Nat) (cur : List LineM), k0 < j ∧ j ≤ l.length ∧ i < j ∧ iv = .int .i64 (i : Int) ∧ jv = .int .i64 (j : Int) ∧ Kept (cur.take i = noF f (l.take j) ∧ cur.drop j = l.drop j ∧ cur.length = l.length) ∧ Kept (lineE.Own wr base 41 (.slice (some ⟨r, 0, none⟩) l.length c) cur ∧ Upd (fun k => k = r) w wr)) (fun _ jv _ => l.length - (intOf jv).toNat)
    case atStart => exact ⟨k0, k0 + 1, l, by omega, by omega, by omega, rfl, by go_num, ⟨H0.out, rfl, rfl⟩, ⟨HO.out.next HB1.out, Upd.of_below HB1.out⟩⟩
    case round =>
      obtain ⟨i, j, cur, hkj, hj, hij, rfl, rfl, hcu, hin⟩ := hrel
      by_cases hlt : j < l.length
      · obtain ⟨x, hx⟩ : ∃ x, l[j]? = some x := ⟨_, List.getElem?_eq_getElem hlt⟩
        have hxc : cur[j]? = some x := by
          have e := congrArg (·[0]?) hcu.out.2.1
          simpa [hx] using e
        obtain ⟨b2, o2, e2, -, hcl⟩ := hin.out.1.rd.at_ hxc
        obtain ⟨rfl, rfl⟩ : r = b2 ∧ 0 = o2 := by injection e2 with h1; injection h1 with h2 h3 _; exact ⟨h2, h3⟩
        have c0 : wr.cell? ⟨r, j * 3, none⟩ = some (.int .u8 (x.f : Int)) := by have := hcl 0 _ rfl; rwa [show 0 + (j * lineE.k + 0) = j * 3 from by simp [lineE]] at this
        have c1 : wr.cell? ⟨r, j * 3 + 1, none⟩ = some (.string x.t) := by have := hcl 1 _ rfl; rwa [show 0 + (j * lineE.k + 1) = j * 3 + 1 from by simp [lineE]] at this
        have c2 : wr.cell? ⟨r, j * 3 + 2, none⟩ = some (.slice x.A x.m.length x.c) := by have := hcl 2 _ rfl; rwa [show 0 + (j * lineE.k + 2) = j * 3 + 2 from by simp [lineE]] at this
        have hnb : Below wr.heap.size wr (wr.alloc (.cells #[.int .u8 (x.f : Int), .string x.t, .slice x.A x.m.length x.c] 41)) := (Below.refl _ _).alloc (Nat.le_refl _) _
        have HK := kept (Blk.new wr [.int .u8 (x.f : Int), .string x.t, .slice x.A x.m.length x.c] 41)
        have hgc : (wr.alloc (.cells #[.int .u8 (x.f : Int), .string x.t, .slice x.A x.m.length x.c] 41)).cell? ⟨g, 0, none⟩ = some (.int .u8 (f : Int)) := (hnb.cell (p := ⟨g, 0, none⟩) (by have := hin.out.2.size; show g < _; omega)).trans ((hin.out.2.cell (p := ⟨g, 0, none⟩) (by show g < _; omega) hgr).trans HC.out)
        have hcc := kept (with1_any x f g _ hgc (by have := hin.out.2.size; have := hnb.size; omega))
        have H2 := kept (And.intro (hin.out.1.next hnb) (hin.out.2.next hnb))
        have HSN := kept (filter_next (fun x => !(isF f x)) hx)
        rw [← HNO.out, ← HNO.out] at HSN
        have HDR : Kept (cur.drop (j + 1) = l.drop (j + 1)) := ⟨by
          have e := congrArg (List.drop 1) hcu.out.2.1
          simpa [List.drop_drop] using e⟩
        have hjn : (j : Int) < (l.length : Int) := by omega
        have hic : i < cur.length := by rw [hcu.out.2.2]; omega
        obtain ⟨y, hy⟩ : ∃ y, cur[i]? = some y := ⟨_, List.getElem?_eq_getElem hic⟩
        have HN1 : Kept (isF f x = true → cur.take i = noF f (l.take (j + 1)) ∧ cur.drop (j + 1) = l.drop (j + 1) ∧ cur.length = l.length) := ⟨fun ht => ⟨by rw [HSN.out, ht]; simpa using hcu.out.1, HDR.out, hcu.out.2.2⟩⟩
        have HN2 : Kept (isF f x = false → (cur.set i x).take (i + 1) = noF f (l.take (j + 1)) ∧ (cur.set i x).drop (j + 1) = l.drop (j + 1) ∧ (cur.set i x).length = l.length) := ⟨fun ht => ⟨by
          rw [HSN.out, ht, List.take_succ_eq_append_getElem (by rw [List.length_set]; exact hic), List.take_set_of_le (Nat.le_refl i), hcu.out.1]
          simp, by rw [List.drop_set_of_lt (by omega)]; exact HDR.out, by rw [List.length_set]; exact hcu.out.2.2⟩⟩
        have HY := kept hy
        have hil : i < l.length := by omega
        have hiln : (i : Int) < (l.length : Int) := by omega
        unfold LineM.val at hcc
        clear hx hxc e2 hcl hnb hgc HSN HDR hcu hy hic hin
        cases ht : isF f x with
        | true =>
          have HN := kept (HN1.out ht)
          rw [ht] at hcc
          have q0 := HK.out.cell (j := 0) rfl
          have q1 := HK.out.cell (j := 1) rfl
          have q2 := HK.out.cell (j := 2) rfl
          clear HN1 HN2 ht
          obtain ⟨xf, xt, xA, xm, xc⟩ := x
          dsimp only at c0 c1 c2 hcc q0 q1 q2 H2
          go_wp2_with fail
          refine hcc.out.mono ?_
          rintro e w5 ⟨rfl, hb5⟩
          have HW := kept (And.intro (H2.out.1.next hb5) (H2.out.2.next hb5))
          clear hb5 hcc H2 HK q0 q1 q2
          go_wp2_with fail
          go_roundw
          case rel => exact ⟨i, j + 1, cur, by omega, by omega, by omega, rfl, by go_num, HN, HW⟩
          case measure => simp [intOf]; omega
        | false =>
          have HN := kept (HN2.out ht)
          rw [ht] at hcc
          have q0 := HK.out.cell (j := 0) rfl
          have q1 := HK.out.cell (j := 1) rfl
          have q2 := HK.out.cell (j := 2) rfl
          clear HN1 HN2 ht
          obtain ⟨xf, xt, xA, xm, xc⟩ := x
          dsimp only at c0 c1 c2 hcc q0 q1 q2 H2 HK
          go_wp2_with fail
          refine hcc.out.mono ?_
          rintro e w5 ⟨rfl, hb5⟩
          have HW := kept (And.intro (H2.out.1.next hb5) (H2.out.2.next hb5))
          have HK5 := HK.out.next hb5
          have v0 := HK5.cell (j := 0) rfl
          have v1 := HK5.cell (j := 1) rfl
          have v2 := HK5.cell (j := 2) rfl
          obtain ⟨r3, e3, -, -, hc3, hf3, -⟩ := HW.out.1.spot (i := i) (j := 0) HY.out rfl
          obtain ⟨r4, e4, -, -, hc4, hf4, -⟩ := HW.out.1.spot (i := i) (j := 1) HY.out rfl
          obtain ⟨r5, e5, -, -, hc5, hf5, -⟩ := HW.out.1.spot (i := i) (j := 2) HY.out rfl
          obtain rfl : r = r3 := congrArg Addr.block (Option.some.inj e3)
          obtain rfl : r = r4 := congrArg Addr.block (Option.some.inj e4)
          obtain rfl : r = r5 := congrArg Addr.block (Option.some.inj e5)
          have HS := kept (line_set HW.out.1 HY.out ⟨xf, xt, xA, xm, xc⟩)
          have HU := kept (HW.out.2.trans HS.out.2)
          rw [show i * lineE.k + 0 = i * 3 from rfl] at hc3 hf3
          rw [show i * lineE.k + 1 = i * 3 + 1 from rfl] at hc4 hf4
          rw [show i * lineE.k + 2 = i * 3 + 2 from rfl] at hc5 hf5
          clear hb5 hcc H2 HK HK5 q0 q1 q2 e3 e4 e5 HW
          go_wp2_with fail
          go_roundw
          case rel => exact ⟨i + 1, j + 1, cur.set i ⟨xf, xt, xA, xm, xc⟩, by omega, by omega, by omega, by go_num, by go_num, HN, ⟨HS.out.1, HU.out⟩⟩
          case measure => simp [intOf]; omega
      · obtain rfl : j = l.length := by omega
        have hcl := hin.out.1.cleared (i := i) hij 36 Try.underlying36 (.agg #[.int .u8 0, .string ⟨#[]⟩, .slice none 0 0]) (by kernel_rfl) (by intro u hu; simp [Value.cells] at hu; rcases hu with rfl | rfl | rfl <;> rfl) (by rfl) (c - i)
        rw [show i * lineE.k = i * 3 from rfl] at hcl
        obtain ⟨hrun, ho3, hu3⟩ := hcl
        have HF : Kept (cur.take i = noF f l) := ⟨by rw [hcu.out.1, List.take_length]⟩
        have HO3 := kept ho3
        have HU3 := kept (hin.out.2.trans hu3)
        have hjn : ¬ (l.length : Int) < (l.length : Int) := by omega
        have e1 : (i : Int) ≤ (l.length : Int) := by omega
        have e2 : (l.length : Int) ≤ (c : Int) := by omega
        have e3 : ¬ c = i := by omega
        have e4 : (0 : Int) ≤ (i : Int) := by omega
        have e5 : (i : Int) ≤ (c : Int) := by omega
        have e6 : i ≤ l.length := by omega
        have e7 : i ≤ c := by omega
        have hil : (noF f l).length = i := by rw [← HF.out, List.length_take]; rw [hcu.out.2.2]; omega
        have HIL := kept hil
        clear hcu ho3 hu3 hin hil
        go_wp2_with fail
        go_ret
        refine ⟨some ⟨r, 0, none⟩, c, by rw [HIL.out]; rfl, ?_, HU3.out.mono fun k _ e => by rw [e]; rfl⟩
        rw [HIL.out, ← HF.out]
        exact HO3.out
  · have HF : Kept (noF f l = l) := ⟨List.filter_eq_self.2 fun x hx => by
      obtain ⟨j, hj⟩ := List.getElem?_of_mem hx
      rw [hn j x hj]; rfl⟩
    have HB := kept hb1
    clear hn hb1 CI
    go_wp2_with fail
    go_ret
    exact ⟨A, c, by rw [HF.out]; rfl, by rw [HF.out]; exact HO.out.next HB.out, Upd.of_below HB.out⟩
end Go.Proofs.Ytnmcclkpgbdenaa.Chg
