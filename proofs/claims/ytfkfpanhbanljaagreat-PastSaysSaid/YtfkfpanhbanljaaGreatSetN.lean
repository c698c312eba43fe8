import Derived.Test.YtfkfpanhbanljaaGreatSetG
import Derived.Test.YtfkfpanhbanljaaGreatSetJ
import Derived.Test.YtfkfpanhbanljaaGreatSetAA
import Derived.Sort.AssemblyPlain
import Derived.BigQuiet
import Derived.Test.YtfkfpanhbanljaaGreatSortC
import Derived.Test.YtfkfpanhbanljaaGreatElemU
import Derived.Deep.DeepCutAuto
import Derived.Test.YtfkfpanhbanljaaGreatSetK
import Derived.Test.YtfkfpanhbanljaaGreatSetL
import Derived.BigRegion
/- Sorting numbers, 13 and more of them: the kit's plain layer Sort.pdq over a row of bytes of one's own: a swap; order2, median (they read the row and count in a cell). (printed by tools/genqd.py) -/
namespace Go.Proofs.YtfkfpanhbanljaaGreat.SortQ
open Go.Proofs.YtfkfpanhbanljaaGreat.SortW Go.Proofs.YtfkfpanhbanljaaGreat.SortY Go.RowKit Go.Proofs.YtfkfpanhbanljaaGreat.Mem

/-- a row of one's own that holds these bytes -/
def RowD (w : World) (base : Nat) (A : Option Addr) (n c : Nat) (d : Array Nat) : Prop := d.size = n ∧ Own w base 33 (.slice A n c) (WB d.toList)
theorem RowD.spot {w : World} {base : Nat} {A : Option Addr} {n c : Nat} {d : Array Nat} (h : RowD w base A n c d) {k : Nat} (hk : k < n) :
    ∃ g, A = some ⟨g, 0, none⟩ ∧ base ≤ g ∧ w.cell? ⟨g, k, none⟩ = some (.int .u64 ((d[k]! : Nat) : Int)) ∧ w.frozen? ⟨g, k, none⟩ = false := by
  obtain ⟨g, h1, h2, h3, h4, -⟩ := word_spot h.2 (k := k) (by rw [Array.length_toList, h.1]; exact hk)
  rw [getD_bang] at h3
  exact ⟨g, h1, h2, h3, h4⟩
theorem RowD.put {w : World} {base g : Nat} {n c : Nat} {d : Array Nat} (h : RowD w base (some ⟨g, 0, none⟩) n c d) {k : Nat} (hk : k < n) (v : Nat) : RowD (w.setCell ⟨g, k, none⟩ (.int .u64 (v : Int))) base (some ⟨g, 0, none⟩) n c (d.setIfInBounds k v) := by
  obtain ⟨g1, h1, -, -, -, h5⟩ := word_spot h.2 (k := k) (by rw [Array.length_toList, h.1]; exact hk)
  obtain rfl : g = g1 := congrArg Addr.block (Option.some.inj h1)
  refine ⟨by rw [Array.size_setIfInBounds, h.1], ?_⟩
  have := h5 v
  rw [Array.toList_setIfInBounds]
  exact this
theorem RowD.swp {w : World} {base g : Nat} {n c : Nat} {d : Array Nat} (h : RowD w base (some ⟨g, 0, none⟩) n c d) {i j : Nat} (hi : i < n) (hj : j < n) : RowD ((w.setCell ⟨g, i, none⟩ (.int .u64 ((d[j]! : Nat) : Int))).setCell ⟨g, j, none⟩ (.int .u64 ((d[i]! : Nat) : Int))) base (some ⟨g, 0, none⟩) n c (Go.Sort.swp d i j) := (h.put hi _).put hj _
theorem RowD.drewN {w : World} {base : Nat} {A : Option Addr} {n c : Nat} {d : Array Nat} (h : RowD w base A n c d) (q : Nat) : RowD (w.drewN q) base A n c d := h
set_option maxRecDepth 100000 in
theorem order2_any (base : Nat) (A : Option Addr) (n c : Nat) (d : Array Nat) (a b s g : Nat) (w : World) (h : RowD w base A n c d) (ha : a < n) (hb : b < n) (hn : n ≤ 1000) (hs : s ≤ 1000) (hk : Blk w g [.int .i64 (s : Int)] 3) :
    Calls Tryz.prog 98 #[.slice A n c, .int .i64 (a : Int), .int .i64 (b : Int), .pointer (some ⟨g, 0, none⟩)] w fun e w' => e = .returned (.tuple #[.int .i64 ((Go.Sort.order2 ltB d a b s).1 : Int), .int .i64 ((Go.Sort.order2 ltB d a b s).2.1 : Int)]) ∧ Blk w' g [.int .i64 ((Go.Sort.order2 ltB d a b s).2.2 : Int)] 3 ∧ Upd (fun k => k = g) w w' := by
  obtain ⟨r, rfl, hbr, c0, f0⟩ := h.spot ha
  obtain ⟨r1, e1, -, c1, f1⟩ := h.spot hb
  obtain rfl : r = r1 := congrArg Addr.block (Option.some.inj e1)
  have CL := kept (fun W => SortW.less_any (d[b]!) (d[a]!) (ltB (d[b]!) (d[a]!)) rfl W)
  have hai : (a : Int) < (n : Int) := by omega
  have hbi : (b : Int) < (n : Int) := by omega
  unfold Go.Sort.order2
  generalize ltB (d[b]!) (d[a]!) = q at *
  generalize d[b]! = vb at *
  generalize d[a]! = va at *
  have z0 : ∀ m, (w.drewN m).cell? ⟨g, 0, none⟩ = some (.int .i64 (s : Int)) := fun m => hk.cell (j := 0) rfl
  have z1 : ∀ m, (w.drewN m).frozen? ⟨g, 0, none⟩ = false := fun m => hk.frozen 0
  have HK := kept (fun m => (Blk.drewN hk m))
  clear h e1 hk
  cases q with
  | false =>
    go_enter Tryz.func98, Tryz.ntmps98
    go_wp2_with fail
    go_quiet (first | (go_at_call 66; exact Calls.quiet_of_same (CL.out _)))
    go_wp2_with fail
    exact bodyPost_ret (v := .tuple #[.int .i64 (a : Int), .int .i64 (b : Int)]) (by simp [results, Tryz.results98]) rfl ⟨rfl, HK.out _, (Upd.refl _ _).drewN _⟩
  | true =>
    go_enter Tryz.func98, Tryz.ntmps98
    go_wp2_with fail
    go_quiet (first | (go_at_call 66; exact Calls.quiet_of_same (CL.out _)))
    go_wp2_with fail
    exact bodyPost_ret (v := .tuple #[.int .i64 (b : Int), .int .i64 (a : Int)]) (by simp [results, Tryz.results98]) rfl ⟨rfl, (HK.out _).set 0 _, (by have hu := ((Upd.refl (fun k => k = g) w).drewN nq).setCell (p := ⟨g, 0, none⟩) (.inl rfl) (.int .i64 ((s : Int) + 1)); exact hu)⟩
end Go.Proofs.YtfkfpanhbanljaaGreat.SortQ

/- Sorting numbers: median of three places. (printed by tools/genqd.py) -/
namespace Go.Proofs.YtfkfpanhbanljaaGreat.SortQ
open Go.Proofs.YtfkfpanhbanljaaGreat.SortW Go.Proofs.YtfkfpanhbanljaaGreat.SortY Go.RowKit Go.Proofs.YtfkfpanhbanljaaGreat.Mem

theorem RowD.apart {w w' : World} {base : Nat} {A : Option Addr} {n c g : Nat} {d : Array Nat} {cs : List Value} (h : RowD w base A n c d) (hk : Blk w g cs 3) (hu : Upd (fun k => k = g) w w') : RowD w' base A n c d := by
  refine ⟨h.1, word_own.2 ((word_own.1 h.2).upd hu fun k hk2 e => ?_)⟩
  have h1 := OwnK.apartB (word_own.1 h.2) hk (by decide)
  subst e
  rcases h1 with h1 | h1
  · rw [h1] at hk2; cases hk2
  · exact h1 hk2
set_option maxRecDepth 100000 in
theorem median_any (base : Nat) (A : Option Addr) (n c : Nat) (d : Array Nat) (a b k s g : Nat) (w : World) (h : RowD w base A n c d) (ha : a < n) (hb : b < n) (hc : k < n) (hn : n ≤ 1000) (hs : s ≤ 100) (hk : Blk w g [.int .i64 (s : Int)] 3) :
    Calls Tryz.prog 84 #[.slice A n c, .int .i64 (a : Int), .int .i64 (b : Int), .int .i64 (k : Int), .pointer (some ⟨g, 0, none⟩)] w fun e w' => e = .returned (.int .i64 ((Go.Sort.median ltB d a b k s).1 : Int)) ∧ (Go.Sort.median ltB d a b k s).1 < n ∧ Blk w' g [.int .i64 ((Go.Sort.median ltB d a b k s).2 : Int)] 3 ∧ Upd (fun k => k = g) w w' := by
  have C1 := kept (order2_any base A n c d a b s g w h ha hb hn (by omega) hk)
  have HR := kept h
  have HK := kept hk
  unfold Go.Sort.median
  have i1 := order2_in d a b s ha hb
  generalize Go.Sort.order2 ltB d a b s = r1 at *
  obtain ⟨p1, q1, s1⟩ := r1
  dsimp only at C1 i1 ⊢
  have C2 : Kept (∀ W, RowD W base A n c d → Blk W g [.int .i64 (s1 : Int)] 3 → _) := ⟨fun W hr hk => order2_any base A n c d q1 k s1 g W hr i1.2.1 hc hn (by omega) hk⟩
  have i2 := order2_in d q1 k s1 i1.2.1 hc
  generalize Go.Sort.order2 ltB d q1 k s1 = r2 at *
  obtain ⟨p2, q2, s2⟩ := r2
  dsimp only at C2 i2 ⊢
  have C3 : Kept (∀ W, RowD W base A n c d → Blk W g [.int .i64 (s2 : Int)] 3 → _) := ⟨fun W hr hk => order2_any base A n c d p1 p2 s2 g W hr i1.1 i2.1 hn (by omega) hk⟩
  have i3 := order2_in d p1 p2 s2 i1.1 i2.1
  generalize Go.Sort.order2 ltB d p1 p2 s2 = r3 at *
  obtain ⟨p3, q3, s3⟩ := r3
  dsimp only at C3 i3 ⊢
  clear h hk
  go_enter Tryz.func84, Tryz.ntmps84
  go_wp2_with fail
  refine C1.out.mono ?_
  rintro e w1 ⟨rfl, k1, u1⟩
  have HR1 := kept (HR.out.apart HK.out u1)
  have HK1 := kept k1
  have HU1 := kept u1
  clear k1 u1 C1
  go_wp2_with fail
  refine (C2.out _ HR1.out HK1.out).mono ?_
  rintro e w2 ⟨rfl, k2, u2⟩
  have HR2 := kept (HR1.out.apart HK1.out u2)
  have HK2 := kept k2
  have HU2 := kept (HU1.out.trans u2)
  clear k2 u2 C2
  go_wp2_with fail
  refine (C3.out _ HR2.out HK2.out).mono ?_
  rintro e w3 ⟨rfl, k3, u3⟩
  have HK3 := kept k3
  have HU3 := kept (HU2.out.trans u3)
  clear k3 u3 C3
  go_wp2_with fail
  go_ret
  exact ⟨rfl, i3.2.1, HK3.out, HU3.out⟩
end Go.Proofs.YtfkfpanhbanljaaGreat.SortQ

/- Sorting numbers: the choice of a pivot, among 8 to 49 bytes. (printed by tools/genqd.py) -/
namespace Go.Proofs.YtfkfpanhbanljaaGreat.SortQ
open Go.Proofs.YtfkfpanhbanljaaGreat.SortW Go.Proofs.YtfkfpanhbanljaaGreat.SortY Go.RowKit Go.Proofs.YtfkfpanhbanljaaGreat.Mem

set_option maxRecDepth 100000 in
set_option maxHeartbeats 1000000 in
theorem pivot_any (base : Nat) (A : Option Addr) (n c : Nat) (d : Array Nat) (a l : Nat) (w : World) (h : RowD w base A n c d) (h8 : 8 ≤ l) (h50 : l < 50) (hb : a + l ≤ n) (hn : n ≤ 1000) :
    Calls Tryz.prog 63 #[.slice A n c, .int .i64 (a : Int), .int .i64 ((a : Int) + (l : Int))] w fun e w' => e = .returned (.tuple #[.int .i64 ((Go.Sort.choosePivot ltB d a (a + l)).1 : Int), .int .i64 (hintN (Go.Sort.choosePivot ltB d a (a + l)).2)]) ∧ (Go.Sort.choosePivot ltB d a (a + l)).1 < n ∧ Below w.heap.size w w' := by
  have hnb : Below w.heap.size w (w.alloc (.cells #[.int .i64 0] 3)) := (Below.refl _ _).alloc (Nat.le_refl _) _
  have hr2 : RowD (w.alloc (.cells #[.int .i64 0] 3)) base A n c d := ⟨h.1, word_own.2 ((word_own.1 h.2).next hnb)⟩
  have CM := median_any base A n c d (a + l / 4 * 1) (a + l / 4 * 2) (a + l / 4 * 3) 0 w.heap.size _ hr2 (by omega) (by omega) (by omega) hn (by omega) (Blk.new w [.int .i64 0] 3)
  unfold Go.Sort.choosePivot
  rw [show a + l - a = l by omega]
  simp only [ge_iff_le, if_pos h8, if_neg (show ¬ 50 ≤ l by omega)]
  generalize Go.Sort.median ltB d (a + l / 4 * 1) (a + l / 4 * 2) (a + l / 4 * 3) 0 = r at *
  obtain ⟨p, s⟩ := r
  dsimp only at CM ⊢
  have CM := kept CM
  have HB := kept hnb
  have q1 : Int.tdiv (l : Int) 4 = ((l / 4 : Nat) : Int) := (Int.ofNat_tdiv l 4).symm
  have hli : (8 : Int) ≤ (l : Int) := by omega
  have hl5 : ¬ (50 : Int) ≤ (l : Int) := by omega
  have hlw : IntKind.i64.wrap (l : Int) = (l : Int) := IntWalk.i64_in _ (by omega)
  clear h hr2 hnb
  go_enter Tryz.func63, Tryz.ntmps63
  go_wp2_with fail
  rw [show (a : Int) + ((a : Int) + (l : Int) - (a : Int)) / 4 = ((a + l / 4 * 1 : Nat) : Int) by omega, show (a : Int) + ((a : Int) + (l : Int) - (a : Int)) / 4 * 2 = ((a + l / 4 * 2 : Nat) : Int) by omega, show (a : Int) + ((a : Int) + (l : Int) - (a : Int)) / 4 * 3 = ((a + l / 4 * 3 : Nat) : Int) by omega]
  refine CM.out.mono ?_
  rintro e w1 ⟨rfl, hp, k1, u1⟩
  have z0 := k1.cell (j := 0) rfl
  have HB1 : Kept (Below w.heap.size w w1) := ⟨HB.out.trans (u1.below HB.out.size fun k _ hk => by rw [hk]; exact Nat.le_refl _)⟩
  clear k1 u1 CM HB
  by_cases h0 : s = 0
  · subst h0
    go_wp2_with fail
    exact bodyPost_ret (v := .tuple #[.int .i64 (p : Int), .int .i64 1]) (by simp [results, Tryz.results63]) rfl (by first | exact ⟨rfl, HB1.out⟩ | exact ⟨rfl, hp, HB1.out⟩)
  · by_cases h12 : s = 12
    · subst h12
      go_wp2_with fail
      exact bodyPost_ret (v := .tuple #[.int .i64 (p : Int), .int .i64 2]) (by simp [results, Tryz.results63]) rfl (by first | exact ⟨rfl, HB1.out⟩ | exact ⟨rfl, hp, HB1.out⟩)
    · have e0 : ((s : Int) == 0) = false := beq_eq_false_iff_ne.2 (by omega)
      have e1 : ((s : Int) == 12) = false := beq_eq_false_iff_ne.2 (by omega)
      have e2 : ¬ (s : Int) = 0 := by omega
      have e3 : ¬ (s : Int) = 12 := by omega
      go_wp2_with fail
      exact bodyPost_ret (v := .tuple #[.int .i64 (p : Int), .int .i64 0]) (by simp [results, Tryz.results63]) rfl (by first | exact ⟨by simp [h0, h12, hintN], HB1.out⟩ | exact ⟨by simp [h0, h12, hintN], hp, HB1.out⟩)
end Go.Proofs.YtfkfpanhbanljaaGreat.SortQ

/- Sorting numbers: a range turned round. (printed by tools/genqd.py) -/
namespace Go.Proofs.YtfkfpanhbanljaaGreat.SortQ
open Go.Proofs.YtfkfpanhbanljaaGreat.SortW Go.Proofs.YtfkfpanhbanljaaGreat.SortY Go.RowKit Go.Proofs.YtfkfpanhbanljaaGreat.Mem

theorem RowD.drew {w : World} {base : Nat} {A : Option Addr} {n c : Nat} {d : Array Nat} (h : RowD w base A n c d) : RowD w.drew base A n c d := h
set_option maxRecDepth 100000 in
set_option maxHeartbeats 1000000 in
theorem rev_any (base : Nat) (A : Option Addr) (n c : Nat) (d : Array Nat) (a b : Nat) (w : World) (h : RowD w base A n c d) (hab : a < b) (hb : b ≤ n) (hn : n ≤ 1000) :
    Calls Tryz.prog 64 #[.slice A n c, .int .i64 (a : Int), .int .i64 (b : Int)] w fun e w' => e = .returned (.tuple #[]) ∧ RowD w' base A n c (Go.Sort.reverseRange d a b) ∧ Upd (fun k => (Value.slice A n c).ownBlock = some k) w w' := by
  obtain ⟨T, hT⟩ : ∃ T, Go.Sort.reverseRange d a b = T := ⟨_, rfl⟩
  rw [hT]
  have HT : Kept (Go.Sort.reverseLoop a (b - 1) d = T) := ⟨hT⟩
  have H := kept h
  obtain ⟨m, rfl⟩ : ∃ m, b = m + 1 := ⟨b - 1, by omega⟩
  rw [Nat.add_sub_cancel] at HT
  clear h hT
  go_enter Tryz.func64, Tryz.ntmps64
  have hw0 : IntKind.i64.wrap (m : Int) = (m : Int) := IntWalk.i64_in _ (by omega)
  go_wp2_with fail
  clear hw0
  go_loopw [6, 7] (fun i j wr => ∃ (p q : Nat) (d2 : Array Nat), p ≤ n ∧ q < n ∧ i = .int .i64 (p : Int) ∧ j = .int .i64 (q : Int) ∧ Kept (Go.Sort.reverseLoop p q d2 = T) ∧ Kept (RowD wr base A n c d2) ∧ Kept (Upd (fun k => (Value.slice A n c).ownBlock = some k) w wr)) (fun i j _ => (intOf j).toNat + 1 - (intOf i).toNat)
  case atStart => exact ⟨a, m, d, by omega, by omega, rfl, by go_num, HT, H, ⟨Upd.refl _ _⟩⟩
  case round =>
    clear H HT
    obtain ⟨p, q, d2, hp, hq, rfl, rfl, HT, H, HU⟩ := hrel
    by_cases hpq : p < q
    · have hpi : (p : Int) < (q : Int) := by omega
      obtain ⟨r, rfl, hbr, c0, f0⟩ := H.out.spot (k := p) (by omega)
      obtain ⟨r1, e1, -, c1, f1⟩ := H.out.spot (k := q) hq
      obtain rfl : r = r1 := congrArg Addr.block (Option.some.inj e1)
      have HT2 : Kept (Go.Sort.reverseLoop (p + 1) (q - 1) (Go.Sort.swp d2 p q) = T) := ⟨by
        rw [← HT.out, Go.Sort.reverseLoop.eq_1 p q d2, if_pos hpq]⟩
      have H2 := kept (H.out.drew.swp (i := p) (j := q) (by omega) hq)
      have HU2 : Kept (Upd (fun k => (Value.slice (some ⟨r, 0, none⟩) n c).ownBlock = some k) w ((wr.drew.setCell ⟨r, p, none⟩ (.int .u64 ((d2[q]! : Nat) : Int))).setCell ⟨r, q, none⟩ (.int .u64 ((d2[p]! : Nat) : Int)))) := ⟨(HU.out.drew.setCell (p := ⟨r, p, none⟩) (.inl rfl) _).setCell (p := ⟨r, q, none⟩) (.inl rfl) _⟩
      have hpn : (p : Int) < (n : Int) := by omega
      have hqn : (q : Int) < (n : Int) := by omega
      have hne : ¬ p = q := by omega
      have hne2 : ¬ q = p := by omega
      generalize d2[q]! = vq at *
      generalize d2[p]! = vp at *
      generalize Go.Sort.swp d2 p q = d3 at *
      clear e1 H HU HT
      go_wp2_with fail
      go_region
      all_goals go_wp2_with fail
      all_goals go_roundw
      all_goals first | exact ⟨p + 1, q - 1, d3, by omega, by omega, by go_num, by go_num, HT2, H2, HU2⟩ | (simp [intOf]; omega)
    · have hge : ¬ (p : Int) < (q : Int) := by omega
      have HF : Kept (d2 = T) := ⟨by rw [← HT.out, Go.Sort.reverseLoop.eq_1 p q d2, if_neg hpq]⟩
      obtain rfl := HF.out
      go_wp2_with fail
      go_end0
      exact ⟨rfl, H.out, HU.out⟩
end Go.Proofs.YtfkfpanhbanljaaGreat.SortQ

/- Sorting numbers: plain words for the walks that follow: each loop's step and end, as the walk spells its tests. (printed by tools/genqd.py) -/
namespace Go.Proofs.YtfkfpanhbanljaaGreat.SortQ
open Go.Proofs.YtfkfpanhbanljaaGreat.SortW Go.Proofs.YtfkfpanhbanljaaGreat.SortY Go.RowKit Go.Proofs.YtfkfpanhbanljaaGreat.Mem

/-- a row holds d, and but for the row nothing that was there has turned -/
structure PS (base : Nat) (A : Option Addr) (n c : Nat) (w wr : World) (d : Array Nat) : Prop where
  row : RowD wr base A n c d
  upd : Upd (fun k => (Value.slice A n c).ownBlock = some k) w wr
section
variable {base : Nat} {A : Option Addr} {n c g : Nat} {w wr w1 w2 : World} {d d2 : Array Nat}
theorem PS.start (h : RowD w base A n c d) : PS base A n c w w d := ⟨h, Upd.refl _ _⟩
theorem PS.drew (h : PS base A n c w wr d) : PS base A n c w wr.drew d := ⟨h.row.drew, h.upd.drew⟩
theorem PS.drewN (h : PS base A n c w wr d) (q : Nat) : PS base A n c w (wr.drewN q) d := ⟨h.row.drewN q, h.upd.drewN q⟩
theorem PS.trans (h : PS base A n c w w1 d) (k : PS base A n c w1 w2 d2) : PS base A n c w w2 d2 := ⟨k.row, h.upd.trans k.upd⟩
theorem PS.ad (h : PS base A n c w wr d) (hn : 0 < n) : ∃ g, A = some ⟨g, 0, none⟩ := by
  obtain ⟨g, h1, -⟩ := h.row.spot hn
  exact ⟨g, h1⟩
theorem PS.at (h : PS base (some ⟨g, 0, none⟩) n c w wr d) {k : Nat} (hk : k < n) : wr.cell? ⟨g, k, none⟩ = some (.int .u64 ((d[k]! : Nat) : Int)) ∧ wr.frozen? ⟨g, k, none⟩ = false := by
  obtain ⟨g1, h1, -, h2, h3⟩ := h.row.spot hk
  obtain rfl : g = g1 := congrArg Addr.block (Option.some.inj h1)
  exact ⟨h2, h3⟩
theorem PS.swp (h : PS base (some ⟨g, 0, none⟩) n c w wr d) {i j : Nat} (hi : i < n) (hj : j < n) : PS base (some ⟨g, 0, none⟩) n c w ((wr.setCell ⟨g, i, none⟩ (.int .u64 ((d[j]! : Nat) : Int))).setCell ⟨g, j, none⟩ (.int .u64 ((d[i]! : Nat) : Int))) (Go.Sort.swp d i j) :=
  ⟨h.row.swp hi hj, (h.upd.setCell (p := ⟨g, i, none⟩) (.inl rfl) _).setCell (p := ⟨g, j, none⟩) (.inl rfl) _⟩
theorem PS.size (h : PS base A n c w wr d) : d.size = n := h.row.1
end
section
variable {d : Array Nat} {a b i j : Nat} {p : Nat → Bool}
end
end Go.Proofs.YtfkfpanhbanljaaGreat.SortQ

/- Sorting numbers: breakPatterns (a permutation, whatever the generator gives). (printed by tools/genqd.py) -/
namespace Go.Proofs.YtfkfpanhbanljaaGreat.SortQ
open Go.Proofs.YtfkfpanhbanljaaGreat.SortW Go.Proofs.YtfkfpanhbanljaaGreat.SortY Go.RowKit Go.Proofs.YtfkfpanhbanljaaGreat.Mem Go.Proofs.YtfkfpanhbanljaaGreat.Shift

/-- what a generator beside the row adds to the row's state -/
structure BS (base : Nat) (A : Option Addr) (n c g : Nat) (w wr : World) (d : Array Nat) (x : Nat) : Prop where
  ps : PS base A n c w wr d
  blk : Blk wr g [.int .u64 (x : Int)] 126
  lt : x < 18446744073709551616
  new : w.heap.size ≤ g
section
variable {base : Nat} {A : Option Addr} {n c g r : Nat} {w wr w2 : World} {d : Array Nat} {x y : Nat}
theorem PS.alloc (h : PS base A n c w wr d) (o : Obj) : PS base A n c w (wr.alloc o) d := ⟨⟨h.row.1, word_own.2 ((word_own.1 h.row.2).next ((Below.refl _ _).alloc (Nat.le_refl _) o))⟩, h.upd.alloc o⟩
theorem BS.ne (h : BS base (some ⟨r, 0, none⟩) n c g w wr d x) : r ≠ g := by
  have h1 := OwnK.apartB (word_own.1 h.ps.row.2) h.blk (by decide)
  intro e
  subst e
  rcases h1 with h1 | h1
  · cases h1
  · exact h1 rfl
theorem BS.next (h : BS base (some ⟨r, 0, none⟩) n c g w wr d x) (hb : Blk w2 g [.int .u64 (y : Int)] 126) (hy : y < 18446744073709551616) (hu : Upd (fun k => k = g) wr w2) : BS base (some ⟨r, 0, none⟩) n c g w w2 d y :=
  ⟨⟨⟨h.ps.row.1, word_own.2 ((word_own.1 h.ps.row.2).upd hu fun k hk e => h.ne ((Option.some.inj hk).trans e))⟩, h.ps.upd.join hu fun i hi e => by have := h.new; omega⟩, hb, hy, h.new⟩
theorem BS.drew (h : BS base A n c g w wr d x) : BS base A n c g w wr.drew d x := ⟨h.ps.drew, h.blk, h.lt, h.new⟩
theorem BS.swp (h : BS base (some ⟨r, 0, none⟩) n c g w wr d x) {i j : Nat} (hi : i < n) (hj : j < n) : BS base (some ⟨r, 0, none⟩) n c g w ((wr.setCell ⟨r, i, none⟩ (.int .u64 ((d[j]! : Nat) : Int))).setCell ⟨r, j, none⟩ (.int .u64 ((d[i]! : Nat) : Int))) (Go.Sort.swp d i j) x :=
  ⟨h.ps.swp hi hj, h.blk.upd ((PS.start h.ps.row).swp hi hj).upd (fun e => h.ne (Option.some.inj e)), h.lt, h.new⟩
end
end Go.Proofs.YtfkfpanhbanljaaGreat.SortQ
