import Derived.Test.YtfkfpanhbanljaaDoorSet42
import Derived.Test.YtfkfpanhbanljaaDoorSet13
import Derived.Sort.AssemblyPlain
import Derived.BigQuiet
import Derived.Test.YtfkfpanhbanljaaDoorSortYC
import Derived.Deep.DeepCutAuto
import Derived.BigRegion
import Derived.Test.YtfkfpanhbanljaaDoorSet17
import Derived.Test.YtfkfpanhbanljaaDoorShiftRaw
/- Sorting bytes, 13 and more of them: the kit's plain layer Sort.pdq over a row of bytes of one's own: a swap; order2, median (they read the row and count in a cell). -/
namespace Go.Proofs.YtfkfpanhbanljaaDoor.SortY
open Go.RowKit Go.Proofs.YtfkfpanhbanljaaDoor.Mem

/-- the order of bytes -/
def ltB (x y : Nat) : Bool := decide (x < y)
/-- a row of one's own that holds these bytes -/
def RowD (w : World) (base : Nat) (A : Option Addr) (n c : Nat) (d : Array Nat) : Prop := d.size = n ∧ Own w base 5 (.slice A n c) (BB d.toList)
theorem getD_bang (d : Array Nat) (k : Nat) : d.toList.getD k 0 = d[k]! := by
  rcases Nat.lt_or_ge k d.size with h | h
  · simp [List.getD, h]
  · simp [List.getD, h]
theorem RowD.spot {w : World} {base : Nat} {A : Option Addr} {n c : Nat} {d : Array Nat} (h : RowD w base A n c d) {k : Nat} (hk : k < n) :
    ∃ g, A = some ⟨g, 0, none⟩ ∧ base ≤ g ∧ w.cell? ⟨g, k, none⟩ = some (.int .u8 ((d[k]! : Nat) : Int)) ∧ w.frozen? ⟨g, k, none⟩ = false := by
  obtain ⟨g, h1, h2, h3, h4, -⟩ := byte_spot h.2 (k := k) (by rw [Array.length_toList, h.1]; exact hk)
  rw [getD_bang] at h3
  exact ⟨g, h1, h2, h3, h4⟩
theorem RowD.put {w : World} {base g : Nat} {n c : Nat} {d : Array Nat} (h : RowD w base (some ⟨g, 0, none⟩) n c d) {k : Nat} (hk : k < n) (v : Nat) : RowD (w.setCell ⟨g, k, none⟩ (.int .u8 (v : Int))) base (some ⟨g, 0, none⟩) n c (d.setIfInBounds k v) := by
  obtain ⟨g1, h1, -, -, -, h5⟩ := byte_spot h.2 (k := k) (by rw [Array.length_toList, h.1]; exact hk)
  obtain rfl : g = g1 := congrArg Addr.block (Option.some.inj h1)
  refine ⟨by rw [Array.size_setIfInBounds, h.1], ?_⟩
  have := h5 v
  rw [Array.toList_setIfInBounds]
  exact this
theorem RowD.swp {w : World} {base g : Nat} {n c : Nat} {d : Array Nat} (h : RowD w base (some ⟨g, 0, none⟩) n c d) {i j : Nat} (hi : i < n) (hj : j < n) : RowD ((w.setCell ⟨g, i, none⟩ (.int .u8 ((d[j]! : Nat) : Int))).setCell ⟨g, j, none⟩ (.int .u8 ((d[i]! : Nat) : Int))) base (some ⟨g, 0, none⟩) n c (Go.Sort.swp d i j) := (h.put hi _).put hj _
theorem RowD.drewN {w : World} {base : Nat} {A : Option Addr} {n c : Nat} {d : Array Nat} (h : RowD w base A n c d) (q : Nat) : RowD (w.drewN q) base A n c d := h
set_option maxRecDepth 100000 in
theorem order2_any (base : Nat) (A : Option Addr) (n c : Nat) (d : Array Nat) (a b s g : Nat) (w : World) (h : RowD w base A n c d) (ha : a < n) (hb : b < n) (hn : n ≤ 1000) (hs : s ≤ 1000) (hk : Blk w g [.int .i64 (s : Int)] 3) :
    Calls Tryd.prog 166 #[.slice A n c, .int .i64 (a : Int), .int .i64 (b : Int), .pointer (some ⟨g, 0, none⟩)] w fun e w' => e = .returned (.tuple #[.int .i64 ((Go.Sort.order2 ltB d a b s).1 : Int), .int .i64 ((Go.Sort.order2 ltB d a b s).2.1 : Int)]) ∧ Blk w' g [.int .i64 ((Go.Sort.order2 ltB d a b s).2.2 : Int)] 3 ∧ Upd (fun k => k = g) w w' := by
  obtain ⟨r, rfl, hbr, c0, f0⟩ := h.spot ha
  obtain ⟨r1, e1, -, c1, f1⟩ := h.spot hb
  obtain rfl : r = r1 := congrArg Addr.block (Option.some.inj e1)
  have CL := kept (fun W => less_any (d[b]!) (d[a]!) (ltB (d[b]!) (d[a]!)) rfl W)
  have hai : (a : Int) < (n : Int) := by omega
  have hbi : (b : Int) < (n : Int) := by omega
  unfold Go.Sort.order2
  generalize ltB (d[b]!) (d[a]!) = q at *
  generalize d[b]! = vb at *
  generalize d[a]! = va at *
  have z0 : ∀ m, (w.drewN m).cell? ⟨g, 0, none⟩ = some (.int .i64 (s : Int)) := fun m => hk.cell (j := 0) rfl
  have z1 : ∀ m, (w.drewN m).frozen? ⟨g, 0, none⟩ = false := fun m => hk.frozen 0
  have HK := kept (fun m => (Blk.drewN hk m))
  clear h e1 hk
  cases q with
  | false =>
    go_enter Tryd.func166, Tryd.ntmps166
    go_wp2_with fail
    go_quiet (first | (go_at_call 106; exact Calls.quiet_of_same (CL.out _)))
    go_wp2_with fail
    exact bodyPost_ret (v := .tuple #[.int .i64 (a : Int), .int .i64 (b : Int)]) (by simp [results, Tryd.results166]) rfl ⟨rfl, HK.out _, (Upd.refl _ _).drewN _⟩
  | true =>
    go_enter Tryd.func166, Tryd.ntmps166
    go_wp2_with fail
    go_quiet (first | (go_at_call 106; exact Calls.quiet_of_same (CL.out _)))
    go_wp2_with fail
    exact bodyPost_ret (v := .tuple #[.int .i64 (b : Int), .int .i64 (a : Int)]) (by simp [results, Tryd.results166]) rfl ⟨rfl, (HK.out _).set 0 _, (by have hu := ((Upd.refl (fun k => k = g) w).drewN nq).setCell (p := ⟨g, 0, none⟩) (.inl rfl) (.int .i64 ((s : Int) + 1)); exact hu)⟩
end Go.Proofs.YtfkfpanhbanljaaDoor.SortY

/- Sorting bytes: median of three places. -/
namespace Go.Proofs.YtfkfpanhbanljaaDoor.SortY
open Go.RowKit Go.Proofs.YtfkfpanhbanljaaDoor.Mem

theorem RowD.apart {w w' : World} {base : Nat} {A : Option Addr} {n c g : Nat} {d : Array Nat} {cs : List Value} (h : RowD w base A n c d) (hk : Blk w g cs 3) (hu : Upd (fun k => k = g) w w') : RowD w' base A n c d := by
  refine ⟨h.1, byte_own.2 ((byte_own.1 h.2).upd hu fun k hk2 e => ?_)⟩
  have h1 := OwnK.apartB (byte_own.1 h.2) hk (by decide)
  subst e
  rcases h1 with h1 | h1
  · rw [h1] at hk2; cases hk2
  · exact h1 hk2
theorem order2_in (d : Array Nat) (a b s : Nat) {n : Nat} (ha : a < n) (hb : b < n) : (Go.Sort.order2 ltB d a b s).1 < n ∧ (Go.Sort.order2 ltB d a b s).2.1 < n ∧ (Go.Sort.order2 ltB d a b s).2.2 ≤ s + 1 := by
  unfold Go.Sort.order2
  split
  · exact ⟨hb, ha, Nat.le_refl _⟩
  · exact ⟨ha, hb, Nat.le_succ _⟩
set_option maxRecDepth 100000 in
theorem median_any (base : Nat) (A : Option Addr) (n c : Nat) (d : Array Nat) (a b k s g : Nat) (w : World) (h : RowD w base A n c d) (ha : a < n) (hb : b < n) (hc : k < n) (hn : n ≤ 1000) (hs : s ≤ 100) (hk : Blk w g [.int .i64 (s : Int)] 3) :
    Calls Tryd.prog 138 #[.slice A n c, .int .i64 (a : Int), .int .i64 (b : Int), .int .i64 (k : Int), .pointer (some ⟨g, 0, none⟩)] w fun e w' => e = .returned (.int .i64 ((Go.Sort.median ltB d a b k s).1 : Int)) ∧ (Go.Sort.median ltB d a b k s).1 < n ∧ Blk w' g [.int .i64 ((Go.Sort.median ltB d a b k s).2 : Int)] 3 ∧ Upd (fun k => k = g) w w' := by
  have C1 := kept (order2_any base A n c d a b s g w h ha hb hn (by omega) hk)
  have HR := kept h
  have HK := kept hk
  unfold Go.Sort.median
  have i1 := order2_in d a b s ha hb
  generalize Go.Sort.order2 ltB d a b s = r1 at *
  obtain ⟨p1, q1, s1⟩ := r1
  dsimp only at C1 i1 ⊢
  have C2 : Kept (∀ W, RowD W base A n c d → Blk W g [.int .i64 (s1 : Int)] 3 → _) := ⟨fun W hr hk => order2_any base A n c d q1 k s1 g W hr i1.2.1 hc hn (by omega) hk⟩
  have i2 := order2_in d q1 k s1 i1.2.1 hc
  generalize Go.Sort.order2 ltB d q1 k s1 = r2 at *
  obtain ⟨p2, q2, s2⟩ := r2
  dsimp only at C2 i2 ⊢
  have C3 : Kept (∀ W, RowD W base A n c d → Blk W g [.int .i64 (s2 : Int)] 3 → _) := ⟨fun W hr hk => order2_any base A n c d p1 p2 s2 g W hr i1.1 i2.1 hn (by omega) hk⟩
  have i3 := order2_in d p1 p2 s2 i1.1 i2.1
  generalize Go.Sort.order2 ltB d p1 p2 s2 = r3 at *
  obtain ⟨p3, q3, s3⟩ := r3
  dsimp only at C3 i3 ⊢
  clear h hk
  go_enter Tryd.func138, Tryd.ntmps138
  go_wp2_with fail
  refine C1.out.mono ?_
  rintro e w1 ⟨rfl, k1, u1⟩
  have HR1 := kept (HR.out.apart HK.out u1)
  have HK1 := kept k1
  have HU1 := kept u1
  clear k1 u1 C1
  go_wp2_with fail
  refine (C2.out _ HR1.out HK1.out).mono ?_
  rintro e w2 ⟨rfl, k2, u2⟩
  have HR2 := kept (HR1.out.apart HK1.out u2)
  have HK2 := kept k2
  have HU2 := kept (HU1.out.trans u2)
  clear k2 u2 C2
  go_wp2_with fail
  refine (C3.out _ HR2.out HK2.out).mono ?_
  rintro e w3 ⟨rfl, k3, u3⟩
  have HK3 := kept k3
  have HU3 := kept (HU2.out.trans u3)
  clear k3 u3 C3
  go_wp2_with fail
  go_ret
  exact ⟨rfl, i3.2.1, HK3.out, HU3.out⟩
end Go.Proofs.YtfkfpanhbanljaaDoor.SortY

/- Sorting bytes: the choice of a pivot, among 8 to 49 bytes. -/
namespace Go.Proofs.YtfkfpanhbanljaaDoor.SortY
open Go.RowKit Go.Proofs.YtfkfpanhbanljaaDoor.Mem

def hintN : Go.Sort.Hint → Int
  | .unknown => 0
  | .increasing => 1
  | .decreasing => 2
set_option maxRecDepth 100000 in
set_option maxHeartbeats 1000000 in
theorem pivot_any (base : Nat) (A : Option Addr) (n c : Nat) (d : Array Nat) (a l : Nat) (w : World) (h : RowD w base A n c d) (h8 : 8 ≤ l) (h50 : l < 50) (hb : a + l ≤ n) (hn : n ≤ 1000) :
    Calls Tryd.prog 103 #[.slice A n c, .int .i64 (a : Int), .int .i64 ((a : Int) + (l : Int))] w fun e w' => e = .returned (.tuple #[.int .i64 ((Go.Sort.choosePivot ltB d a (a + l)).1 : Int), .int .i64 (hintN (Go.Sort.choosePivot ltB d a (a + l)).2)]) ∧ (Go.Sort.choosePivot ltB d a (a + l)).1 < n ∧ Below w.heap.size w w' := by
  have hnb : Below w.heap.size w (w.alloc (.cells #[.int .i64 0] 3)) := (Below.refl _ _).alloc (Nat.le_refl _) _
  have hr2 : RowD (w.alloc (.cells #[.int .i64 0] 3)) base A n c d := ⟨h.1, byte_own.2 ((byte_own.1 h.2).next hnb)⟩
  have CM := median_any base A n c d (a + l / 4 * 1) (a + l / 4 * 2) (a + l / 4 * 3) 0 w.heap.size _ hr2 (by omega) (by omega) (by omega) hn (by omega) (Blk.new w [.int .i64 0] 3)
  unfold Go.Sort.choosePivot
  rw [show a + l - a = l by omega]
  simp only [ge_iff_le, if_pos h8, if_neg (show ¬ 50 ≤ l by omega)]
  generalize Go.Sort.median ltB d (a + l / 4 * 1) (a + l / 4 * 2) (a + l / 4 * 3) 0 = r at *
  obtain ⟨p, s⟩ := r
  dsimp only at CM ⊢
  have CM := kept CM
  have HB := kept hnb
  have q1 : Int.tdiv (l : Int) 4 = ((l / 4 : Nat) : Int) := (Int.ofNat_tdiv l 4).symm
  have hli : (8 : Int) ≤ (l : Int) := by omega
  have hl5 : ¬ (50 : Int) ≤ (l : Int) := by omega
  have hlw : IntKind.i64.wrap (l : Int) = (l : Int) := IntWalk.i64_in _ (by omega)
  clear h hr2 hnb
  go_enter Tryd.func103, Tryd.ntmps103
  go_wp2_with fail
  rw [show (a : Int) + ((a : Int) + (l : Int) - (a : Int)) / 4 = ((a + l / 4 * 1 : Nat) : Int) by omega, show (a : Int) + ((a : Int) + (l : Int) - (a : Int)) / 4 * 2 = ((a + l / 4 * 2 : Nat) : Int) by omega, show (a : Int) + ((a : Int) + (l : Int) - (a : Int)) / 4 * 3 = ((a + l / 4 * 3 : Nat) : Int) by omega]
  refine CM.out.mono ?_
  rintro e w1 ⟨rfl, hp, k1, u1⟩
  have z0 := k1.cell (j := 0) rfl
  have HB1 : Kept (Below w.heap.size w w1) := ⟨HB.out.trans (u1.below HB.out.size fun k _ hk => by rw [hk]; exact Nat.le_refl _)⟩
  clear k1 u1 CM HB
  by_cases h0 : s = 0
  · subst h0
    go_wp2_with fail
    exact bodyPost_ret (v := .tuple #[.int .i64 (p : Int), .int .i64 1]) (by simp [results, Tryd.results103]) rfl (by first | exact ⟨rfl, HB1.out⟩ | exact ⟨rfl, hp, HB1.out⟩)
  · by_cases h12 : s = 12
    · subst h12
      go_wp2_with fail
      exact bodyPost_ret (v := .tuple #[.int .i64 (p : Int), .int .i64 2]) (by simp [results, Tryd.results103]) rfl (by first | exact ⟨rfl, HB1.out⟩ | exact ⟨rfl, hp, HB1.out⟩)
    · have e0 : ((s : Int) == 0) = false := beq_eq_false_iff_ne.2 (by omega)
      have e1 : ((s : Int) == 12) = false := beq_eq_false_iff_ne.2 (by omega)
      have e2 : ¬ (s : Int) = 0 := by omega
      have e3 : ¬ (s : Int) = 12 := by omega
      go_wp2_with fail
      exact bodyPost_ret (v := .tuple #[.int .i64 (p : Int), .int .i64 0]) (by simp [results, Tryd.results103]) rfl (by first | exact ⟨by simp [h0, h12, hintN], HB1.out⟩ | exact ⟨by simp [h0, h12, hintN], hp, HB1.out⟩)
end Go.Proofs.YtfkfpanhbanljaaDoor.SortY

/- Sorting bytes: a range turned round. -/
namespace Go.Proofs.YtfkfpanhbanljaaDoor.SortY
open Go.RowKit Go.Proofs.YtfkfpanhbanljaaDoor.Mem

theorem swp_size (d : Array Nat) (i j : Nat) : (Go.Sort.swp d i j).size = d.size := by unfold Go.Sort.swp; simp
theorem RowD.drew {w : World} {base : Nat} {A : Option Addr} {n c : Nat} {d : Array Nat} (h : RowD w base A n c d) : RowD w.drew base A n c d := h
set_option maxRecDepth 100000 in
set_option maxHeartbeats 1000000 in
theorem rev_any (base : Nat) (A : Option Addr) (n c : Nat) (d : Array Nat) (a b : Nat) (w : World) (h : RowD w base A n c d) (hab : a < b) (hb : b ≤ n) (hn : n ≤ 1000) :
    Calls Tryd.prog 104 #[.slice A n c, .int .i64 (a : Int), .int .i64 (b : Int)] w fun e w' => e = .returned (.tuple #[]) ∧ RowD w' base A n c (Go.Sort.reverseRange d a b) ∧ Upd (fun k => (Value.slice A n c).ownBlock = some k) w w' := by
  obtain ⟨T, hT⟩ : ∃ T, Go.Sort.reverseRange d a b = T := ⟨_, rfl⟩
  rw [hT]
  have HT : Kept (Go.Sort.reverseLoop a (b - 1) d = T) := ⟨hT⟩
  have H := kept h
  obtain ⟨m, rfl⟩ : ∃ m, b = m + 1 := ⟨b - 1, by omega⟩
  rw [Nat.add_sub_cancel] at HT
  clear h hT
  go_enter Tryd.func104, Tryd.ntmps104
  have hw0 : IntKind.i64.wrap (m : Int) = (m : Int) := IntWalk.i64_in _ (by omega)
  go_wp2_with fail
  clear hw0
  go_loopw [6, 7] (fun i j wr => ∃ (p q : Nat) (d2 : Array Nat), p ≤ n ∧ q < n ∧ i = .int .i64 (p : Int) ∧ j = .int .i64 (q : Int) ∧ Kept (Go.Sort.reverseLoop p q d2 = T) ∧ Kept (RowD wr base A n c d2) ∧ Kept (Upd (fun k => (Value.slice A n c).ownBlock = some k) w wr)) (fun i j _ => (intOf j).toNat + 1 - (intOf i).toNat)
  case atStart => exact ⟨a, m, d, by omega, by omega, rfl, by go_num, HT, H, ⟨Upd.refl _ _⟩⟩
  case round =>
    clear H HT
    obtain ⟨p, q, d2, hp, hq, rfl, rfl, HT, H, HU⟩ := hrel
    by_cases hpq : p < q
    · have hpi : (p : Int) < (q : Int) := by omega
      obtain ⟨r, rfl, hbr, c0, f0⟩ := H.out.spot (k := p) (by omega)
      obtain ⟨r1, e1, -, c1, f1⟩ := H.out.spot (k := q) hq
      obtain rfl : r = r1 := congrArg Addr.block (Option.some.inj e1)
      have HT2 : Kept (Go.Sort.reverseLoop (p + 1) (q - 1) (Go.Sort.swp d2 p q) = T) := ⟨by
        rw [← HT.out, Go.Sort.reverseLoop.eq_1 p q d2, if_pos hpq]⟩
      have H2 := kept (H.out.drew.swp (i := p) (j := q) (by omega) hq)
      have HU2 : Kept (Upd (fun k => (Value.slice (some ⟨r, 0, none⟩) n c).ownBlock = some k) w ((wr.drew.setCell ⟨r, p, none⟩ (.int .u8 ((d2[q]! : Nat) : Int))).setCell ⟨r, q, none⟩ (.int .u8 ((d2[p]! : Nat) : Int)))) := ⟨(HU.out.drew.setCell (p := ⟨r, p, none⟩) (.inl rfl) _).setCell (p := ⟨r, q, none⟩) (.inl rfl) _⟩
      have hpn : (p : Int) < (n : Int) := by omega
      have hqn : (q : Int) < (n : Int) := by omega
      have hne : ¬ p = q := by omega
      have hne2 : ¬ q = p := by omega
      generalize d2[q]! = vq at *
      generalize d2[p]! = vp at *
      generalize Go.Sort.swp d2 p q = d3 at *
      clear e1 H HU HT
      go_wp2_with fail
      go_region
      all_goals go_wp2_with fail
      all_goals go_roundw
      all_goals first | exact ⟨p + 1, q - 1, d3, by omega, by omega, by go_num, by go_num, HT2, H2, HU2⟩ | (simp [intOf]; omega)
    · have hge : ¬ (p : Int) < (q : Int) := by omega
      have HF : Kept (d2 = T) := ⟨by rw [← HT.out, Go.Sort.reverseLoop.eq_1 p q d2, if_neg hpq]⟩
      obtain rfl := HF.out
      go_wp2_with fail
      go_end0
      exact ⟨rfl, H.out, HU.out⟩
end Go.Proofs.YtfkfpanhbanljaaDoor.SortY

/- Sorting bytes: plain words for the walks that follow: each loop's step and end, as the walk spells its tests. -/
namespace Go.Proofs.YtfkfpanhbanljaaDoor.SortY
open Go.RowKit Go.Proofs.YtfkfpanhbanljaaDoor.Mem

theorem swoB : Go.Sort.SWO ltB where
  irrefl x := by simp [ltB]
  trans x y z h1 h2 := by simp [ltB] at *; omega
  ntrans x y z h1 h2 := by simp [ltB] at *; omega
/-- a row holds d, and but for the row nothing that was there has turned -/
structure PS (base : Nat) (A : Option Addr) (n c : Nat) (w wr : World) (d : Array Nat) : Prop where
  row : RowD wr base A n c d
  upd : Upd (fun k => (Value.slice A n c).ownBlock = some k) w wr
section
variable {base : Nat} {A : Option Addr} {n c g : Nat} {w wr w1 w2 : World} {d d2 : Array Nat}
theorem PS.start (h : RowD w base A n c d) : PS base A n c w w d := ⟨h, Upd.refl _ _⟩
theorem PS.drew (h : PS base A n c w wr d) : PS base A n c w wr.drew d := ⟨h.row.drew, h.upd.drew⟩
theorem PS.drewN (h : PS base A n c w wr d) (q : Nat) : PS base A n c w (wr.drewN q) d := ⟨h.row.drewN q, h.upd.drewN q⟩
theorem PS.trans (h : PS base A n c w w1 d) (k : PS base A n c w1 w2 d2) : PS base A n c w w2 d2 := ⟨k.row, h.upd.trans k.upd⟩
theorem PS.ad (h : PS base A n c w wr d) (hn : 0 < n) : ∃ g, A = some ⟨g, 0, none⟩ := by
  obtain ⟨g, h1, -⟩ := h.row.spot hn
  exact ⟨g, h1⟩
theorem PS.at (h : PS base (some ⟨g, 0, none⟩) n c w wr d) {k : Nat} (hk : k < n) : wr.cell? ⟨g, k, none⟩ = some (.int .u8 ((d[k]! : Nat) : Int)) ∧ wr.frozen? ⟨g, k, none⟩ = false := by
  obtain ⟨g1, h1, -, h2, h3⟩ := h.row.spot hk
  obtain rfl : g = g1 := congrArg Addr.block (Option.some.inj h1)
  exact ⟨h2, h3⟩
theorem PS.swp (h : PS base (some ⟨g, 0, none⟩) n c w wr d) {i j : Nat} (hi : i < n) (hj : j < n) : PS base (some ⟨g, 0, none⟩) n c w ((wr.setCell ⟨g, i, none⟩ (.int .u8 ((d[j]! : Nat) : Int))).setCell ⟨g, j, none⟩ (.int .u8 ((d[i]! : Nat) : Int))) (Go.Sort.swp d i j) :=
  ⟨h.row.swp hi hj, (h.upd.setCell (p := ⟨g, i, none⟩) (.inl rfl) _).setCell (p := ⟨g, j, none⟩) (.inl rfl) _⟩
theorem PS.size (h : PS base A n c w wr d) : d.size = n := h.row.1
end
section
variable {d : Array Nat} {a b i j : Nat} {p : Nat → Bool}
theorem io_stop (h : ¬ i < b) : Go.Sort.insOuter ltB a b i d = d := by rw [Go.Sort.insOuter, if_neg h]
theorem io_step (h : i < b) : Go.Sort.insOuter ltB a b i d = Go.Sort.insOuter ltB a b (i + 1) (Go.Sort.insInner ltB a i d) := by rw [Go.Sort.insOuter, if_pos h]
theorem ii_stop (h : a < j → ltB d[j]! d[j - 1]! = false) : Go.Sort.insInner ltB a j d = d := by
  cases j with
  | zero => rfl
  | succ j =>
    have hc : ¬ ((decide (j + 1 > a) && ltB d[j + 1]! d[j]!) = true) := by
      rw [Bool.and_eq_true]
      rintro ⟨h1, h2⟩
      have h3 := h (of_decide_eq_true h1)
      rw [Nat.add_sub_cancel, h2] at h3
      cases h3
    rw [Go.Sort.insInner, if_neg hc]
theorem ii_step (h : a < j) (h2 : ltB d[j]! d[j - 1]! = true) : Go.Sort.insInner ltB a j d = Go.Sort.insInner ltB a (j - 1) (Go.Sort.swp d j (j - 1)) := by
  cases j with
  | zero => omega
  | succ j =>
    rw [Nat.add_sub_cancel] at h2 ⊢
    have hc : (decide (j + 1 > a) && ltB d[j + 1]! d[j]!) = true := by rw [h2, decide_eq_true (by omega)]; rfl
    rw [Go.Sort.insInner, if_pos hc]
theorem su_stop (h : i ≤ j → p d[i]! = false) : Go.Sort.scanUp p d j i = i := by
  have hc : ¬ ((decide (i ≤ j) && p d[i]!) = true) := by
    rw [Bool.and_eq_true]
    rintro ⟨h1, h2⟩
    rw [h (of_decide_eq_true h1)] at h2
    cases h2
  rw [Go.Sort.scanUp, if_neg hc]
theorem su_step (h : i ≤ j) (h2 : p d[i]! = true) : Go.Sort.scanUp p d j i = Go.Sort.scanUp p d j (i + 1) := by
  have hc : (decide (i ≤ j) && p d[i]!) = true := by rw [h2, decide_eq_true h]; rfl
  rw [Go.Sort.scanUp.eq_1, if_pos hc]
theorem sd_stop (h : i ≤ j → p d[j]! = false) : Go.Sort.scanDown p d i j = j := by
  cases j with
  | zero => rfl
  | succ j =>
    have hc : ¬ ((decide (i ≤ j + 1) && p d[j + 1]!) = true) := by
      rw [Bool.and_eq_true]
      rintro ⟨h1, h2⟩
      rw [h (of_decide_eq_true h1)] at h2
      cases h2
    rw [Go.Sort.scanDown, if_neg hc]
theorem sd_step (h0 : 1 ≤ i) (h : i ≤ j) (h2 : p d[j]! = true) : Go.Sort.scanDown p d i j = Go.Sort.scanDown p d i (j - 1) := by
  cases j with
  | zero => omega
  | succ j =>
    have hc : (decide (i ≤ j + 1) && p d[j + 1]!) = true := by rw [h2, decide_eq_true h]; rfl
    rw [Go.Sort.scanDown, if_pos hc, Nat.add_sub_cancel]
theorem ss_stop (h : i < b → ltB d[i]! d[i - 1]! = true) : Go.Sort.scanSorted ltB d b i = i := by
  have hc : ¬ ((decide (i < b) && !ltB d[i]! d[i - 1]!) = true) := by
    rw [Bool.and_eq_true]
    rintro ⟨h1, h2⟩
    rw [h (of_decide_eq_true h1)] at h2
    cases h2
  rw [Go.Sort.scanSorted, if_neg hc]
theorem ss_step (h : i < b) (h2 : ltB d[i]! d[i - 1]! = false) : Go.Sort.scanSorted ltB d b i = Go.Sort.scanSorted ltB d b (i + 1) := by
  have hc : (decide (i < b) && !ltB d[i]! d[i - 1]!) = true := by rw [h2, decide_eq_true h]; rfl
  rw [Go.Sort.scanSorted.eq_1, if_pos hc]
theorem partial_eq (h : b - a < 50) : Go.Sort.partialInsertionSort ltB d a b = (d, decide (Go.Sort.scanSorted ltB d b (a + 1) = b)) := by
  unfold Go.Sort.partialInsertionSort
  rw [Go.Sort.partialIns_succ]
  by_cases e : Go.Sort.scanSorted ltB d b (a + 1) = b
  · simp [e]
  · simp [e, h]
end
/-- partition, by its phases -/
theorem part_one {d d0 : Array Nat} {a b v i j : Nat} (h0 : Go.Sort.swp d a v = d0) (h1 : Go.Sort.scanUp (fun x => ltB x d0[a]!) d0 (b - 1) (a + 1) = i) (h2 : Go.Sort.scanDown (fun x => !ltB x d0[a]!) d0 i (b - 1) = j) (h : i > j) :
    Go.Sort.partition ltB d a b v = (j, true, Go.Sort.swp d0 j a) := by
  subst h0; subst h1; subst h2
  unfold Go.Sort.partition
  exact if_pos h
theorem part_two {d d0 : Array Nat} {a b v i j : Nat} (h0 : Go.Sort.swp d a v = d0) (h1 : Go.Sort.scanUp (fun x => ltB x d0[a]!) d0 (b - 1) (a + 1) = i) (h2 : Go.Sort.scanDown (fun x => !ltB x d0[a]!) d0 i (b - 1) = j) (h : ¬ i > j) :
    Go.Sort.partition ltB d a b v = ((Go.Sort.partLoop ltB a (i + 1) (j - 1) (Go.Sort.swp d0 i j)).1, false, Go.Sort.swp (Go.Sort.partLoop ltB a (i + 1) (j - 1) (Go.Sort.swp d0 i j)).2 (Go.Sort.partLoop ltB a (i + 1) (j - 1) (Go.Sort.swp d0 i j)).1 a) := by
  subst h0; subst h1; subst h2
  unfold Go.Sort.partition
  exact if_neg h
theorem partl_end {d : Array Nat} {a i j i2 j2 : Nat} (h1 : Go.Sort.scanUp (fun x => ltB x d[a]!) d j i = i2) (h2 : Go.Sort.scanDown (fun x => !ltB x d[a]!) d i2 j = j2) (h : i2 > j2) : Go.Sort.partLoop ltB a i j d = (j2, d) := by
  subst h1; subst h2
  rw [Go.Sort.partLoop_eq, if_pos h]
theorem partl_step {d : Array Nat} {a i j i2 j2 : Nat} (h1 : Go.Sort.scanUp (fun x => ltB x d[a]!) d j i = i2) (h2 : Go.Sort.scanDown (fun x => !ltB x d[a]!) d i2 j = j2) (h : ¬ i2 > j2) : Go.Sort.partLoop ltB a i j d = Go.Sort.partLoop ltB a (i2 + 1) (j2 - 1) (Go.Sort.swp d i2 j2) := by
  subst h1; subst h2
  rw [Go.Sort.partLoop_eq ltB a i j d, if_neg h]
theorem parte_end {d : Array Nat} {a i j i2 j2 : Nat} (h1 : Go.Sort.scanUp (fun x => !ltB d[a]! x) d j i = i2) (h2 : Go.Sort.scanDown (fun x => ltB d[a]! x) d i2 j = j2) (h : i2 > j2) : Go.Sort.partEqLoop ltB a i j d = (i2, d) := by
  subst h1; subst h2
  rw [Go.Sort.partEqLoop_eq, if_pos h]
theorem parte_step {d : Array Nat} {a i j i2 j2 : Nat} (h1 : Go.Sort.scanUp (fun x => !ltB d[a]! x) d j i = i2) (h2 : Go.Sort.scanDown (fun x => ltB d[a]! x) d i2 j = j2) (h : ¬ i2 > j2) : Go.Sort.partEqLoop ltB a i j d = Go.Sort.partEqLoop ltB a (i2 + 1) (j2 - 1) (Go.Sort.swp d i2 j2) := by
  subst h1; subst h2
  rw [Go.Sort.partEqLoop_eq ltB a i j d, if_neg h]
theorem scanUp_in {p : Nat → Bool} {d : Array Nat} {i j : Nat} (h : i ≤ j + 1) : i ≤ Go.Sort.scanUp p d j i ∧ Go.Sort.scanUp p d j i ≤ j + 1 :=
  ⟨(Go.Sort.scanUp_spec p d j _ i rfl).1, (Go.Sort.scanUp_spec p d j _ i rfl).2.1 h⟩
theorem scanDown_in {p : Nat → Bool} {d : Array Nat} {i j : Nat} (h : i ≤ j + 1) : Go.Sort.scanDown p d i j ≤ j ∧ i ≤ Go.Sort.scanDown p d i j + 1 :=
  ⟨(Go.Sort.scanDown_spec p d i j).1, (Go.Sort.scanDown_spec p d i j).2.1 h⟩
theorem scans_ne {d : Array Nat} {a i j i2 j2 : Nat} (h1 : Go.Sort.scanUp (fun x => ltB x d[a]!) d j i = i2) (h2 : Go.Sort.scanDown (fun x => !ltB x d[a]!) d i2 j = j2) (h0 : 1 ≤ i2) (hj : j2 ≤ j) (h : ¬ i2 > j2) : i2 < j2 := by
  have k1 := (Go.Sort.scanUp_spec (fun x => ltB x d[a]!) d j _ i rfl).2.2.2
  have k2 := (Go.Sort.scanDown_spec (fun x => !ltB x d[a]!) d i2 j).2.2.2
  rw [h1] at k1
  rw [h2] at k2
  have k3 := k1 (by omega)
  have k4 := k2 (by omega) (by omega)
  rcases Nat.lt_or_ge i2 j2 with h5 | h5
  · exact h5
  · obtain rfl : i2 = j2 := by omega
    simp [k3] at k4
theorem scanse_ne {d : Array Nat} {a i j i2 j2 : Nat} (h1 : Go.Sort.scanUp (fun x => !ltB d[a]! x) d j i = i2) (h2 : Go.Sort.scanDown (fun x => ltB d[a]! x) d i2 j = j2) (h0 : 1 ≤ i2) (hj : j2 ≤ j) (h : ¬ i2 > j2) : i2 < j2 := by
  have k1 := (Go.Sort.scanUp_spec (fun x => !ltB d[a]! x) d j _ i rfl).2.2.2
  have k2 := (Go.Sort.scanDown_spec (fun x => ltB d[a]! x) d i2 j).2.2.2
  rw [h1] at k1
  rw [h2] at k2
  have k3 := k1 (by omega)
  have k4 := k2 (by omega) (by omega)
  rcases Nat.lt_or_ge i2 j2 with h5 | h5
  · exact h5
  · obtain rfl : i2 = j2 := by omega
    simp [k4] at k3
end Go.Proofs.YtfkfpanhbanljaaDoor.SortY

/- Sorting bytes: insertion sort of a range. -/
namespace Go.Proofs.YtfkfpanhbanljaaDoor.SortY
open Go.RowKit Go.Proofs.YtfkfpanhbanljaaDoor.Mem

set_option maxRecDepth 100000 in
set_option maxHeartbeats 4000000 in
theorem insr_any (base : Nat) (A : Option Addr) (n c : Nat) (d : Array Nat) (a b : Nat) (w : World) (h : RowD w base A n c d) (hb : b ≤ n) (han : a ≤ n) (hn : n ≤ 1000) :
    Calls Tryd.prog 100 #[.slice A n c, .int .i64 (a : Int), .int .i64 (b : Int)] w fun e w' => e = .returned (.tuple #[]) ∧ PS base A n c w w' (Go.Sort.insertionSort ltB d a b) := by
  obtain ⟨T, hT⟩ : ∃ T, Go.Sort.insertionSort ltB d a b = T := ⟨_, rfl⟩
  rw [hT]
  have HT : Kept (Go.Sort.insOuter ltB a b (a + 1) d = T) := ⟨hT⟩
  have HP := kept (PS.start h)
  clear h hT
  go_enter Tryd.func100, Tryd.ntmps100
  go_wp2_with fail
  go_loopw [6] (fun i wr => ∃ (k : Nat) (d2 : Array Nat), a + 1 ≤ k ∧ k ≤ n + 1 ∧ i = .int .i64 (k : Int) ∧ Kept (Go.Sort.insOuter ltB a b k d2 = T) ∧ Kept (PS base A n c w wr d2)) (fun i _ => n + 1 - (intOf i).toNat)
  case atStart => exact ⟨a + 1, d, Nat.le_refl _, by omega, by go_num, HT, HP⟩
  case round =>
    clear HP HT
    obtain ⟨k, d2, hk1, hk2, rfl, HT, HP⟩ := hrel
    by_cases hlt : k < b
    · have hkb : (k : Int) < (b : Int) := by omega
      obtain ⟨r, rfl⟩ := HP.out.ad (by omega)
      obtain ⟨D, hD⟩ : ∃ D, Go.Sort.insInner ltB a k d2 = D := ⟨_, rfl⟩
      have HI : Kept (Go.Sort.insOuter ltB a b (k + 1) D = T) := ⟨by rw [← hD, ← io_step hlt]; exact HT.out⟩
      have HD := kept hD
      clear hD HT
      go_wp2_with fail
      go_loopw [7] (fun j wr2 => ∃ (m : Nat) (d3 : Array Nat), m ≤ k ∧ a ≤ m ∧ j = .int .i64 (m : Int) ∧ Kept (Go.Sort.insInner ltB a m d3 = D) ∧ Kept (PS base (some ⟨r, 0, none⟩) n c w wr2 d3)) (fun j _ => (intOf j).toNat)
      case atStart => exact ⟨k, d2, Nat.le_refl _, by omega, rfl, HD, HP⟩
      case round =>
        clear HP HD
        obtain ⟨m, d3, hm, ham, rfl, HD, HP⟩ := hrel
        by_cases hgt : a < m
        · have hgi : (a : Int) < (m : Int) := by omega
          have hgd : decide ((m : Int) > (a : Int)) = true := decide_eq_true hgi
          have hmn : (m : Int) < (n : Int) := by omega
          have hw1 : IntKind.i64.wrap ((m : Int) - 1) = ((m - 1 : Nat) : Int) := by rw [IntKind.wrap_i64]; omega
          have hb1 : (0 : Int) ≤ ((m - 1 : Nat) : Int) := by omega
          have hb2 : ((m - 1 : Nat) : Int) < (n : Int) := by omega
          obtain ⟨c0, f0⟩ := HP.out.at (k := m) (by omega)
          obtain ⟨c1, f1⟩ := HP.out.at (k := m - 1) (by omega)
          have HSW : Kept (∀ W : World, PS base (some ⟨r, 0, none⟩) n c w W d3 → PS base (some ⟨r, 0, none⟩) n c w ((W.setCell ⟨r, m, none⟩ (.int .u8 ((d3[m - 1]! : Nat) : Int))).setCell ⟨r, m - 1, none⟩ (.int .u8 ((d3[m]! : Nat) : Int))) (Go.Sort.swp d3 m (m - 1))) := ⟨fun W h => h.swp (by omega) (by omega)⟩
          have HST : Kept (ltB d3[m]! d3[m - 1]! = true → Go.Sort.insInner ltB a (m - 1) (Go.Sort.swp d3 m (m - 1)) = D) := ⟨fun h => by rw [← ii_step hgt h]; exact HD.out⟩
          have HEN : Kept (ltB d3[m]! d3[m - 1]! = false → d3 = D) := ⟨fun h => by rw [← HD.out]; exact (ii_stop fun _ => h).symm⟩
          clear HD
          generalize d3[m]! = vx at *
          generalize d3[m - 1]! = vy at *
          cases hq : ltB vx vy with
          | false =>
            have CL := kept (fun W => less_any vx vy false hq W)
            obtain rfl := HEN.out hq
            clear hq HST HEN HSW
            go_wp2_with fail
            go_quiet (first | (go_at_call 106; exact Calls.quiet_of_same (CL.out _)))
            go_wp2_with fail
            go_roundw
            case rel => exact ⟨k + 1, d3, by omega, by omega, by go_num, HI, ⟨HP.out.drewN _⟩⟩
            case measure => simp [intOf]; omega
          | true =>
            have CL := kept (fun W => less_any vx vy true hq W)
            have HST2 := kept (HST.out hq)
            clear hq HST HEN
            go_wp2_with fail
            go_quiet (first | (go_at_call 106; exact Calls.quiet_of_same (CL.out _)))
            go_upto_region 6 with fail
            have HPQ := kept (HP.out.drewN nq)
            have c0q : (wr.drewN nq).cell? ⟨r, m, none⟩ = some (.int .u8 (vx : Int)) := c0
            have c1q : (wr.drewN nq).cell? ⟨r, m - 1, none⟩ = some (.int .u8 (vy : Int)) := c1
            have f0q : (wr.drewN nq).frozen? ⟨r, m, none⟩ = false := f0
            have f1q : (wr.drewN nq).frozen? ⟨r, m - 1, none⟩ = false := f1
            clear c0 c1 f0 f1 HP
            generalize wr.drewN nq = wq at *
            have hne : ¬ m = m - 1 := by omega
            have hne2 : ¬ m - 1 = m := by omega
            have HF2 := kept (HSW.out wq.drew HPQ.out.drew)
            clear HSW HPQ
            go_region
            all_goals go_wp2_with fail
            all_goals go_roundw
            all_goals first | exact ⟨m - 1, Go.Sort.swp d3 m (m - 1), by omega, by omega, by go_num, HST2, HF2⟩ | (simp [intOf]; omega)
        · have hgi : ¬ (a : Int) < (m : Int) := by omega
          have hgd : decide ((m : Int) > (a : Int)) = false := decide_eq_false hgi
          have HE : Kept (d3 = D) := ⟨by rw [← HD.out]; exact (ii_stop fun h => absurd h hgt).symm⟩
          obtain rfl := HE.out
          clear HD HE
          go_wp2_with fail
          go_quiet (fail)
          go_wp2_with fail
          go_roundw
          case rel => exact ⟨k + 1, d3, by omega, by omega, by go_num, HI, ⟨HP.out.drewN _⟩⟩
          case measure => simp [intOf]; omega
    · have HF : Kept (d2 = T) := ⟨by rw [← HT.out]; exact (io_stop hlt).symm⟩
      have hge : ¬ (k : Int) < (b : Int) := by omega
      obtain rfl := HF.out
      clear HT HF
      go_wp2_with fail
      go_end0
      exact ⟨rfl, HP.out⟩
end Go.Proofs.YtfkfpanhbanljaaDoor.SortY

/- Sorting bytes: sifting down. -/
namespace Go.Proofs.YtfkfpanhbanljaaDoor.SortY
open Go.RowKit Go.Proofs.YtfkfpanhbanljaaDoor.Mem

/-- one round of siftDown -/
theorem sift_stop {d : Array Nat} {hi f p : Nat} (h : ¬ 2 * p + 1 < hi) : Go.Sort.siftDown ltB hi f p d = d := by rw [Go.Sort.siftDown.eq_1, dif_pos (by omega)]
/-- the child that is taken -/
def chN (d : Array Nat) (hi f p : Nat) : Nat := if 2 * p + 2 < hi ∧ ltB d[f + (2 * p + 1)]! d[f + (2 * p + 2)]! = true then 2 * p + 2 else 2 * p + 1
theorem sift_step {d : Array Nat} {hi f p : Nat} (h : 2 * p + 1 < hi) : Go.Sort.siftDown ltB hi f p d = if ltB d[f + p]! d[f + chN d hi f p]! = true then Go.Sort.siftDown ltB hi f (chN d hi f p) (Go.Sort.swp d (f + p) (f + chN d hi f p)) else d := by
  rw [Go.Sort.siftDown.eq_1, dif_neg (by omega)]
  unfold chN
  have e : f + (2 * p + 1) + 1 = f + (2 * p + 2) := by omega
  rw [e]
  by_cases h1 : 2 * p + 2 < hi ∧ ltB d[f + (2 * p + 1)]! d[f + (2 * p + 2)]! = true
  · rw [if_pos h1]
    have hb : (decide (2 * p + 1 + 1 < hi) && ltB d[f + (2 * p + 1)]! d[f + (2 * p + 2)]!) = true := by rw [h1.2, decide_eq_true (by omega)]; rfl
    rw [if_pos hb]
    cases ltB d[f + p]! d[f + (2 * p + 2)]! with
    | true => simp [h1.1]
    | false => simp
  · rw [if_neg h1]
    have hb : ¬ (decide (2 * p + 1 + 1 < hi) && ltB d[f + (2 * p + 1)]! d[f + (2 * p + 2)]!) = true := by
      intro hc
      rw [Bool.and_eq_true] at hc
      exact h1 ⟨of_decide_eq_true hc.1, hc.2⟩
    rw [if_neg hb]
    cases ltB d[f + p]! d[f + (2 * p + 1)]! with
    | true => simp
    | false => simp
theorem chN_or (d : Array Nat) (hi f p : Nat) : (chN d hi f p = 2 * p + 2 ∧ 2 * p + 2 < hi) ∨ chN d hi f p = 2 * p + 1 := by
  unfold chN
  split
  · rename_i h; exact .inl ⟨rfl, h.1⟩
  · exact .inr rfl
end Go.Proofs.YtfkfpanhbanljaaDoor.SortY

/- Sorting bytes: the walk of siftDown. (printed by tools/gensd.py) -/
namespace Go.Proofs.YtfkfpanhbanljaaDoor.SortY
open Go.RowKit Go.Proofs.YtfkfpanhbanljaaDoor.Mem

set_option maxRecDepth 100000 in
set_option maxHeartbeats 4000000 in
theorem sift_any (base : Nat) (A : Option Addr) (n c : Nat) (d : Array Nat) (lo hi f : Nat) (w : World) (h : RowD w base A n c d) (hf : f + hi ≤ n) (hlo : lo ≤ 1000) (hn : n ≤ 1000) :
    Calls Tryd.prog 134 #[.slice A n c, .int .i64 (lo : Int), .int .i64 (hi : Int), .int .i64 (f : Int)] w fun e w' => e = .returned (.tuple #[]) ∧ PS base A n c w w' (Go.Sort.siftDown ltB hi f lo d) := by
  obtain ⟨T, hT⟩ : ∃ T, Go.Sort.siftDown ltB hi f lo d = T := ⟨_, rfl⟩
  rw [hT]
  have HT := kept hT
  have HP := kept (PS.start h)
  clear h hT
  go_enter Tryd.func134, Tryd.ntmps134
  go_wp2_with fail
  go_loopw [8] (fun i wr => ∃ (p : Nat) (d2 : Array Nat), p ≤ 1000 ∧ i = .int .i64 (p : Int) ∧ Kept (Go.Sort.siftDown ltB hi f p d2 = T) ∧ Kept (PS base A n c w wr d2)) (fun i _ => 2002 - (intOf i).toNat)
  case atStart => exact ⟨lo, d, hlo, rfl, HT, HP⟩
  case round =>
    clear HP HT
    obtain ⟨p, d2, hp, rfl, HT, HP⟩ := hrel
    by_cases hch : 2 * p + 1 < hi
    · have hci : ¬ (2 * (p : Int) + 1) ≥ (hi : Int) := by omega
      have hci2 : ¬ (hi : Int) ≤ (2 * (p : Int) + 1) := by omega
      have n0 : f + p < n := by omega
      have n1 : f + (2 * p + 1) < n := by omega
      have x0 : IntKind.i64.wrap (2 * (p : Int) + 1 + 1) = 2 * (p : Int) + 1 + 1 := IntWalk.i64_in _ (by omega)
      obtain ⟨r, rfl⟩ := HP.out.ad (by omega)
      have HST : Kept (_ = T) := ⟨(sift_step (d := d2) (hi := hi) (f := f) (p := p) hch).symm.trans HT.out⟩
      clear HT
      by_cases h2 : 2 * p + 2 < hi
      · have n2 : f + (2 * p + 1 + 1) < n := by omega
        have n3 : f + (2 * p + 1) + 1 < n := by omega
        have h2i : 2 * (p : Int) + 1 + 1 < (hi : Int) := by omega
        have HR : Kept (ltB d2[f + (2 * p + 1)]! d2[f + (2 * p + 1) + 1]! = true → chN d2 hi f p = 2 * p + 2) := ⟨fun h => by unfold chN; exact if_pos ⟨h2, h⟩⟩
        have HL : Kept (ltB d2[f + (2 * p + 1)]! d2[f + (2 * p + 1) + 1]! = false → chN d2 hi f p = 2 * p + 1) := ⟨fun h => by unfold chN; exact if_neg (fun k => Bool.false_ne_true (h.symm.trans k.2))⟩
        obtain ⟨c1, f1⟩ := HP.out.at n1
        obtain ⟨c2, f2⟩ := HP.out.at n3
        obtain ⟨v1, hv1⟩ : ∃ v1, d2[f + (2 * p + 1)]! = v1 := ⟨_, rfl⟩
        obtain ⟨v2, hv2⟩ : ∃ v2, d2[f + (2 * p + 1) + 1]! = v2 := ⟨_, rfl⟩
        rw [hv1] at c1 HR HL
        rw [hv2] at c2 HR HL
        clear hv1 hv2
        cases hq1 : ltB v1 v2 with
        | true =>
          have CA := kept (fun W => less_any v1 v2 true hq1 W)
          have HCH := kept (HR.out hq1)
          clear HR HL hq1
          go_wp2_with fail
          go_big_quiet (first | (go_at_call 106; exact Calls.quiet_of_same (CA.out _)))
          go_upto_region 5 with fail
          revert nq
          intro nq1
          have HPQ := kept (HP.out.drewN nq1)
          clear c1 f1 c2 f2 HP CA
          generalize wr.drewN nq1 = wr2 at *
          have HP := HPQ
          clear HPQ
          have HST2 : Kept (ltB d2[f + p]! d2[f + (2 * p + 1 + 1)]! = true → Go.Sort.siftDown ltB hi f (2 * p + 2) (Go.Sort.swp d2 (f + p) (f + (2 * p + 1 + 1))) = T) := ⟨fun h => by
            have h0 := HST.out
            rw [HCH.out] at h0
            exact (if_pos h).symm.trans h0⟩
          have HEN2 : Kept (ltB d2[f + p]! d2[f + (2 * p + 1 + 1)]! = false → d2 = T) := ⟨fun h => by
            have h0 := HST.out
            rw [HCH.out] at h0
            exact (if_neg (by rw [h]; exact Bool.false_ne_true)).symm.trans h0⟩
          have HSW : Kept (∀ W : World, PS base (some ⟨r, 0, none⟩) n c w W d2 → PS base (some ⟨r, 0, none⟩) n c w ((W.setCell ⟨r, f + p, none⟩ (.int .u8 ((d2[f + (2 * p + 1 + 1)]! : Nat) : Int))).setCell ⟨r, f + (2 * p + 1 + 1), none⟩ (.int .u8 ((d2[f + p]! : Nat) : Int))) (Go.Sort.swp d2 (f + p) (f + (2 * p + 1 + 1)))) := ⟨fun W h => h.swp n0 n2⟩
          obtain ⟨c0, f0⟩ := HP.out.at n0
          obtain ⟨c2, f2⟩ := HP.out.at n2
          clear HST HCH
          generalize d2[f + p]! = v0 at *
          generalize d2[f + (2 * p + 1 + 1)]! = v2 at *
          cases hq : ltB v0 v2 with
          | false =>
            have CB := kept (fun W => less_any v0 v2 false hq W)
            obtain rfl := HEN2.out hq
            clear hq HST2 HEN2 HSW
            go_big_quiet (first | (go_at_call 106; exact Calls.quiet_of_same (CB.out _)))
            go_wp2_with fail
            exact bodyPost_ret (results_none rfl _ _ _) rfl ⟨rfl, HP.out.drewN _⟩
          | true =>
            have CB := kept (fun W => less_any v0 v2 true hq W)
            have HST3 := kept (HST2.out hq)
            clear hq HST2 HEN2
            go_big_quiet (first | (go_at_call 106; exact Calls.quiet_of_same (CB.out _)))
            go_upto_region 6 with fail
            revert nq
            intro nq2
            have HPQ := kept (HP.out.drewN nq2)
            have c0q : (wr2.drewN nq2).cell? ⟨r, f + p, none⟩ = some (.int .u8 (v0 : Int)) := c0
            have c1q : (wr2.drewN nq2).cell? ⟨r, f + (2 * p + 1 + 1), none⟩ = some (.int .u8 (v2 : Int)) := c2
            have f0q : (wr2.drewN nq2).frozen? ⟨r, f + p, none⟩ = false := f0
            have f1q : (wr2.drewN nq2).frozen? ⟨r, f + (2 * p + 1 + 1), none⟩ = false := f2
            clear c0 c2 f0 f2 HP
            generalize wr2.drewN nq2 = wq at *
            have hne : ¬ f + p = f + (2 * p + 1 + 1) := by omega
            have hne2 : ¬ f + (2 * p + 1 + 1) = f + p := by omega
            have HF2 := kept (HSW.out wq.drew HPQ.out.drew)
            clear HSW HPQ
            go_region
            all_goals go_wp2_with fail
            all_goals go_roundw
            all_goals first | exact ⟨2 * p + 2, Go.Sort.swp d2 (f + p) (f + (2 * p + 1 + 1)), by omega, by go_num, HST3, HF2⟩ | (simp [intOf]; omega)
        | false =>
          have CA := kept (fun W => less_any v1 v2 false hq1 W)
          have HCH := kept (HL.out hq1)
          clear HR HL hq1
          go_wp2_with fail
          go_big_quiet (first | (go_at_call 106; exact Calls.quiet_of_same (CA.out _)))
          go_upto_region 5 with fail
          revert nq
          intro nq1
          have HPQ := kept (HP.out.drewN nq1)
          clear c1 f1 c2 f2 HP CA
          generalize wr.drewN nq1 = wr2 at *
          have HP := HPQ
          clear HPQ
          have HST2 : Kept (ltB d2[f + p]! d2[f + (2 * p + 1)]! = true → Go.Sort.siftDown ltB hi f (2 * p + 1) (Go.Sort.swp d2 (f + p) (f + (2 * p + 1))) = T) := ⟨fun h => by
            have h0 := HST.out
            rw [HCH.out] at h0
            exact (if_pos h).symm.trans h0⟩
          have HEN2 : Kept (ltB d2[f + p]! d2[f + (2 * p + 1)]! = false → d2 = T) := ⟨fun h => by
            have h0 := HST.out
            rw [HCH.out] at h0
            exact (if_neg (by rw [h]; exact Bool.false_ne_true)).symm.trans h0⟩
          have HSW : Kept (∀ W : World, PS base (some ⟨r, 0, none⟩) n c w W d2 → PS base (some ⟨r, 0, none⟩) n c w ((W.setCell ⟨r, f + p, none⟩ (.int .u8 ((d2[f + (2 * p + 1)]! : Nat) : Int))).setCell ⟨r, f + (2 * p + 1), none⟩ (.int .u8 ((d2[f + p]! : Nat) : Int))) (Go.Sort.swp d2 (f + p) (f + (2 * p + 1)))) := ⟨fun W h => h.swp n0 n1⟩
          obtain ⟨c0, f0⟩ := HP.out.at n0
          obtain ⟨c1, f1⟩ := HP.out.at n1
          clear HST HCH
          generalize d2[f + p]! = v0 at *
          generalize d2[f + (2 * p + 1)]! = v1 at *
          cases hq : ltB v0 v1 with
          | false =>
            have CB := kept (fun W => less_any v0 v1 false hq W)
            obtain rfl := HEN2.out hq
            clear hq HST2 HEN2 HSW
            go_big_quiet (first | (go_at_call 106; exact Calls.quiet_of_same (CB.out _)))
            go_wp2_with fail
            exact bodyPost_ret (results_none rfl _ _ _) rfl ⟨rfl, HP.out.drewN _⟩
          | true =>
            have CB := kept (fun W => less_any v0 v1 true hq W)
            have HST3 := kept (HST2.out hq)
            clear hq HST2 HEN2
            go_big_quiet (first | (go_at_call 106; exact Calls.quiet_of_same (CB.out _)))
            go_upto_region 6 with fail
            revert nq
            intro nq2
            have HPQ := kept (HP.out.drewN nq2)
            have c0q : (wr2.drewN nq2).cell? ⟨r, f + p, none⟩ = some (.int .u8 (v0 : Int)) := c0
            have c1q : (wr2.drewN nq2).cell? ⟨r, f + (2 * p + 1), none⟩ = some (.int .u8 (v1 : Int)) := c1
            have f0q : (wr2.drewN nq2).frozen? ⟨r, f + p, none⟩ = false := f0
            have f1q : (wr2.drewN nq2).frozen? ⟨r, f + (2 * p + 1), none⟩ = false := f1
            clear c0 c1 f0 f1 HP
            generalize wr2.drewN nq2 = wq at *
            have hne : ¬ f + p = f + (2 * p + 1) := by omega
            have hne2 : ¬ f + (2 * p + 1) = f + p := by omega
            have HF2 := kept (HSW.out wq.drew HPQ.out.drew)
            clear HSW HPQ
            go_region
            all_goals go_wp2_with fail
            all_goals go_roundw
            all_goals first | exact ⟨2 * p + 1, Go.Sort.swp d2 (f + p) (f + (2 * p + 1)), by omega, by go_num, HST3, HF2⟩ | (simp [intOf]; omega)
      · have h2i : ¬ 2 * (p : Int) + 1 + 1 < (hi : Int) := by omega
        have h2d : decide (2 * (p : Int) + 1 + 1 < (hi : Int)) = false := decide_eq_false h2i
        have HCH : Kept (chN d2 hi f p = 2 * p + 1) := ⟨by unfold chN; exact if_neg (fun k => h2 k.1)⟩
        go_wp2_with fail
        go_big_quiet (fail)
        go_upto_region 5 with fail
        revert nq
        intro nq1
        have HPQ := kept (HP.out.drewN nq1)
        clear HP
        generalize wr.drewN nq1 = wr2 at *
        have HP := HPQ
        clear HPQ
        have HST2 : Kept (ltB d2[f + p]! d2[f + (2 * p + 1)]! = true → Go.Sort.siftDown ltB hi f (2 * p + 1) (Go.Sort.swp d2 (f + p) (f + (2 * p + 1))) = T) := ⟨fun h => by
          have h0 := HST.out
          rw [HCH.out] at h0
          exact (if_pos h).symm.trans h0⟩
        have HEN2 : Kept (ltB d2[f + p]! d2[f + (2 * p + 1)]! = false → d2 = T) := ⟨fun h => by
          have h0 := HST.out
          rw [HCH.out] at h0
          exact (if_neg (by rw [h]; exact Bool.false_ne_true)).symm.trans h0⟩
        have HSW : Kept (∀ W : World, PS base (some ⟨r, 0, none⟩) n c w W d2 → PS base (some ⟨r, 0, none⟩) n c w ((W.setCell ⟨r, f + p, none⟩ (.int .u8 ((d2[f + (2 * p + 1)]! : Nat) : Int))).setCell ⟨r, f + (2 * p + 1), none⟩ (.int .u8 ((d2[f + p]! : Nat) : Int))) (Go.Sort.swp d2 (f + p) (f + (2 * p + 1)))) := ⟨fun W h => h.swp n0 n1⟩
        obtain ⟨c0, f0⟩ := HP.out.at n0
        obtain ⟨c1, f1⟩ := HP.out.at n1
        clear HST HCH
        generalize d2[f + p]! = v0 at *
        generalize d2[f + (2 * p + 1)]! = v1 at *
        cases hq : ltB v0 v1 with
        | false =>
          have CB := kept (fun W => less_any v0 v1 false hq W)
          obtain rfl := HEN2.out hq
          clear hq HST2 HEN2 HSW
          go_big_quiet (first | (go_at_call 106; exact Calls.quiet_of_same (CB.out _)))
          go_wp2_with fail
          exact bodyPost_ret (results_none rfl _ _ _) rfl ⟨rfl, HP.out.drewN _⟩
        | true =>
          have CB := kept (fun W => less_any v0 v1 true hq W)
          have HST3 := kept (HST2.out hq)
          clear hq HST2 HEN2
          go_big_quiet (first | (go_at_call 106; exact Calls.quiet_of_same (CB.out _)))
          go_upto_region 6 with fail
          revert nq
          intro nq2
          have HPQ := kept (HP.out.drewN nq2)
          have c0q : (wr2.drewN nq2).cell? ⟨r, f + p, none⟩ = some (.int .u8 (v0 : Int)) := c0
          have c1q : (wr2.drewN nq2).cell? ⟨r, f + (2 * p + 1), none⟩ = some (.int .u8 (v1 : Int)) := c1
          have f0q : (wr2.drewN nq2).frozen? ⟨r, f + p, none⟩ = false := f0
          have f1q : (wr2.drewN nq2).frozen? ⟨r, f + (2 * p + 1), none⟩ = false := f1
          clear c0 c1 f0 f1 HP
          generalize wr2.drewN nq2 = wq at *
          have hne : ¬ f + p = f + (2 * p + 1) := by omega
          have hne2 : ¬ f + (2 * p + 1) = f + p := by omega
          have HF2 := kept (HSW.out wq.drew HPQ.out.drew)
          clear HSW HPQ
          go_region
          all_goals go_wp2_with fail
          all_goals go_roundw
          all_goals first | exact ⟨2 * p + 1, Go.Sort.swp d2 (f + p) (f + (2 * p + 1)), by omega, by go_num, HST3, HF2⟩ | (simp [intOf]; omega)
    · have hci : (2 * (p : Int) + 1) ≥ (hi : Int) := by omega
      have HF : Kept (d2 = T) := ⟨by rw [← HT.out, sift_stop hch]⟩
      obtain rfl := HF.out
      go_wp2_with fail
      go_end0
      exact ⟨rfl, HP.out⟩
end Go.Proofs.YtfkfpanhbanljaaDoor.SortY

/- Sorting bytes: heapSort. (printed by tools/genpdt.py) -/
namespace Go.Proofs.YtfkfpanhbanljaaDoor.SortY
open Go.RowKit Go.Proofs.YtfkfpanhbanljaaDoor.Mem

set_option maxRecDepth 100000 in
set_option maxHeartbeats 8000000 in
theorem heap_any (base : Nat) (A : Option Addr) (n c : Nat) (d : Array Nat) (a b : Nat) (w : World) (h : RowD w base A n c d) (hab : a < b) (hb : b ≤ n) (hn : n ≤ 1000) :
    Calls Tryd.prog 101 #[.slice A n c, .int .i64 (a : Int), .int .i64 (b : Int)] w fun e w' => e = .returned (.tuple #[]) ∧ PS base A n c w w' (Go.Sort.heapSort ltB d a b) := by
  obtain ⟨m, hm⟩ : ∃ m, b - a = m := ⟨_, rfl⟩
  obtain ⟨k, hk⟩ : ∃ k, m = k + 1 := ⟨m - 1, by omega⟩
  obtain ⟨T, hT⟩ : ∃ T, Go.Sort.heapSort ltB d a b = T := ⟨_, rfl⟩
  obtain ⟨D1, hD1⟩ : ∃ D1, Go.Sort.heapBuild ltB m a (k / 2 + 1) d = D1 := ⟨_, rfl⟩
  have HB := kept hD1
  have HT : Kept (Go.Sort.heapPop ltB a m D1 = T) := ⟨by
    rw [← hT, ← hD1]
    unfold Go.Sort.heapSort
    rw [hm, hk, Nat.add_sub_cancel]⟩
  rw [hT]
  have HP := kept (PS.start h)
  obtain ⟨r, rfl⟩ := HP.out.ad (by omega)
  clear h hD1 hT
  have hbm : (b : Int) - (a : Int) = (m : Int) := by omega
  have hmk : (m : Int) - 1 = (k : Int) := by omega
  have hw1 : IntKind.i64.wrap ((b : Int) - (a : Int)) = (m : Int) := by rw [IntKind.wrap_i64]; omega
  have hw2 : IntKind.i64.wrap ((m : Int) - 1) = (k : Int) := by rw [IntKind.wrap_i64]; omega
  have hkm : k < m := by omega
  have hkn : k < 1000 := by omega
  clear hk hm
  go_enter Tryd.func101, Tryd.ntmps101
  go_wp2_with fail
  go_loopw [9] (fun i wr => ∃ (q : Nat) (z : Int) (d2 : Array Nat), q ≤ m ∧ z = (q : Int) - 1 ∧ i = .int .i64 z ∧ Kept (Go.Sort.heapBuild ltB m a q d2 = D1) ∧ Kept (PS base (some ⟨r, 0, none⟩) n c w wr d2)) (fun i _ => (intOf i + 1).toNat)
  case atStart => exact ⟨k / 2 + 1, (k : Int) / 2, d, by omega, by omega, rfl, HB, HP⟩
  case round =>
    clear HB HP
    obtain ⟨q, z, d2, hq, hz, rfl, HB, HP⟩ := hrel
    rcases q with _ | p
    · have hzn : ¬ (0 : Int) ≤ z := by omega
      clear hz
      have HD : Kept (d2 = D1) := HB
      obtain rfl := HD.out
      clear HB HD
      go_wp2_with fail
      go_loopw [10] (fun i wr => ∃ (q : Nat) (z : Int) (d2 : Array Nat), q ≤ m ∧ z = (q : Int) - 1 ∧ i = .int .i64 z ∧ Kept (Go.Sort.heapPop ltB a q d2 = T) ∧ Kept (PS base (some ⟨r, 0, none⟩) n c w wr d2)) (fun i _ => (intOf i + 1).toNat)
      case atStart => exact ⟨m, (k : Int), d2, by omega, by omega, rfl, HT, HP⟩
      case round =>
        clear HT HP
        obtain ⟨q, z, d2, hq, hz, rfl, HH, HP⟩ := hrel
        have hin1 : a < n := by omega
        rcases q with _ | p
        · have hzn : ¬ (0 : Int) ≤ z := by omega
          clear hz
          have HD : Kept (d2 = T) := HH
          obtain rfl := HD.out
          clear HH HD
          go_wp2_with fail
          go_end0
          exact ⟨rfl, HP.out⟩
        · obtain rfl : z = (p : Int) := by omega
          have hz0 : (0 : Int) ≤ (p : Int) := by omega
          rcases Nat.eq_zero_or_pos p with rfl | hpos
          · obtain ⟨c0, f0⟩ := HP.out.at hin1
            obtain ⟨dE, hdE⟩ : ∃ dE, Go.Sort.swp d2 a a = dE := ⟨_, rfl⟩
            have HSW : Kept (PS base (some ⟨r, 0, none⟩) n c w ((wr.drew.setCell ⟨r, a, none⟩ (.int .u8 ((d2[a]! : Nat) : Int))).setCell ⟨r, a, none⟩ (.int .u8 ((d2[a]! : Nat) : Int))) dE) := ⟨by rw [← hdE]; exact HP.out.drew.swp hin1 hin1⟩
            have HH2 : Kept (Go.Sort.siftDown ltB 0 a 0 dE = T) := ⟨by rw [← hdE]; exact HH.out⟩
            clear hdE HH HP
            generalize d2[a]! = v0 at *
            go_wp2_with fail
            go_region
            all_goals go_wp2_with fail
            all_goals (refine (sift_any base (some ⟨r, 0, none⟩) n c dE 0 0 a _ HSW.out.row (by omega) (by omega) hn).mono ?_)
            all_goals (rintro e w3 ⟨rfl, hp3⟩)
            all_goals (rw [HH2.out] at hp3)
            all_goals (have HP3 := kept (HSW.out.trans hp3))
            all_goals go_wp2_with fail
            all_goals go_roundw
            all_goals first | exact ⟨0, _, T, by omega, by omega, rfl, ⟨rfl⟩, HP3⟩ | (simp [intOf])
          · have hin2 : a + p < n := by omega
            obtain ⟨c0, f0⟩ := HP.out.at hin1
            obtain ⟨c1, f1⟩ := HP.out.at hin2
            have hne : ¬ a = a + p := by omega
            have hne2 : ¬ a + p = a := by omega
            obtain ⟨dE, hdE⟩ : ∃ dE, Go.Sort.swp d2 a (a + p) = dE := ⟨_, rfl⟩
            have HSW : Kept (PS base (some ⟨r, 0, none⟩) n c w ((wr.drew.setCell ⟨r, a, none⟩ (.int .u8 ((d2[a + p]! : Nat) : Int))).setCell ⟨r, a + p, none⟩ (.int .u8 ((d2[a]! : Nat) : Int))) dE) := ⟨by rw [← hdE]; exact HP.out.drew.swp hin1 hin2⟩
            obtain ⟨dG, hdG⟩ : ∃ dG, Go.Sort.siftDown ltB p a 0 dE = dG := ⟨_, rfl⟩
            have HH2 : Kept (Go.Sort.heapPop ltB a p dG = T) := ⟨by rw [← hdG, ← hdE]; exact HH.out⟩
            have HDG := kept hdG
            have hyl : p + 1 ≤ m := hq
            clear hdE HH HP hdG hz hq
            generalize d2[a]! = v0 at *
            generalize d2[a + p]! = v1 at *
            go_wp2_with fail
            go_region
            all_goals go_wp2_with fail
            all_goals (refine (sift_any base (some ⟨r, 0, none⟩) n c dE 0 p a _ HSW.out.row (by omega) (by omega) hn).mono ?_)
            all_goals (rintro e w3 ⟨rfl, hp3⟩)
            all_goals (rw [HDG.out] at hp3)
            all_goals (have HP3 := kept (HSW.out.trans hp3))
            all_goals go_wp2_with fail
            all_goals go_roundw
            all_goals first | exact ⟨p, _, dG, by omega, by omega, rfl, HH2, HP3⟩ | (simp [intOf]; done) | (simp [intOf]; omega)
    · obtain rfl : z = (p : Int) := by omega
      have hz0 : (0 : Int) ≤ (p : Int) := by omega
      obtain ⟨dG, hdG⟩ : ∃ dG, Go.Sort.siftDown ltB m a p d2 = dG := ⟨_, rfl⟩
      have HB2 : Kept (Go.Sort.heapBuild ltB m a p dG = D1) := ⟨by rw [← hdG]; exact HB.out⟩
      have C := kept (sift_any base (some ⟨r, 0, none⟩) n c d2 p m a _ HP.out.row (by omega) (by omega) hn)
      rw [hdG] at C
      clear hdG HB hz
      go_wp2_with fail
      refine C.out.mono ?_
      rintro e w3 ⟨rfl, hp3⟩
      have HP3 := kept (HP.out.trans hp3)
      clear hp3 HP C
      go_wp2_with fail
      go_roundw
      case rel => exact ⟨p, (p : Int) - 1, dG, by omega, by omega, rfl, HB2, HP3⟩
      case measure => simp only [intOf]; omega
end Go.Proofs.YtfkfpanhbanljaaDoor.SortY

/- Sorting bytes: bits.Len of at most 25; xorshift's Next; nextPowerOfTwo. (printed by tools/genpdl.py) -/
namespace Go.Proofs.YtfkfpanhbanljaaDoor.SortY
open Go.RowKit Go.Proofs.YtfkfpanhbanljaaDoor.Mem Go.Proofs.YtfkfpanhbanljaaDoor.SortW Go.Proofs.YtfkfpanhbanljaaDoor.Shift

set_option maxRecDepth 100000 in
theorem len64_13s (w : World) : Calls Tryd.prog 110 #[.int .u64 13] w fun e w' => e = .returned (.int .i64 4) ∧ w = w' := by
  go_enter Tryd.func110, Tryd.ntmps110
  go_wp2
  go_ret
  exact ⟨by kernel_rfl, rfl⟩
set_option maxRecDepth 100000 in
theorem len64_14s (w : World) : Calls Tryd.prog 110 #[.int .u64 14] w fun e w' => e = .returned (.int .i64 4) ∧ w = w' := by
  go_enter Tryd.func110, Tryd.ntmps110
  go_wp2
  go_ret
  exact ⟨by kernel_rfl, rfl⟩
set_option maxRecDepth 100000 in
theorem len64_15s (w : World) : Calls Tryd.prog 110 #[.int .u64 15] w fun e w' => e = .returned (.int .i64 4) ∧ w = w' := by
  go_enter Tryd.func110, Tryd.ntmps110
  go_wp2
  go_ret
  exact ⟨by kernel_rfl, rfl⟩
set_option maxRecDepth 100000 in
theorem len64_16s (w : World) : Calls Tryd.prog 110 #[.int .u64 16] w fun e w' => e = .returned (.int .i64 5) ∧ w = w' := by
  go_enter Tryd.func110, Tryd.ntmps110
  go_wp2
  go_ret
  exact ⟨by kernel_rfl, rfl⟩
set_option maxRecDepth 100000 in
theorem len64_17s (w : World) : Calls Tryd.prog 110 #[.int .u64 17] w fun e w' => e = .returned (.int .i64 5) ∧ w = w' := by
  go_enter Tryd.func110, Tryd.ntmps110
  go_wp2
  go_ret
  exact ⟨by kernel_rfl, rfl⟩
set_option maxRecDepth 100000 in
theorem len64_18s (w : World) : Calls Tryd.prog 110 #[.int .u64 18] w fun e w' => e = .returned (.int .i64 5) ∧ w = w' := by
  go_enter Tryd.func110, Tryd.ntmps110
  go_wp2
  go_ret
  exact ⟨by kernel_rfl, rfl⟩
set_option maxRecDepth 100000 in
theorem len64_19s (w : World) : Calls Tryd.prog 110 #[.int .u64 19] w fun e w' => e = .returned (.int .i64 5) ∧ w = w' := by
  go_enter Tryd.func110, Tryd.ntmps110
  go_wp2
  go_ret
  exact ⟨by kernel_rfl, rfl⟩
set_option maxRecDepth 100000 in
theorem len64_20s (w : World) : Calls Tryd.prog 110 #[.int .u64 20] w fun e w' => e = .returned (.int .i64 5) ∧ w = w' := by
  go_enter Tryd.func110, Tryd.ntmps110
  go_wp2
  go_ret
  exact ⟨by kernel_rfl, rfl⟩
set_option maxRecDepth 100000 in
theorem len64_21s (w : World) : Calls Tryd.prog 110 #[.int .u64 21] w fun e w' => e = .returned (.int .i64 5) ∧ w = w' := by
  go_enter Tryd.func110, Tryd.ntmps110
  go_wp2
  go_ret
  exact ⟨by kernel_rfl, rfl⟩
set_option maxRecDepth 100000 in
theorem len64_22s (w : World) : Calls Tryd.prog 110 #[.int .u64 22] w fun e w' => e = .returned (.int .i64 5) ∧ w = w' := by
  go_enter Tryd.func110, Tryd.ntmps110
  go_wp2
  go_ret
  exact ⟨by kernel_rfl, rfl⟩
set_option maxRecDepth 100000 in
theorem len64_23s (w : World) : Calls Tryd.prog 110 #[.int .u64 23] w fun e w' => e = .returned (.int .i64 5) ∧ w = w' := by
  go_enter Tryd.func110, Tryd.ntmps110
  go_wp2
  go_ret
  exact ⟨by kernel_rfl, rfl⟩
set_option maxRecDepth 100000 in
theorem len64_24s (w : World) : Calls Tryd.prog 110 #[.int .u64 24] w fun e w' => e = .returned (.int .i64 5) ∧ w = w' := by
  go_enter Tryd.func110, Tryd.ntmps110
  go_wp2
  go_ret
  exact ⟨by kernel_rfl, rfl⟩
set_option maxRecDepth 100000 in
theorem len64_25s (w : World) : Calls Tryd.prog 110 #[.int .u64 25] w fun e w' => e = .returned (.int .i64 5) ∧ w = w' := by
  go_enter Tryd.func110, Tryd.ntmps110
  go_wp2
  go_ret
  exact ⟨by kernel_rfl, rfl⟩
theorem len64_25 (n : Nat) (hn : n ≤ 25) (w : World) : Calls Tryd.prog 110 #[.int .u64 (n : Int)] w fun e w' => (∃ v : Nat, e = .returned (.int .i64 (v : Int)) ∧ v ≤ 5 ∧ (8 ≤ n → 2 ^ v ≤ 2 * n)) ∧ w = w' := by
  match n, hn with
  | 0, _ => exact (len64_0s w).mono fun e w' h => ⟨⟨0, h.1, by decide, by decide⟩, h.2⟩
  | 1, _ => exact (len64_1s w).mono fun e w' h => ⟨⟨1, h.1, by decide, by decide⟩, h.2⟩
  | 2, _ => exact (len64_2s w).mono fun e w' h => ⟨⟨2, h.1, by decide, by decide⟩, h.2⟩
  | 3, _ => exact (len64_3s w).mono fun e w' h => ⟨⟨2, h.1, by decide, by decide⟩, h.2⟩
  | 4, _ => exact (len64_4s w).mono fun e w' h => ⟨⟨3, h.1, by decide, by decide⟩, h.2⟩
  | 5, _ => exact (len64_5s w).mono fun e w' h => ⟨⟨3, h.1, by decide, by decide⟩, h.2⟩
  | 6, _ => exact (len64_6s w).mono fun e w' h => ⟨⟨3, h.1, by decide, by decide⟩, h.2⟩
  | 7, _ => exact (len64_7s w).mono fun e w' h => ⟨⟨3, h.1, by decide, by decide⟩, h.2⟩
  | 8, _ => exact (len64_8s w).mono fun e w' h => ⟨⟨4, h.1, by decide, by decide⟩, h.2⟩
  | 9, _ => exact (len64_9s w).mono fun e w' h => ⟨⟨4, h.1, by decide, by decide⟩, h.2⟩
  | 10, _ => exact (len64_10s w).mono fun e w' h => ⟨⟨4, h.1, by decide, by decide⟩, h.2⟩
  | 11, _ => exact (len64_11s w).mono fun e w' h => ⟨⟨4, h.1, by decide, by decide⟩, h.2⟩
  | 12, _ => exact (len64_12s w).mono fun e w' h => ⟨⟨4, h.1, by decide, by decide⟩, h.2⟩
  | 13, _ => exact (len64_13s w).mono fun e w' h => ⟨⟨4, h.1, by decide, by decide⟩, h.2⟩
  | 14, _ => exact (len64_14s w).mono fun e w' h => ⟨⟨4, h.1, by decide, by decide⟩, h.2⟩
  | 15, _ => exact (len64_15s w).mono fun e w' h => ⟨⟨4, h.1, by decide, by decide⟩, h.2⟩
  | 16, _ => exact (len64_16s w).mono fun e w' h => ⟨⟨5, h.1, by decide, by decide⟩, h.2⟩
  | 17, _ => exact (len64_17s w).mono fun e w' h => ⟨⟨5, h.1, by decide, by decide⟩, h.2⟩
  | 18, _ => exact (len64_18s w).mono fun e w' h => ⟨⟨5, h.1, by decide, by decide⟩, h.2⟩
  | 19, _ => exact (len64_19s w).mono fun e w' h => ⟨⟨5, h.1, by decide, by decide⟩, h.2⟩
  | 20, _ => exact (len64_20s w).mono fun e w' h => ⟨⟨5, h.1, by decide, by decide⟩, h.2⟩
  | 21, _ => exact (len64_21s w).mono fun e w' h => ⟨⟨5, h.1, by decide, by decide⟩, h.2⟩
  | 22, _ => exact (len64_22s w).mono fun e w' h => ⟨⟨5, h.1, by decide, by decide⟩, h.2⟩
  | 23, _ => exact (len64_23s w).mono fun e w' h => ⟨⟨5, h.1, by decide, by decide⟩, h.2⟩
  | 24, _ => exact (len64_24s w).mono fun e w' h => ⟨⟨5, h.1, by decide, by decide⟩, h.2⟩
  | 25, _ => exact (len64_25s w).mono fun e w' h => ⟨⟨5, h.1, by decide, by decide⟩, h.2⟩
  | n + 26, h => exact absurd h (by omega)
theorem len_25 (n : Nat) (hn : n ≤ 25) (w : World) : Calls Tryd.prog 74 #[.int .u64 (n : Int)] w fun e w' => (∃ v : Nat, e = .returned (.int .i64 (v : Int)) ∧ v ≤ 5 ∧ (8 ≤ n → 2 ^ v ≤ 2 * n)) ∧ w = w' := by
  have C := kept (fun W => len64_25 n hn W)
  go_enter Tryd.func74, Tryd.ntmps74
  go_wp2_with fail
  refine (C.out w).mono ?_
  rintro e w1 ⟨⟨v, rfl, hv⟩, rfl⟩
  go_wp2_with fail
  go_ret
  exact ⟨⟨v, rfl, hv⟩, rfl⟩
theorem xs_left (z : Nat) (k : Nat) (hz : z < 18446744073709551616) : ∃ y : Nat, y < 18446744073709551616 ∧ bits .xor .u64 (z : Int) (IntKind.u64.wrap ((z : Int) * k)) = (y : Int) := by
  have h1 : ∃ m : Nat, IntKind.u64.wrap ((z : Int) * k) = (m : Int) ∧ m < 18446744073709551616 := by
    rw [IntKind.wrap_u64]
    exact ⟨((z : Int) * k % 18446744073709551616).toNat, by omega, by omega⟩
  obtain ⟨m, h2, h3⟩ := h1
  rw [h2, u64_xor_nat z m hz h3]
  exact ⟨_, Nat.xor_lt_two_pow (n := 64) hz h3, rfl⟩
theorem xs_right (z : Nat) (k : Nat) (hz : z < 18446744073709551616) : ∃ y : Nat, y < 18446744073709551616 ∧ bits .xor .u64 (z : Int) ((z : Int) / (k : Int)) = (y : Int) := by
  have h2 : (z : Int) / (k : Int) = ((z / k : Nat) : Int) := by simp
  have h3 : z / k < 18446744073709551616 := Nat.lt_of_le_of_lt (Nat.div_le_self _ _) hz
  rw [h2, u64_xor_nat z _ hz h3]
  exact ⟨_, Nat.xor_lt_two_pow (n := 64) hz h3, rfl⟩
theorem and_less (z m : Nat) (hz : z < 18446744073709551616) (hm : m < 18446744073709551616) : ∃ y : Nat, y ≤ m ∧ bits .and .u64 (z : Int) (m : Int) = (y : Int) := by
  rw [u64_and_nat z m hz hm]
  exact ⟨_, Nat.and_le_right, rfl⟩
end Go.Proofs.YtfkfpanhbanljaaDoor.SortY

/- Sorting bytes: the plain law of pdqsort's loop: what is left to do. -/
namespace Go.Proofs.YtfkfpanhbanljaaDoor.SortY
open Go.RowKit Go.Proofs.YtfkfpanhbanljaaDoor.Mem

/-- what is left to do: whoever sorts [x, y) of e has sorted [a, b) of d -/
structure Left (d : Array Nat) (a b : Nat) (e : Array Nat) (x y : Nat) : Prop where
  le : x ≤ y
  top : y ≤ b
  bot : a ≤ x
  size : e.size = d.size
  below : Go.Sort.Below ltB x y e
  fin : ∀ R, Go.Sort.PermIn x y e R → Go.Sort.SortedIn ltB x y R → Go.Sort.PermIn a b d R ∧ Go.Sort.SortedIn ltB a b R
section
variable {d e e2 : Array Nat} {a b x y v m : Nat} {q : Bool}
theorem Left.start (h : a ≤ b) (hB : Go.Sort.Below ltB a b d) : Left d a b d a b := ⟨h, Nat.le_refl _, Nat.le_refl _, rfl, hB, fun _ h1 h2 => ⟨h1, h2⟩⟩
theorem Left.perm (h : Left d a b e x y) (hb : b ≤ d.size) (hp : Go.Sort.PermIn x y e e2) : Left d a b e2 x y := by
  have h1 := h.size
  have h2 := h.top
  exact ⟨h.le, h.top, h.bot, hp.1.trans h.size, h.below.perm (by omega) hp, fun R h3 h4 => h.fin R (Go.Sort.permIn_trans _ _ _ x y hp h3) h4⟩
theorem Left.eqs (h : Left d a b e x y) (hb : b ≤ d.size) (hx : 0 < x) (h1 : x ≤ v) (h2 : v < y) (hl : ltB e[x - 1]! e[v]! = false) (he : Go.Sort.partitionEqual ltB e x y v = (m, e2)) : x < m ∧ Left d a b e2 m y := by
  have s1 := h.size
  have s2 := h.top
  have s3 := h.bot
  obtain ⟨k1, k2, k3, k4, k5⟩ := Go.Sort.round_eq swoB (Go.Sort.partitionEqual_holds ltB) hx h1 h2 (by omega) h.below hl he
  exact ⟨k1, k2, h.top, by omega, k3.trans h.size, k4, fun R h3 h4 => h.fin R (k5 R h3 h4).1 (k5 R h3 h4).2⟩
theorem Left.parts (h : Left d a b e x y) (hb : b ≤ d.size) (h1 : x ≤ v) (h2 : v < y) (he : Go.Sort.partition ltB e x y v = (m, q, e2)) :
    x ≤ m ∧ m < y ∧ e2.size = d.size ∧ Go.Sort.Below ltB x m e2 ∧ Go.Sort.Below ltB (m + 1) y e2 ∧ (∀ L, Go.Sort.PermIn x m e2 L → Go.Sort.SortedIn ltB x m L → Left d a b L (m + 1) y) ∧ (∀ L, Go.Sort.PermIn (m + 1) y e2 L → Go.Sort.SortedIn ltB (m + 1) y L → Left d a b L x m) := by
  have s1 := h.size
  have s2 := h.top
  have s3 := h.bot
  obtain ⟨k1, k2, k3, k4, k5, k6, k7⟩ := Go.Sort.round_part swoB (Go.Sort.partition_holds ltB) h1 h2 (by omega) h.below he
  refine ⟨k1, k2, k3.trans h.size, k4, k5, fun L h3 h4 => ?_, fun L h3 h4 => ?_⟩
  · obtain ⟨j1, j2⟩ := k6 L h3 h4
    exact ⟨by omega, h.top, by omega, (h3.1.trans k3).trans h.size, j1, fun R h5 h6 => h.fin R (j2 R h5 h6).1 (j2 R h5 h6).2⟩
  · obtain ⟨j1, j2⟩ := k7 L h3 h4
    exact ⟨k1, by omega, h.bot, (h3.1.trans k3).trans h.size, j1, fun R h5 h6 => h.fin R (j2 R h5 h6).1 (j2 R h5 h6).2⟩
end
/-- the end of it: a list of bytes -/
theorem sorted_list {l : List Nat} {e : Array Nat} (hp : Go.Sort.PermIn 0 l.length l.toArray e) (hs : Go.Sort.SortedIn ltB 0 l.length e) : e.toList.Perm l ∧ e.toList.Pairwise (· ≤ ·) := by
  have h1 : e.size = l.length := by have := hp.1; rwa [List.size_toArray] at this
  have h2 := hp.2.2
  rw [← h1, Array.extract_size, h1, show l.toArray.extract 0 l.length = l.toArray by rw [show l.length = l.toArray.size by simp, Array.extract_size]] at h2
  refine ⟨h2, List.pairwise_iff_getElem.2 fun i j hi hj hij => ?_⟩
  rw [Array.length_toList] at hi hj
  have h3 := hs i j (Nat.zero_le _) hij (by omega)
  have e1 : e[i]! = e.toList[i] := by simp [hi]
  have e2 : e[j]! = e.toList[j] := by simp [hj]
  rw [e1, e2] at h3
  simpa [ltB] using h3
end Go.Proofs.YtfkfpanhbanljaaDoor.SortY

/- Sorting bytes: breakPatterns (a permutation, whatever the generator gives). -/
namespace Go.Proofs.YtfkfpanhbanljaaDoor.SortY
open Go.RowKit Go.Proofs.YtfkfpanhbanljaaDoor.Mem Go.Proofs.YtfkfpanhbanljaaDoor.Shift

set_option maxRecDepth 100000 in
theorem pow_any (l : Nat) (h8 : 8 ≤ l) (h25 : l ≤ 25) (w : World) : Calls Tryd.prog 135 #[.int .i64 (l : Int)] w fun e w' => (∃ mo : Nat, mo < 2 * l ∧ e = .returned (.int .u64 ((mo : Int) + 1))) ∧ w = w' := by
  have C := kept (len_25 l h25 w)
  have hw : IntKind.u64.wrap (l : Int) = (l : Int) := by rw [IntKind.wrap_u64]; omega
  have HL : Kept (8 ≤ l) := ⟨h8⟩
  go_enter Tryd.func135, Tryd.ntmps135
  go_wp2_with fail
  refine C.out.mono ?_
  rintro e w1 ⟨⟨v, rfl, hv, hv2⟩, rfl⟩
  have h2 := hv2 HL.out
  clear hv2 C h8
  have hv3 : v = 0 ∨ v = 1 ∨ v = 2 ∨ v = 3 ∨ v = 4 ∨ v = 5 := by omega
  rcases hv3 with rfl | rfl | rfl | rfl | rfl | rfl
  · go_wp2_with fail
    go_ret
    exact ⟨⟨0, by omega, by first | rfl | kernel_rfl⟩, rfl⟩
  · go_wp2_with fail
    go_ret
    exact ⟨⟨1, by omega, by first | rfl | kernel_rfl⟩, rfl⟩
  · go_wp2_with fail
    go_ret
    exact ⟨⟨3, by omega, by first | rfl | kernel_rfl⟩, rfl⟩
  · go_wp2_with fail
    go_ret
    exact ⟨⟨7, by omega, by first | rfl | kernel_rfl⟩, rfl⟩
  · go_wp2_with fail
    go_ret
    exact ⟨⟨15, by omega, by first | rfl | kernel_rfl⟩, rfl⟩
  · go_wp2_with fail
    go_ret
    exact ⟨⟨31, by omega, by first | rfl | kernel_rfl⟩, rfl⟩
set_option maxRecDepth 100000 in
theorem next_any (z g : Nat) (w : World) (hk : Blk w g [.int .u64 (z : Int)] 148) (hz : z < 18446744073709551616) :
    Calls Tryd.prog 136 #[.pointer (some ⟨g, 0, none⟩)] w fun e w' => ∃ y : Nat, y < 18446744073709551616 ∧ e = .returned (.int .u64 (y : Int)) ∧ Blk w' g [.int .u64 (y : Int)] 148 ∧ Upd (fun k => k = g) w w' := by
  obtain ⟨z1, hz1, e1⟩ := xs_left z 8192 hz
  obtain ⟨z2, hz2, e2⟩ := xs_right z1 128 hz1
  obtain ⟨z3, hz3, e3⟩ := xs_left z2 131072 hz2
  have E1 : Kept (bits .xor .u64 (z : Int) (IntKind.u64.wrap ((z : Int) * 8192)) = (z1 : Int)) := ⟨e1⟩
  have E2 : Kept (bits .xor .u64 (z1 : Int) ((z1 : Int) / 128) = (z2 : Int)) := ⟨e2⟩
  have E3 : Kept (bits .xor .u64 (z2 : Int) (IntKind.u64.wrap ((z2 : Int) * 131072)) = (z3 : Int)) := ⟨e3⟩
  clear e1 e2 e3
  have HK := kept hk
  have c0 := hk.cell (j := 0) rfl
  have f0 := hk.frozen 0
  clear hk
  go_enter Tryd.func136, Tryd.ntmps136
  go_upto_region 2 with (go_region)
  rw [E1.out]
  have K1 : Kept (Blk (w.setCell ⟨g, 0, none⟩ (.int .u64 (z1 : Int))).drew g [.int .u64 (z1 : Int)] 148) := ⟨HK.out.set 0 _⟩
  have U1 : Kept (Upd (fun k => k = g) w (w.setCell ⟨g, 0, none⟩ (.int .u64 (z1 : Int))).drew) := ⟨((Upd.refl (fun k => k = g) w).setCell (p := ⟨g, 0, none⟩) (.inl rfl) _).drew⟩
  clear E1 HK c0 f0
  generalize (w.setCell ⟨g, 0, none⟩ (.int .u64 (z1 : Int))).drew = w1 at *
  have c1 := K1.out.cell (j := 0) rfl
  have f1 := K1.out.frozen 0
  go_upto_region 3 with (go_region)
  rw [E2.out]
  have K2 : Kept (Blk (w1.setCell ⟨g, 0, none⟩ (.int .u64 (z2 : Int))).drew g [.int .u64 (z2 : Int)] 148) := ⟨K1.out.set 0 _⟩
  have U2 : Kept (Upd (fun k => k = g) w (w1.setCell ⟨g, 0, none⟩ (.int .u64 (z2 : Int))).drew) := ⟨(U1.out.setCell (p := ⟨g, 0, none⟩) (.inl rfl) _).drew⟩
  clear E2 K1 U1 c1 f1
  generalize (w1.setCell ⟨g, 0, none⟩ (.int .u64 (z2 : Int))).drew = w2 at *
  have c2 := K2.out.cell (j := 0) rfl
  have f2 := K2.out.frozen 0
  go_upto_region 4 with (go_region)
  rw [E3.out]
  have K3 : Kept (Blk (w2.setCell ⟨g, 0, none⟩ (.int .u64 (z3 : Int))).drew g [.int .u64 (z3 : Int)] 148) := ⟨K2.out.set 0 _⟩
  have U3 : Kept (Upd (fun k => k = g) w (w2.setCell ⟨g, 0, none⟩ (.int .u64 (z3 : Int))).drew) := ⟨(U2.out.setCell (p := ⟨g, 0, none⟩) (.inl rfl) _).drew⟩
  clear E3 K2 U2 c2 f2
  generalize (w2.setCell ⟨g, 0, none⟩ (.int .u64 (z3 : Int))).drew = w3 at *
  have c3 := K3.out.cell (j := 0) rfl
  have HZ := kept hz3
  clear hz hz1 hz2 hz3
  go_wp2_with fail
  go_ret
  exact ⟨z3, HZ.out, rfl, K3.out, U3.out⟩
/-- what a generator beside the row adds to the row's state -/
structure BS (base : Nat) (A : Option Addr) (n c g : Nat) (w wr : World) (d : Array Nat) (x : Nat) : Prop where
  ps : PS base A n c w wr d
  blk : Blk wr g [.int .u64 (x : Int)] 148
  lt : x < 18446744073709551616
  new : w.heap.size ≤ g
section
variable {base : Nat} {A : Option Addr} {n c g r : Nat} {w wr w2 : World} {d : Array Nat} {x y : Nat}
theorem PS.alloc (h : PS base A n c w wr d) (o : Obj) : PS base A n c w (wr.alloc o) d := ⟨⟨h.row.1, byte_own.2 ((byte_own.1 h.row.2).next ((Below.refl _ _).alloc (Nat.le_refl _) o))⟩, h.upd.alloc o⟩
theorem BS.ne (h : BS base (some ⟨r, 0, none⟩) n c g w wr d x) : r ≠ g := by
  have h1 := OwnK.apartB (byte_own.1 h.ps.row.2) h.blk (by decide)
  intro e
  subst e
  rcases h1 with h1 | h1
  · cases h1
  · exact h1 rfl
theorem BS.next (h : BS base (some ⟨r, 0, none⟩) n c g w wr d x) (hb : Blk w2 g [.int .u64 (y : Int)] 148) (hy : y < 18446744073709551616) (hu : Upd (fun k => k = g) wr w2) : BS base (some ⟨r, 0, none⟩) n c g w w2 d y :=
  ⟨⟨⟨h.ps.row.1, byte_own.2 ((byte_own.1 h.ps.row.2).upd hu fun k hk e => h.ne ((Option.some.inj hk).trans e))⟩, h.ps.upd.join hu fun i hi e => by have := h.new; omega⟩, hb, hy, h.new⟩
theorem BS.drew (h : BS base A n c g w wr d x) : BS base A n c g w wr.drew d x := ⟨h.ps.drew, h.blk, h.lt, h.new⟩
theorem BS.swp (h : BS base (some ⟨r, 0, none⟩) n c g w wr d x) {i j : Nat} (hi : i < n) (hj : j < n) : BS base (some ⟨r, 0, none⟩) n c g w ((wr.setCell ⟨r, i, none⟩ (.int .u8 ((d[j]! : Nat) : Int))).setCell ⟨r, j, none⟩ (.int .u8 ((d[i]! : Nat) : Int))) (Go.Sort.swp d i j) x :=
  ⟨h.ps.swp hi hj, h.blk.upd ((PS.start h.ps.row).swp hi hj).upd (fun e => h.ne (Option.some.inj e)), h.lt, h.new⟩
end
end Go.Proofs.YtfkfpanhbanljaaDoor.SortY

/- Sorting bytes: breakPatterns: a permutation. (printed by tools/genpdm.py) -/
namespace Go.Proofs.YtfkfpanhbanljaaDoor.SortY
open Go.RowKit Go.Proofs.YtfkfpanhbanljaaDoor.Mem Go.Proofs.YtfkfpanhbanljaaDoor.Shift

set_option maxRecDepth 100000 in
set_option maxHeartbeats 8000000 in
theorem break_any (base : Nat) (A : Option Addr) (n c : Nat) (d : Array Nat) (a b : Nat) (w : World) (h : RowD w base A n c d) (hab : a + 8 ≤ b) (h25 : b ≤ a + 25) (hb : b ≤ n) (hn : n ≤ 1000) :
    Calls Tryd.prog 102 #[.slice A n c, .int .i64 (a : Int), .int .i64 (b : Int)] w fun e w' => e = .returned (.tuple #[]) ∧ ∃ d', PS base A n c w w' d' ∧ Go.Sort.PermIn a b d d' := by
  obtain ⟨l, hl⟩ : ∃ l, b - a = l := ⟨_, rfl⟩
  obtain ⟨j0, hj0⟩ : ∃ j0, a + l / 4 * 2 - 1 = j0 := ⟨_, rfl⟩
  have HP := kept (PS.start h)
  obtain ⟨r, rfl⟩ := HP.out.ad (by omega)
  clear h
  have hw1 : IntKind.i64.wrap ((b : Int) - (a : Int)) = (l : Int) := by rw [IntKind.wrap_i64]; omega
  have hbm : (b : Int) - (a : Int) = (l : Int) := by omega
  have hl8 : 8 ≤ l := by omega
  have hl25 : l ≤ 25 := by omega
  have hli : (8 : Int) ≤ (l : Int) := by omega
  have hlw : IntKind.u64.wrap (l : Int) = (l : Int) := by rw [IntKind.wrap_u64]; omega
  have q1 : Int.tdiv (l : Int) 4 = ((l / 4 : Nat) : Int) := (Int.ofNat_tdiv l 4).symm
  have HJ : Kept ((a : Int) + (l : Int) / 4 * 2 - 1 = (j0 : Int) ∧ (a : Int) + (l : Int) / 4 * 2 + 1 = (j0 : Int) + 2) := ⟨by omega⟩
  have hja : a ≤ j0 := by omega
  have hjb : j0 + 2 < b := by omega
  have hbl : b = a + l := by omega
  have HBL := kept hbl
  clear hl hj0 hbl
  have CP := kept (fun W => pow_any l hl8 hl25 W)
  have HS0 : Kept (BS base (some ⟨r, 0, none⟩) n c (w.heap.size) w (w.alloc (.cells #[.int .u64 (l : Int)] 148)) d l) := ⟨⟨HP.out.alloc _, Blk.new w _ _, by omega, Nat.le_refl _⟩⟩
  clear HP
  go_enter Tryd.func102, Tryd.ntmps102
  go_wp2_with fail
  refine (CP.out _).mono ?_
  rintro e w1 ⟨⟨mo, hmo, rfl⟩, rfl⟩
  clear CP
  go_wp2_with fail
  go_loopw [9] (fun i wr => ∃ (q : Nat) (d2 : Array Nat) (x : Nat), j0 ≤ q ∧ q ≤ j0 + 3 ∧ i = .int .i64 (q : Int) ∧ Kept (Go.Sort.PermIn a b d d2) ∧ Kept (BS base (some ⟨r, 0, none⟩) n c (w.heap.size) w wr d2 x)) (fun i _ => j0 + 4 - (intOf i).toNat)
  case atStart => exact ⟨j0, d, l, by omega, by omega, by have := HJ.out.1; go_num, ⟨Go.Sort.permIn_refl d a b⟩, HS0⟩
  case round =>
    clear HS0
    obtain ⟨q, d2, x, hq1, hq2, rfl, HPI, HB⟩ := hrel
    by_cases hle : q ≤ j0 + 2
    · have hlei : (q : Int) ≤ (a : Int) + (l : Int) / 4 * 2 + 1 := by have := HJ.out.2; omega
      have C := kept (next_any x w.heap.size wr HB.out.blk HB.out.lt)
      go_wp2_with fail
      refine C.out.mono ?_
      rintro e w2 ⟨y, hy, rfl, hk, hu⟩
      have HB2 := kept (HB.out.next hk hy hu)
      clear C HB hk hu
      obtain ⟨ot, hot, HO⟩ := and_less y mo hy (by omega)
      have hm1 : IntKind.u64.wrap ((mo : Int) + 1 - 1) = (mo : Int) := by rw [IntKind.wrap_u64]; omega
      have hot2 : ot < 2 * l := by omega
      have how : IntKind.i64.wrap (ot : Int) = (ot : Int) := by rw [IntKind.wrap_i64]; omega
      clear hy
      by_cases hge : l ≤ ot
      · have hgi : (l : Int) ≤ (ot : Int) := by omega
        obtain ⟨t, ht⟩ : ∃ t, ot - l = t := ⟨_, rfl⟩
        have htl : t < l := by omega
        have hti : (ot : Int) - (l : Int) = (t : Int) := by omega
        have hab2 : a + l ≤ b := by have := HBL.out; omega
        clear ht
        go_upto_region 10 with fail
        have hin1 : q < n := by omega
        have hin2 : a + t < n := by omega
        obtain ⟨c0, f0⟩ := HB2.out.ps.at hin1
        obtain ⟨c1, f1⟩ := HB2.out.ps.at hin2
        have HP2 : Kept (Go.Sort.PermIn a b d (Go.Sort.swp d2 q (a + t))) := ⟨Go.Sort.permIn_trans _ _ _ a b HPI.out (Go.Sort.swp_permIn d2 a b q (a + t) (by omega) (by omega) (by omega) (by omega) (by have := HB2.out.ps.size; omega))⟩
        have HS : Kept (BS base (some ⟨r, 0, none⟩) n c (w.heap.size) w ((w2.drew.setCell ⟨r, q, none⟩ (.int .u8 ((d2[a + t]! : Nat) : Int))).setCell ⟨r, a + t, none⟩ (.int .u8 ((d2[q]! : Nat) : Int))) (Go.Sort.swp d2 q (a + t)) y) := ⟨HB2.out.drew.swp hin1 hin2⟩
        clear HB2 HPI
        generalize Go.Sort.swp d2 q (a + t) = d3 at *
        by_cases hij : q = a + t
        · subst hij
          generalize d2[a + t]! = v0 at *
          go_region
          all_goals go_wp2_with fail
          all_goals go_roundw
          all_goals first | exact ⟨a + t + 1, d3, y, by omega, by omega, by go_num, HP2, HS⟩ | (simp [intOf]; omega)
        · have hij2 : ¬ a + t = q := fun h => hij h.symm
          generalize d2[q]! = v0 at *
          generalize d2[a + t]! = v1 at *
          go_region
          all_goals go_wp2_with fail
          all_goals go_roundw
          all_goals first | exact ⟨q + 1, d3, y, by omega, by omega, by go_num, HP2, HS⟩ | (simp [intOf]; omega)
      · have hgi : ¬ (l : Int) ≤ (ot : Int) := by omega
        obtain ⟨t, rfl⟩ : ∃ t, t = ot := ⟨_, rfl⟩
        have htl : t < l := by omega
        have hab2 : a + l ≤ b := by have := HBL.out; omega
        go_upto_region 10 with fail
        have hin1 : q < n := by omega
        have hin2 : a + t < n := by omega
        obtain ⟨c0, f0⟩ := HB2.out.ps.at hin1
        obtain ⟨c1, f1⟩ := HB2.out.ps.at hin2
        have HP2 : Kept (Go.Sort.PermIn a b d (Go.Sort.swp d2 q (a + t))) := ⟨Go.Sort.permIn_trans _ _ _ a b HPI.out (Go.Sort.swp_permIn d2 a b q (a + t) (by omega) (by omega) (by omega) (by omega) (by have := HB2.out.ps.size; omega))⟩
        have HS : Kept (BS base (some ⟨r, 0, none⟩) n c (w.heap.size) w ((w2.drew.setCell ⟨r, q, none⟩ (.int .u8 ((d2[a + t]! : Nat) : Int))).setCell ⟨r, a + t, none⟩ (.int .u8 ((d2[q]! : Nat) : Int))) (Go.Sort.swp d2 q (a + t)) y) := ⟨HB2.out.drew.swp hin1 hin2⟩
        clear HB2 HPI
        generalize Go.Sort.swp d2 q (a + t) = d3 at *
        by_cases hij : q = a + t
        · subst hij
          generalize d2[a + t]! = v0 at *
          go_region
          all_goals go_wp2_with fail
          all_goals go_roundw
          all_goals first | exact ⟨a + t + 1, d3, y, by omega, by omega, by go_num, HP2, HS⟩ | (simp [intOf]; omega)
        · have hij2 : ¬ a + t = q := fun h => hij h.symm
          generalize d2[q]! = v0 at *
          generalize d2[a + t]! = v1 at *
          go_region
          all_goals go_wp2_with fail
          all_goals go_roundw
          all_goals first | exact ⟨q + 1, d3, y, by omega, by omega, by go_num, HP2, HS⟩ | (simp [intOf]; omega)
    · have hlei : ¬ (q : Int) ≤ (a : Int) + (l : Int) / 4 * 2 + 1 := by have := HJ.out.2; omega
      go_wp2_with fail
      go_end0
      exact ⟨rfl, d2, HB.out.ps, HPI.out⟩
end Go.Proofs.YtfkfpanhbanljaaDoor.SortY

/- Sorting bytes: partitionOrdered. (printed by tools/genpdr.py) -/
namespace Go.Proofs.YtfkfpanhbanljaaDoor.SortY
open Go.RowKit Go.Proofs.YtfkfpanhbanljaaDoor.Mem

set_option maxRecDepth 100000 in
set_option maxHeartbeats 8000000 in
theorem part_any (base : Nat) (A : Option Addr) (n c : Nat) (d : Array Nat) (a b v : Nat) (w : World) (h : RowD w base A n c d) (hav : a ≤ v) (hvb : v < b) (hb : b ≤ n) (hn : n ≤ 1000) :
    Calls Tryd.prog 108 #[.slice A n c, .int .i64 (a : Int), .int .i64 (b : Int), .int .i64 (v : Int)] w fun e w' => e = .returned (.tuple #[.int .i64 ((Go.Sort.partition ltB d a b v).1 : Int), .bool (Go.Sort.partition ltB d a b v).2.1]) ∧ PS base A n c w w' (Go.Sort.partition ltB d a b v).2.2 := by
  obtain ⟨m, rfl⟩ : ∃ m, b = m + 1 := ⟨b - 1, by omega⟩
  obtain ⟨R, hR⟩ : ∃ R, Go.Sort.partition ltB d a (m + 1) v = R := ⟨_, rfl⟩
  obtain ⟨d0, hd0⟩ : ∃ d0, Go.Sort.swp d a v = d0 := ⟨_, rfl⟩
  obtain ⟨i0, hi0⟩ : ∃ i0, Go.Sort.scanUp (fun x => ltB x d0[a]!) d0 m (a + 1) = i0 := ⟨_, rfl⟩
  obtain ⟨j0, hj0⟩ : ∃ j0, Go.Sort.scanDown (fun x => !ltB x d0[a]!) d0 i0 m = j0 := ⟨_, rfl⟩
  have hin : a + 1 ≤ i0 ∧ i0 ≤ m + 1 := by rw [← hi0]; exact scanUp_in (by omega)
  have hjn : j0 ≤ m ∧ i0 ≤ j0 + 1 := by rw [← hj0]; exact scanDown_in (by omega)
  have HONE : Kept (i0 > j0 → R = (j0, true, Go.Sort.swp d0 j0 a)) := ⟨fun h => by rw [← hR]; exact part_one hd0 hi0 hj0 h⟩
  have HTWO : Kept (¬ i0 > j0 → R = ((Go.Sort.partLoop ltB a (i0 + 1) (j0 - 1) (Go.Sort.swp d0 i0 j0)).1, false, Go.Sort.swp (Go.Sort.partLoop ltB a (i0 + 1) (j0 - 1) (Go.Sort.swp d0 i0 j0)).2 (Go.Sort.partLoop ltB a (i0 + 1) (j0 - 1) (Go.Sort.swp d0 i0 j0)).1 a)) := ⟨fun h => by rw [← hR]; exact part_two hd0 hi0 hj0 h⟩
  rw [hR]
  clear hR
  have HSWE := kept hd0
  have HI0 := kept hi0
  have HSC := kept hi0
  have HJ0 := kept hj0
  have HP := kept (PS.start h)
  obtain ⟨r, rfl⟩ := HP.out.ad (by omega)
  clear h hd0 hi0 hj0
  have hw0 : IntKind.i64.wrap (m : Int) = (m : Int) := IntWalk.i64_in _ (by omega)
  go_enter Tryd.func108, Tryd.ntmps108
  go_upto_region 1 with fail
  go_cut [] (fun wx => Kept (PS base (some ⟨r, 0, none⟩) n c w wx d0))
  case first => as_aux_lemma =>
    clear HONE HTWO HI0 HJ0 HSC
    have hin1 : a < n := by omega
    have hin2 : v < n := by omega
    obtain ⟨c0, f0⟩ := HP.out.at hin1
    obtain ⟨c1, f1⟩ := HP.out.at hin2
    have HSW : Kept (PS base (some ⟨r, 0, none⟩) n c w ((w.drew.setCell ⟨r, a, none⟩ (.int .u8 ((d[v]! : Nat) : Int))).setCell ⟨r, v, none⟩ (.int .u8 ((d[a]! : Nat) : Int))) d0) := ⟨by rw [← HSWE.out]; exact HP.out.drew.swp hin1 hin2⟩
    clear HP HSWE
    by_cases hij : a = v
    · subst hij
      generalize d[a]! = v0 at *
      go_region
      all_goals go_wp2_with fail
      all_goals go_meet
      all_goals exact HSW
    · have hij2 : ¬ v = a := fun h => hij h.symm
      generalize d[a]! = v0 at *
      generalize d[v]! = v1 at *
      go_region
      all_goals go_wp2_with fail
      all_goals go_meet
      all_goals exact HSW
  case rest =>
    clear HP
    have HP := hcut
    clear hcut HSWE
    go_wp2_with fail
    go_loopw [10] (fun i wr => ∃ k : Nat, a + 1 ≤ k ∧ k ≤ m + 1 ∧ i = .int .i64 (k : Int) ∧ Kept (Go.Sort.scanUp (fun x => ltB x d0[a]!) d0 m k = i0) ∧ Kept (PS base (some ⟨r, 0, none⟩) n c w wr d0)) (fun i _ => m + 1 - (intOf i).toNat)
    case atStart => exact ⟨(a + 1), by omega, by omega, by go_num, HSC, HP⟩
    case round =>
      clear HSC HP
      obtain ⟨k, hk1, hk2, rfl, HSC, HP⟩ := hrel
      obtain ⟨BB, hBB⟩ : ∃ BB, (decide (k ≤ m) && ltB d0[k]! d0[a]!) = BB := ⟨_, rfl⟩
      have HBB := kept hBB
      clear hBB
      go_upto_region 3 with fail
      go_cut [43] (fun b wx => b = .bool BB ∧ Kept (PS base (some ⟨r, 0, none⟩) n c w wx d0))
      case first => as_aux_lemma =>
        clear HSC HONE HTWO HI0 HJ0
        by_cases hkj : k ≤ m
        · have hki : (k : Int) ≤ (m : Int) := by omega
          have hkd : decide ((k : Int) ≤ (m : Int)) = true := decide_eq_true hki
          obtain ⟨c0, f0⟩ := HP.out.at (k := k) (by omega)
          obtain ⟨c1, f1⟩ := HP.out.at (k := a) (by omega)
          have HB2 := HBB.out
          rw [decide_eq_true hkj, Bool.true_and] at HB2
          have CL := kept (fun W => less_any (d0[k]!) (d0[a]!) BB HB2 W)
          clear HB2 HBB
          generalize d0[k]! = vk at *
          generalize d0[a]! = va at *
          have hkn : (k : Int) < (n : Int) := by omega
          have han : (a : Int) < (n : Int) := by omega
          go_big_quiet (first | (go_at_call 106; exact Calls.quiet_of_same (CL.out _)))
          go_wp2_with fail
          go_meet
          first | exact ⟨rfl, ⟨HP.out.drewN _⟩⟩ | exact ⟨by cases BB <;> rfl, ⟨HP.out.drewN _⟩⟩
        · have hki : ¬ (k : Int) ≤ (m : Int) := by omega
          have hkd : decide ((k : Int) ≤ (m : Int)) = false := decide_eq_false hki
          have HB2 : Kept (BB = false) := ⟨by rw [← HBB.out, decide_eq_false hkj, Bool.false_and]⟩
          clear HBB
          obtain rfl := HB2.out
          clear HB2
          go_big_quiet (fail)
          go_wp2_with fail
          go_meet
          exact ⟨rfl, ⟨HP.out.drewN _⟩⟩
      case rest =>
        clear HP
        obtain ⟨rfl, HP⟩ := hcut
        have HK : Kept (BB = true → (k ≤ m) ∧ (ltB d0[k]! d0[a]!) = true) := ⟨fun h => by
          have h2 := HBB.out
          rw [h, Bool.and_eq_true] at h2
          exact ⟨of_decide_eq_true h2.1, h2.2⟩⟩
        have HK2 : Kept (BB = false → (k ≤ m) → (ltB d0[k]! d0[a]!) = false) := ⟨fun h h3 => by
          have h2 := HBB.out
          rw [h, decide_eq_true h3, Bool.true_and] at h2
          exact h2⟩
        clear HBB
        cases BB with
        | true =>
          have hkj := (HK.out rfl).1
          have HSC2 : Kept (Go.Sort.scanUp (fun x => ltB x d0[a]!) d0 m (k + 1) = i0) := ⟨by rw [← su_step hkj (HK.out rfl).2]; exact HSC.out⟩
          clear HK HK2 HSC
          go_wp2_with fail
          go_roundw
          case rel => exact ⟨k + 1, by omega, by omega, by go_num, HSC2, HP⟩
          case measure => simp [intOf]; omega
        | false =>
          have HE : Kept (i0 = k) := ⟨by rw [← HSC.out]; exact su_stop (HK2.out rfl)⟩
          clear HK HK2 HSC
          obtain rfl := HE.out
          clear HE
          have HSC := HJ0
          go_wp2_with fail
          go_loopw [11] (fun i wr => ∃ k : Nat, k ≤ m ∧ i0 ≤ k + 1 ∧ i = .int .i64 (k : Int) ∧ Kept (Go.Sort.scanDown (fun x => !ltB x d0[a]!) d0 i0 k = j0) ∧ Kept (PS base (some ⟨r, 0, none⟩) n c w wr d0)) (fun i _ => (intOf i).toNat)
          case atStart => exact ⟨m, by omega, by omega, by go_num, HSC, HP⟩
          case round =>
            clear HSC HP
            obtain ⟨k, hk1, hk2, rfl, HSC, HP⟩ := hrel
            obtain ⟨BB, hBB⟩ : ∃ BB, (decide (i0 ≤ k) && !ltB d0[k]! d0[a]!) = BB := ⟨_, rfl⟩
            have HBB := kept hBB
            clear hBB
            go_upto_region 5 with fail
            go_cut [60] (fun b wx => b = .bool BB ∧ Kept (PS base (some ⟨r, 0, none⟩) n c w wx d0))
            case first => as_aux_lemma =>
              clear HSC HONE HTWO HI0 HJ0
              by_cases hkj : i0 ≤ k
              · have hki : (i0 : Int) ≤ (k : Int) := by omega
                have hkd : decide ((i0 : Int) ≤ (k : Int)) = true := decide_eq_true hki
                obtain ⟨c0, f0⟩ := HP.out.at (k := k) (by omega)
                obtain ⟨c1, f1⟩ := HP.out.at (k := a) (by omega)
                have HB2 := HBB.out
                rw [decide_eq_true hkj, Bool.true_and] at HB2
                have CL := kept (fun W => less_any (d0[k]!) (d0[a]!) (!BB) (by rw [← HB2, Bool.not_not]; rfl) W)
                clear HB2 HBB
                generalize d0[k]! = vk at *
                generalize d0[a]! = va at *
                have hkn : (k : Int) < (n : Int) := by omega
                have han : (a : Int) < (n : Int) := by omega
                go_big_quiet (first | (go_at_call 106; exact Calls.quiet_of_same (CL.out _)))
                go_wp2_with fail
                go_meet
                first | exact ⟨rfl, ⟨HP.out.drewN _⟩⟩ | exact ⟨by cases BB <;> rfl, ⟨HP.out.drewN _⟩⟩
              · have hki : ¬ (i0 : Int) ≤ (k : Int) := by omega
                have hkd : decide ((i0 : Int) ≤ (k : Int)) = false := decide_eq_false hki
                have HB2 : Kept (BB = false) := ⟨by rw [← HBB.out, decide_eq_false hkj, Bool.false_and]⟩
                clear HBB
                obtain rfl := HB2.out
                clear HB2
                go_big_quiet (fail)
                go_wp2_with fail
                go_meet
                exact ⟨rfl, ⟨HP.out.drewN _⟩⟩
            case rest =>
              clear HP
              obtain ⟨rfl, HP⟩ := hcut
              have HK : Kept (BB = true → (i0 ≤ k) ∧ (!ltB d0[k]! d0[a]!) = true) := ⟨fun h => by
                have h2 := HBB.out
                rw [h, Bool.and_eq_true] at h2
                exact ⟨of_decide_eq_true h2.1, h2.2⟩⟩
              have HK2 : Kept (BB = false → (i0 ≤ k) → (!ltB d0[k]! d0[a]!) = false) := ⟨fun h h3 => by
                have h2 := HBB.out
                rw [h, decide_eq_true h3, Bool.true_and] at h2
                exact h2⟩
              clear HBB
              cases BB with
              | true =>
                have hkj := (HK.out rfl).1
                have HSC2 : Kept (Go.Sort.scanDown (fun x => !ltB x d0[a]!) d0 i0 (k - 1) = j0) := ⟨by rw [← sd_step (by omega) hkj (HK.out rfl).2]; exact HSC.out⟩
                clear HK HK2 HSC
                go_wp2_with fail
                go_roundw
                case rel => exact ⟨k - 1, by omega, by omega, by go_num, HSC2, HP⟩
                case measure => simp [intOf]; omega
              | false =>
                have HE : Kept (j0 = k) := ⟨by rw [← HSC.out]; exact sd_stop (HK2.out rfl)⟩
                clear HK HK2 HSC
                obtain rfl := HE.out
                clear HE
                by_cases hgt : i0 > j0
                · have hgi : (j0 : Int) < (i0 : Int) := by omega
                  obtain ⟨dE, hdE⟩ : ∃ dE, Go.Sort.swp d0 j0 a = dE := ⟨_, rfl⟩
                  have HR3 : Kept (R = (j0, true, dE)) := ⟨by rw [HONE.out hgt, hdE]⟩
                  have HSWE := kept hdE
                  clear hdE HONE HTWO HI0 HJ0
                  obtain rfl := HR3.out
                  clear HR3
                  go_upto_region 8 with fail
                  go_cut [] (fun wx => Kept (PS base (some ⟨r, 0, none⟩) n c w wx dE))
                  case first => as_aux_lemma =>
                    skip
                    have hin1 : j0 < n := by omega
                    have hin2 : a < n := by omega
                    obtain ⟨c0, f0⟩ := HP.out.at hin1
                    obtain ⟨c1, f1⟩ := HP.out.at hin2
                    have HSW : Kept (PS base (some ⟨r, 0, none⟩) n c w ((wc.drew.setCell ⟨r, j0, none⟩ (.int .u8 ((d0[a]! : Nat) : Int))).setCell ⟨r, a, none⟩ (.int .u8 ((d0[j0]! : Nat) : Int))) dE) := ⟨by rw [← HSWE.out]; exact HP.out.drew.swp hin1 hin2⟩
                    clear HP HSWE
                    by_cases hij : j0 = a
                    · subst hij
                      generalize d0[j0]! = v0 at *
                      go_region
                      all_goals go_wp2_with fail
                      all_goals go_meet
                      all_goals exact HSW
                    · have hij2 : ¬ a = j0 := fun h => hij h.symm
                      generalize d0[j0]! = v0 at *
                      generalize d0[a]! = v1 at *
                      go_region
                      all_goals go_wp2_with fail
                      all_goals go_meet
                      all_goals exact HSW
                  case rest =>
                    clear HP
                    have HP := hcut
                    clear hcut
                    go_wp2_with fail
                    exact bodyPost_ret (v := .tuple #[.int .i64 (j0 : Int), .bool true]) (by simp [results, Tryd.results108]) rfl ⟨rfl, HP.out⟩
                · have hgi : ¬ (j0 : Int) < (i0 : Int) := by omega
                  have hne : i0 < j0 := scans_ne HI0.out HJ0.out (by omega) (by omega) hgt
                  obtain ⟨dF, hdF⟩ : ∃ dF, Go.Sort.swp d0 i0 j0 = dF := ⟨_, rfl⟩
                  obtain ⟨RR, hRR⟩ : ∃ RR, Go.Sort.partLoop ltB a (i0 + 1) (j0 - 1) dF = RR := ⟨_, rfl⟩
                  have HRR : Kept (R = (RR.1, false, Go.Sort.swp RR.2 RR.1 a)) := ⟨by rw [HTWO.out hgt, hdF, hRR]⟩
                  have HSWE := kept hdF
                  have HPL := kept hRR
                  clear hdF hRR HONE HTWO HI0 HJ0
                  go_upto_region 10 with fail
                  go_cut [] (fun wx => Kept (PS base (some ⟨r, 0, none⟩) n c w wx dF))
                  case first => as_aux_lemma =>
                    clear HRR HPL
                    have hin1 : i0 < n := by omega
                    have hin2 : j0 < n := by omega
                    obtain ⟨c0, f0⟩ := HP.out.at hin1
                    obtain ⟨c1, f1⟩ := HP.out.at hin2
                    have HSW : Kept (PS base (some ⟨r, 0, none⟩) n c w ((wc.drew.setCell ⟨r, i0, none⟩ (.int .u8 ((d0[j0]! : Nat) : Int))).setCell ⟨r, j0, none⟩ (.int .u8 ((d0[i0]! : Nat) : Int))) dF) := ⟨by rw [← HSWE.out]; exact HP.out.drew.swp hin1 hin2⟩
                    clear HP HSWE
                    have hij : ¬ i0 = j0 := by omega
                    clear hne
                    · have hij2 : ¬ j0 = i0 := fun h => hij h.symm
                      generalize d0[i0]! = v0 at *
                      generalize d0[j0]! = v1 at *
                      go_region
                      all_goals go_wp2_with fail
                      all_goals go_meet
                      all_goals exact HSW
                  case rest =>
                    clear HP
                    have HP := hcut
                    clear hcut
                    go_wp2_with fail
                    go_loopw [10, 11] (fun i j wr => ∃ (p q : Nat) (d2 : Array Nat), a + 1 ≤ p ∧ p ≤ q + 1 ∧ q ≤ m ∧ i = .int .i64 (p : Int) ∧ j = .int .i64 (q : Int) ∧ Kept (Go.Sort.partLoop ltB a p q d2 = RR) ∧ Kept (PS base (some ⟨r, 0, none⟩) n c w wr d2)) (fun i j _ => (intOf j).toNat + 2 - (intOf i).toNat)
                    case atStart => exact ⟨i0 + 1, j0 - 1, dF, by omega, by omega, by omega, by go_num, by go_num, HPL, HP⟩
                    case round =>
                      clear HPL HP
                      obtain ⟨p, q, d2, hp1, hp2, hp3, rfl, rfl, HPL, HP⟩ := hrel
                      obtain ⟨i2, hi2⟩ : ∃ i2, Go.Sort.scanUp (fun x => ltB x d2[a]!) d2 q p = i2 := ⟨_, rfl⟩
                      obtain ⟨j2, hj2⟩ : ∃ j2, Go.Sort.scanDown (fun x => !ltB x d2[a]!) d2 i2 q = j2 := ⟨_, rfl⟩
                      have hin2 : p ≤ i2 ∧ i2 ≤ q + 1 := by rw [← hi2]; exact scanUp_in (by omega)
                      have hjn2 : j2 ≤ q ∧ i2 ≤ j2 + 1 := by rw [← hj2]; exact scanDown_in (by omega)
                      have HI2 := kept hi2
                      have HJ2 := kept hj2
                      have HSC := kept hi2
                      clear hi2 hj2
                      go_wp2_with fail
                      go_loopw [10] (fun i wr => ∃ k : Nat, a + 1 ≤ k ∧ k ≤ q + 1 ∧ i = .int .i64 (k : Int) ∧ Kept (Go.Sort.scanUp (fun x => ltB x d2[a]!) d2 q k = i2) ∧ Kept (PS base (some ⟨r, 0, none⟩) n c w wr d2)) (fun i _ => q + 1 - (intOf i).toNat)
                      case atStart => exact ⟨p, by omega, by omega, by go_num, HSC, HP⟩
                      case round =>
                        clear HSC HP
                        obtain ⟨k, hk1, hk2, rfl, HSC, HP⟩ := hrel
                        obtain ⟨BB, hBB⟩ : ∃ BB, (decide (k ≤ q) && ltB d2[k]! d2[a]!) = BB := ⟨_, rfl⟩
                        have HBB := kept hBB
                        clear hBB
                        go_upto_region 13 with fail
                        go_cut [112] (fun b wx => b = .bool BB ∧ Kept (PS base (some ⟨r, 0, none⟩) n c w wx d2))
                        case first => as_aux_lemma =>
                          clear HSC HRR HPL HI2 HJ2
                          by_cases hkj : k ≤ q
                          · have hki : (k : Int) ≤ (q : Int) := by omega
                            have hkd : decide ((k : Int) ≤ (q : Int)) = true := decide_eq_true hki
                            obtain ⟨c0, f0⟩ := HP.out.at (k := k) (by omega)
                            obtain ⟨c1, f1⟩ := HP.out.at (k := a) (by omega)
                            have HB2 := HBB.out
                            rw [decide_eq_true hkj, Bool.true_and] at HB2
                            have CL := kept (fun W => less_any (d2[k]!) (d2[a]!) BB HB2 W)
                            clear HB2 HBB
                            generalize d2[k]! = vk at *
                            generalize d2[a]! = va at *
                            have hkn : (k : Int) < (n : Int) := by omega
                            have han : (a : Int) < (n : Int) := by omega
                            go_big_quiet (first | (go_at_call 106; exact Calls.quiet_of_same (CL.out _)))
                            go_wp2_with fail
                            go_meet
                            first | exact ⟨rfl, ⟨HP.out.drewN _⟩⟩ | exact ⟨by cases BB <;> rfl, ⟨HP.out.drewN _⟩⟩
                          · have hki : ¬ (k : Int) ≤ (q : Int) := by omega
                            have hkd : decide ((k : Int) ≤ (q : Int)) = false := decide_eq_false hki
                            have HB2 : Kept (BB = false) := ⟨by rw [← HBB.out, decide_eq_false hkj, Bool.false_and]⟩
                            clear HBB
                            obtain rfl := HB2.out
                            clear HB2
                            go_big_quiet (fail)
                            go_wp2_with fail
                            go_meet
                            exact ⟨rfl, ⟨HP.out.drewN _⟩⟩
                        case rest =>
                          clear HP
                          obtain ⟨rfl, HP⟩ := hcut
                          have HK : Kept (BB = true → (k ≤ q) ∧ (ltB d2[k]! d2[a]!) = true) := ⟨fun h => by
                            have h2 := HBB.out
                            rw [h, Bool.and_eq_true] at h2
                            exact ⟨of_decide_eq_true h2.1, h2.2⟩⟩
                          have HK2 : Kept (BB = false → (k ≤ q) → (ltB d2[k]! d2[a]!) = false) := ⟨fun h h3 => by
                            have h2 := HBB.out
                            rw [h, decide_eq_true h3, Bool.true_and] at h2
                            exact h2⟩
                          clear HBB
                          cases BB with
                          | true =>
                            have hkj := (HK.out rfl).1
                            have HSC2 : Kept (Go.Sort.scanUp (fun x => ltB x d2[a]!) d2 q (k + 1) = i2) := ⟨by rw [← su_step hkj (HK.out rfl).2]; exact HSC.out⟩
                            clear HK HK2 HSC
                            go_wp2_with fail
                            go_roundw
                            case rel => exact ⟨k + 1, by omega, by omega, by go_num, HSC2, HP⟩
                            case measure => simp [intOf]; omega
                          | false =>
                            have HE : Kept (i2 = k) := ⟨by rw [← HSC.out]; exact su_stop (HK2.out rfl)⟩
                            clear HK HK2 HSC
                            obtain rfl := HE.out
                            clear HE
                            have HSC := HJ2
                            go_wp2_with fail
                            go_loopw [11] (fun i wr => ∃ k : Nat, k ≤ q ∧ i2 ≤ k + 1 ∧ i = .int .i64 (k : Int) ∧ Kept (Go.Sort.scanDown (fun x => !ltB x d2[a]!) d2 i2 k = j2) ∧ Kept (PS base (some ⟨r, 0, none⟩) n c w wr d2)) (fun i _ => (intOf i).toNat)
                            case atStart => exact ⟨q, by omega, by omega, by go_num, HSC, HP⟩
                            case round =>
                              clear HSC HP
                              obtain ⟨k, hk1, hk2, rfl, HSC, HP⟩ := hrel
                              obtain ⟨BB, hBB⟩ : ∃ BB, (decide (i2 ≤ k) && !ltB d2[k]! d2[a]!) = BB := ⟨_, rfl⟩
                              have HBB := kept hBB
                              clear hBB
                              go_upto_region 15 with fail
                              go_cut [129] (fun b wx => b = .bool BB ∧ Kept (PS base (some ⟨r, 0, none⟩) n c w wx d2))
                              case first => as_aux_lemma =>
                                clear HSC HRR HPL HI2 HJ2
                                by_cases hkj : i2 ≤ k
                                · have hki : (i2 : Int) ≤ (k : Int) := by omega
                                  have hkd : decide ((i2 : Int) ≤ (k : Int)) = true := decide_eq_true hki
                                  obtain ⟨c0, f0⟩ := HP.out.at (k := k) (by omega)
                                  obtain ⟨c1, f1⟩ := HP.out.at (k := a) (by omega)
                                  have HB2 := HBB.out
                                  rw [decide_eq_true hkj, Bool.true_and] at HB2
                                  have CL := kept (fun W => less_any (d2[k]!) (d2[a]!) (!BB) (by rw [← HB2, Bool.not_not]; rfl) W)
                                  clear HB2 HBB
                                  generalize d2[k]! = vk at *
                                  generalize d2[a]! = va at *
                                  have hkn : (k : Int) < (n : Int) := by omega
                                  have han : (a : Int) < (n : Int) := by omega
                                  go_big_quiet (first | (go_at_call 106; exact Calls.quiet_of_same (CL.out _)))
                                  go_wp2_with fail
                                  go_meet
                                  first | exact ⟨rfl, ⟨HP.out.drewN _⟩⟩ | exact ⟨by cases BB <;> rfl, ⟨HP.out.drewN _⟩⟩
                                · have hki : ¬ (i2 : Int) ≤ (k : Int) := by omega
                                  have hkd : decide ((i2 : Int) ≤ (k : Int)) = false := decide_eq_false hki
                                  have HB2 : Kept (BB = false) := ⟨by rw [← HBB.out, decide_eq_false hkj, Bool.false_and]⟩
                                  clear HBB
                                  obtain rfl := HB2.out
                                  clear HB2
                                  go_big_quiet (fail)
                                  go_wp2_with fail
                                  go_meet
                                  exact ⟨rfl, ⟨HP.out.drewN _⟩⟩
                              case rest =>
                                clear HP
                                obtain ⟨rfl, HP⟩ := hcut
                                have HK : Kept (BB = true → (i2 ≤ k) ∧ (!ltB d2[k]! d2[a]!) = true) := ⟨fun h => by
                                  have h2 := HBB.out
                                  rw [h, Bool.and_eq_true] at h2
                                  exact ⟨of_decide_eq_true h2.1, h2.2⟩⟩
                                have HK2 : Kept (BB = false → (i2 ≤ k) → (!ltB d2[k]! d2[a]!) = false) := ⟨fun h h3 => by
                                  have h2 := HBB.out
                                  rw [h, decide_eq_true h3, Bool.true_and] at h2
                                  exact h2⟩
                                clear HBB
                                cases BB with
                                | true =>
                                  have hkj := (HK.out rfl).1
                                  have HSC2 : Kept (Go.Sort.scanDown (fun x => !ltB x d2[a]!) d2 i2 (k - 1) = j2) := ⟨by rw [← sd_step (by omega) hkj (HK.out rfl).2]; exact HSC.out⟩
                                  clear HK HK2 HSC
                                  go_wp2_with fail
                                  go_roundw
                                  case rel => exact ⟨k - 1, by omega, by omega, by go_num, HSC2, HP⟩
                                  case measure => simp [intOf]; omega
                                | false =>
                                  have HE : Kept (j2 = k) := ⟨by rw [← HSC.out]; exact sd_stop (HK2.out rfl)⟩
                                  clear HK HK2 HSC
                                  obtain rfl := HE.out
                                  clear HE
                                  by_cases hgt : i2 > j2
                                  · have hgi : (j2 : Int) < (i2 : Int) := by omega
                                    obtain ⟨dE, hdE⟩ : ∃ dE, Go.Sort.swp d2 j2 a = dE := ⟨_, rfl⟩
                                    have HR3 : Kept (R = (j2, false, dE)) := ⟨by rw [HRR.out, ← HPL.out, partl_end HI2.out HJ2.out hgt, hdE]⟩
                                    have HSWE := kept hdE
                                    clear hdE HRR HPL HI2 HJ2
                                    obtain rfl := HR3.out
                                    clear HR3
                                    go_upto_region 21 with fail
                                    go_cut [] (fun wx => Kept (PS base (some ⟨r, 0, none⟩) n c w wx dE))
                                    case first => as_aux_lemma =>
                                      skip
                                      have hin1 : j2 < n := by omega
                                      have hin2 : a < n := by omega
                                      obtain ⟨c0, f0⟩ := HP.out.at hin1
                                      obtain ⟨c1, f1⟩ := HP.out.at hin2
                                      have HSW : Kept (PS base (some ⟨r, 0, none⟩) n c w ((wc.drew.setCell ⟨r, j2, none⟩ (.int .u8 ((d2[a]! : Nat) : Int))).setCell ⟨r, a, none⟩ (.int .u8 ((d2[j2]! : Nat) : Int))) dE) := ⟨by rw [← HSWE.out]; exact HP.out.drew.swp hin1 hin2⟩
                                      clear HP HSWE
                                      by_cases hij : j2 = a
                                      · subst hij
                                        generalize d2[j2]! = v0 at *
                                        go_region
                                        all_goals go_wp2_with fail
                                        all_goals go_meet
                                        all_goals exact HSW
                                      · have hij2 : ¬ a = j2 := fun h => hij h.symm
                                        generalize d2[j2]! = v0 at *
                                        generalize d2[a]! = v1 at *
                                        go_region
                                        all_goals go_wp2_with fail
                                        all_goals go_meet
                                        all_goals exact HSW
                                    case rest =>
                                      clear HP
                                      have HP := hcut
                                      clear hcut
                                      go_wp2_with fail
                                      exact bodyPost_ret (v := .tuple #[.int .i64 (j2 : Int), .bool false]) (by simp [results, Tryd.results108]) rfl ⟨rfl, HP.out⟩
                                  · have hgi : ¬ (j2 : Int) < (i2 : Int) := by omega
                                    have hne : i2 < j2 := scans_ne HI2.out HJ2.out (by omega) (by omega) hgt
                                    obtain ⟨dE, hdE⟩ : ∃ dE, Go.Sort.swp d2 i2 j2 = dE := ⟨_, rfl⟩
                                    have HPL2 : Kept (Go.Sort.partLoop ltB a (i2 + 1) (j2 - 1) dE = RR) := ⟨by rw [← HPL.out, partl_step HI2.out HJ2.out hgt, hdE]⟩
                                    have HSWE := kept hdE
                                    clear hdE HPL HI2 HJ2
                                    go_upto_region 18 with fail
                                    go_cut [] (fun wx => Kept (PS base (some ⟨r, 0, none⟩) n c w wx dE))
                                    case first => as_aux_lemma =>
                                      clear HRR HPL2
                                      have hin1 : i2 < n := by omega
                                      have hin2 : j2 < n := by omega
                                      obtain ⟨c0, f0⟩ := HP.out.at hin1
                                      obtain ⟨c1, f1⟩ := HP.out.at hin2
                                      have HSW : Kept (PS base (some ⟨r, 0, none⟩) n c w ((wc.drew.setCell ⟨r, i2, none⟩ (.int .u8 ((d2[j2]! : Nat) : Int))).setCell ⟨r, j2, none⟩ (.int .u8 ((d2[i2]! : Nat) : Int))) dE) := ⟨by rw [← HSWE.out]; exact HP.out.drew.swp hin1 hin2⟩
                                      clear HP HSWE
                                      have hij : ¬ i2 = j2 := by omega
                                      clear hne
                                      · have hij2 : ¬ j2 = i2 := fun h => hij h.symm
                                        generalize d2[i2]! = v0 at *
                                        generalize d2[j2]! = v1 at *
                                        go_region
                                        all_goals go_wp2_with fail
                                        all_goals go_meet
                                        all_goals exact HSW
                                    case rest =>
                                      clear HP
                                      have HP := hcut
                                      clear hcut
                                      go_wp2_with fail
                                      go_roundw
                                      case rel => exact ⟨i2 + 1, j2 - 1, dE, by omega, by omega, by omega, by go_num, by go_num, HPL2, HP⟩
                                      case measure => simp [intOf]; omega
end Go.Proofs.YtfkfpanhbanljaaDoor.SortY

/- Sorting bytes: partitionEqualOrdered. (printed by tools/genpdr.py) -/
namespace Go.Proofs.YtfkfpanhbanljaaDoor.SortY
open Go.RowKit Go.Proofs.YtfkfpanhbanljaaDoor.Mem

set_option maxRecDepth 100000 in
set_option maxHeartbeats 8000000 in
theorem parte_any (base : Nat) (A : Option Addr) (n c : Nat) (d : Array Nat) (a b v : Nat) (w : World) (h : RowD w base A n c d) (hav : a ≤ v) (hvb : v < b) (hb : b ≤ n) (hn : n ≤ 1000) :
    Calls Tryd.prog 107 #[.slice A n c, .int .i64 (a : Int), .int .i64 (b : Int), .int .i64 (v : Int)] w fun e w' => e = .returned (.int .i64 ((Go.Sort.partitionEqual ltB d a b v).1 : Int)) ∧ PS base A n c w w' (Go.Sort.partitionEqual ltB d a b v).2 := by
  obtain ⟨m, rfl⟩ : ∃ m, b = m + 1 := ⟨b - 1, by omega⟩
  obtain ⟨R, hR⟩ : ∃ R, Go.Sort.partitionEqual ltB d a (m + 1) v = R := ⟨_, rfl⟩
  obtain ⟨d0, hd0⟩ : ∃ d0, Go.Sort.swp d a v = d0 := ⟨_, rfl⟩
  have HPL : Kept (Go.Sort.partEqLoop ltB a (a + 1) m d0 = R) := ⟨by rw [← hR, ← hd0]; rfl⟩
  rw [hR]
  clear hR
  have HSWE := kept hd0
  have HP := kept (PS.start h)
  obtain ⟨r, rfl⟩ := HP.out.ad (by omega)
  clear h hd0
  have hw0 : IntKind.i64.wrap (m : Int) = (m : Int) := IntWalk.i64_in _ (by omega)
  go_enter Tryd.func107, Tryd.ntmps107
  go_upto_region 1 with fail
  go_cut [] (fun wx => Kept (PS base (some ⟨r, 0, none⟩) n c w wx d0))
  case first => as_aux_lemma =>
    clear HPL
    have hin1 : a < n := by omega
    have hin2 : v < n := by omega
    obtain ⟨c0, f0⟩ := HP.out.at hin1
    obtain ⟨c1, f1⟩ := HP.out.at hin2
    have HSW : Kept (PS base (some ⟨r, 0, none⟩) n c w ((w.drew.setCell ⟨r, a, none⟩ (.int .u8 ((d[v]! : Nat) : Int))).setCell ⟨r, v, none⟩ (.int .u8 ((d[a]! : Nat) : Int))) d0) := ⟨by rw [← HSWE.out]; exact HP.out.drew.swp hin1 hin2⟩
    clear HP HSWE
    by_cases hij : a = v
    · subst hij
      generalize d[a]! = v0 at *
      go_region
      all_goals go_wp2_with fail
      all_goals go_meet
      all_goals exact HSW
    · have hij2 : ¬ v = a := fun h => hij h.symm
      generalize d[a]! = v0 at *
      generalize d[v]! = v1 at *
      go_region
      all_goals go_wp2_with fail
      all_goals go_meet
      all_goals exact HSW
  case rest =>
    clear HP
    have HP := hcut
    clear hcut HSWE
    go_wp2_with fail
    go_loopw [9, 10] (fun i j wr => ∃ (p q : Nat) (d2 : Array Nat), a + 1 ≤ p ∧ p ≤ q + 1 ∧ q ≤ m ∧ i = .int .i64 (p : Int) ∧ j = .int .i64 (q : Int) ∧ Kept (Go.Sort.partEqLoop ltB a p q d2 = R) ∧ Kept (PS base (some ⟨r, 0, none⟩) n c w wr d2)) (fun i j _ => (intOf j).toNat + 2 - (intOf i).toNat)
    case atStart => exact ⟨a + 1, m, d0, by omega, by omega, by omega, by go_num, by go_num, HPL, HP⟩
    case round =>
      clear HPL HP
      obtain ⟨p, q, d2, hp1, hp2, hp3, rfl, rfl, HPL, HP⟩ := hrel
      obtain ⟨i2, hi2⟩ : ∃ i2, Go.Sort.scanUp (fun x => !ltB d2[a]! x) d2 q p = i2 := ⟨_, rfl⟩
      obtain ⟨j2, hj2⟩ : ∃ j2, Go.Sort.scanDown (fun x => ltB d2[a]! x) d2 i2 q = j2 := ⟨_, rfl⟩
      have hin2 : p ≤ i2 ∧ i2 ≤ q + 1 := by rw [← hi2]; exact scanUp_in (by omega)
      have hjn2 : j2 ≤ q ∧ i2 ≤ j2 + 1 := by rw [← hj2]; exact scanDown_in (by omega)
      have HI2 := kept hi2
      have HJ2 := kept hj2
      have HSC := kept hi2
      clear hi2 hj2
      go_wp2_with fail
      go_loopw [9] (fun i wr => ∃ k : Nat, a + 1 ≤ k ∧ k ≤ q + 1 ∧ i = .int .i64 (k : Int) ∧ Kept (Go.Sort.scanUp (fun x => !ltB d2[a]! x) d2 q k = i2) ∧ Kept (PS base (some ⟨r, 0, none⟩) n c w wr d2)) (fun i _ => q + 1 - (intOf i).toNat)
      case atStart => exact ⟨p, by omega, by omega, by go_num, HSC, HP⟩
      case round =>
        clear HSC HP
        obtain ⟨k, hk1, hk2, rfl, HSC, HP⟩ := hrel
        obtain ⟨BB, hBB⟩ : ∃ BB, (decide (k ≤ q) && !ltB d2[a]! d2[k]!) = BB := ⟨_, rfl⟩
        have HBB := kept hBB
        clear hBB
        go_upto_region 3 with fail
        go_cut [43] (fun b wx => b = .bool BB ∧ Kept (PS base (some ⟨r, 0, none⟩) n c w wx d2))
        case first => as_aux_lemma =>
          clear HSC HPL HI2 HJ2
          by_cases hkj : k ≤ q
          · have hki : (k : Int) ≤ (q : Int) := by omega
            have hkd : decide ((k : Int) ≤ (q : Int)) = true := decide_eq_true hki
            obtain ⟨c0, f0⟩ := HP.out.at (k := k) (by omega)
            obtain ⟨c1, f1⟩ := HP.out.at (k := a) (by omega)
            have HB2 := HBB.out
            rw [decide_eq_true hkj, Bool.true_and] at HB2
            have CL := kept (fun W => less_any (d2[a]!) (d2[k]!) (!BB) (by rw [← HB2, Bool.not_not]; rfl) W)
            clear HB2 HBB
            generalize d2[k]! = vk at *
            generalize d2[a]! = va at *
            have hkn : (k : Int) < (n : Int) := by omega
            have han : (a : Int) < (n : Int) := by omega
            go_big_quiet (first | (go_at_call 106; exact Calls.quiet_of_same (CL.out _)))
            go_wp2_with fail
            go_meet
            first | exact ⟨rfl, ⟨HP.out.drewN _⟩⟩ | exact ⟨by cases BB <;> rfl, ⟨HP.out.drewN _⟩⟩
          · have hki : ¬ (k : Int) ≤ (q : Int) := by omega
            have hkd : decide ((k : Int) ≤ (q : Int)) = false := decide_eq_false hki
            have HB2 : Kept (BB = false) := ⟨by rw [← HBB.out, decide_eq_false hkj, Bool.false_and]⟩
            clear HBB
            obtain rfl := HB2.out
            clear HB2
            go_big_quiet (fail)
            go_wp2_with fail
            go_meet
            exact ⟨rfl, ⟨HP.out.drewN _⟩⟩
        case rest =>
          clear HP
          obtain ⟨rfl, HP⟩ := hcut
          have HK : Kept (BB = true → (k ≤ q) ∧ (!ltB d2[a]! d2[k]!) = true) := ⟨fun h => by
            have h2 := HBB.out
            rw [h, Bool.and_eq_true] at h2
            exact ⟨of_decide_eq_true h2.1, h2.2⟩⟩
          have HK2 : Kept (BB = false → (k ≤ q) → (!ltB d2[a]! d2[k]!) = false) := ⟨fun h h3 => by
            have h2 := HBB.out
            rw [h, decide_eq_true h3, Bool.true_and] at h2
            exact h2⟩
          clear HBB
          cases BB with
          | true =>
            have hkj := (HK.out rfl).1
            have HSC2 : Kept (Go.Sort.scanUp (fun x => !ltB d2[a]! x) d2 q (k + 1) = i2) := ⟨by rw [← su_step hkj (HK.out rfl).2]; exact HSC.out⟩
            clear HK HK2 HSC
            go_wp2_with fail
            go_roundw
            case rel => exact ⟨k + 1, by omega, by omega, by go_num, HSC2, HP⟩
            case measure => simp [intOf]; omega
          | false =>
            have HE : Kept (i2 = k) := ⟨by rw [← HSC.out]; exact su_stop (HK2.out rfl)⟩
            clear HK HK2 HSC
            obtain rfl := HE.out
            clear HE
            have HSC := HJ2
            go_wp2_with fail
            go_loopw [10] (fun i wr => ∃ k : Nat, k ≤ q ∧ i2 ≤ k + 1 ∧ i = .int .i64 (k : Int) ∧ Kept (Go.Sort.scanDown (fun x => ltB d2[a]! x) d2 i2 k = j2) ∧ Kept (PS base (some ⟨r, 0, none⟩) n c w wr d2)) (fun i _ => (intOf i).toNat)
            case atStart => exact ⟨q, by omega, by omega, by go_num, HSC, HP⟩
            case round =>
              clear HSC HP
              obtain ⟨k, hk1, hk2, rfl, HSC, HP⟩ := hrel
              obtain ⟨BB, hBB⟩ : ∃ BB, (decide (i2 ≤ k) && ltB d2[a]! d2[k]!) = BB := ⟨_, rfl⟩
              have HBB := kept hBB
              clear hBB
              go_upto_region 5 with fail
              go_cut [59] (fun b wx => b = .bool BB ∧ Kept (PS base (some ⟨r, 0, none⟩) n c w wx d2))
              case first => as_aux_lemma =>
                clear HSC HPL HI2 HJ2
                by_cases hkj : i2 ≤ k
                · have hki : (i2 : Int) ≤ (k : Int) := by omega
                  have hkd : decide ((i2 : Int) ≤ (k : Int)) = true := decide_eq_true hki
                  obtain ⟨c0, f0⟩ := HP.out.at (k := k) (by omega)
                  obtain ⟨c1, f1⟩ := HP.out.at (k := a) (by omega)
                  have HB2 := HBB.out
                  rw [decide_eq_true hkj, Bool.true_and] at HB2
                  have CL := kept (fun W => less_any (d2[a]!) (d2[k]!) BB HB2 W)
                  clear HB2 HBB
                  generalize d2[k]! = vk at *
                  generalize d2[a]! = va at *
                  have hkn : (k : Int) < (n : Int) := by omega
                  have han : (a : Int) < (n : Int) := by omega
                  go_big_quiet (first | (go_at_call 106; exact Calls.quiet_of_same (CL.out _)))
                  go_wp2_with fail
                  go_meet
                  first | exact ⟨rfl, ⟨HP.out.drewN _⟩⟩ | exact ⟨by cases BB <;> rfl, ⟨HP.out.drewN _⟩⟩
                · have hki : ¬ (i2 : Int) ≤ (k : Int) := by omega
                  have hkd : decide ((i2 : Int) ≤ (k : Int)) = false := decide_eq_false hki
                  have HB2 : Kept (BB = false) := ⟨by rw [← HBB.out, decide_eq_false hkj, Bool.false_and]⟩
                  clear HBB
                  obtain rfl := HB2.out
                  clear HB2
                  go_big_quiet (fail)
                  go_wp2_with fail
                  go_meet
                  exact ⟨rfl, ⟨HP.out.drewN _⟩⟩
              case rest =>
                clear HP
                obtain ⟨rfl, HP⟩ := hcut
                have HK : Kept (BB = true → (i2 ≤ k) ∧ (ltB d2[a]! d2[k]!) = true) := ⟨fun h => by
                  have h2 := HBB.out
                  rw [h, Bool.and_eq_true] at h2
                  exact ⟨of_decide_eq_true h2.1, h2.2⟩⟩
                have HK2 : Kept (BB = false → (i2 ≤ k) → (ltB d2[a]! d2[k]!) = false) := ⟨fun h h3 => by
                  have h2 := HBB.out
                  rw [h, decide_eq_true h3, Bool.true_and] at h2
                  exact h2⟩
                clear HBB
                cases BB with
                | true =>
                  have hkj := (HK.out rfl).1
                  have HSC2 : Kept (Go.Sort.scanDown (fun x => ltB d2[a]! x) d2 i2 (k - 1) = j2) := ⟨by rw [← sd_step (by omega) hkj (HK.out rfl).2]; exact HSC.out⟩
                  clear HK HK2 HSC
                  go_wp2_with fail
                  go_roundw
                  case rel => exact ⟨k - 1, by omega, by omega, by go_num, HSC2, HP⟩
                  case measure => simp [intOf]; omega
                | false =>
                  have HE : Kept (j2 = k) := ⟨by rw [← HSC.out]; exact sd_stop (HK2.out rfl)⟩
                  clear HK HK2 HSC
                  obtain rfl := HE.out
                  clear HE
                  by_cases hgt : i2 > j2
                  · have hgi : (j2 : Int) < (i2 : Int) := by omega
                    have HR3 : Kept (R = (i2, d2)) := ⟨by rw [← HPL.out, parte_end HI2.out HJ2.out hgt]⟩
                    clear HPL HI2 HJ2
                    obtain rfl := HR3.out
                    clear HR3
                    go_wp2_with fail
                    go_ret
                    exact ⟨rfl, HP.out⟩
                  · have hgi : ¬ (j2 : Int) < (i2 : Int) := by omega
                    have hne : i2 < j2 := scanse_ne HI2.out HJ2.out (by omega) (by omega) hgt
                    obtain ⟨dE, hdE⟩ : ∃ dE, Go.Sort.swp d2 i2 j2 = dE := ⟨_, rfl⟩
                    have HPL2 : Kept (Go.Sort.partEqLoop ltB a (i2 + 1) (j2 - 1) dE = R) := ⟨by rw [← HPL.out, parte_step HI2.out HJ2.out hgt, hdE]⟩
                    have HSWE := kept hdE
                    clear hdE HPL HI2 HJ2
                    go_upto_region 8 with fail
                    go_cut [] (fun wx => Kept (PS base (some ⟨r, 0, none⟩) n c w wx dE))
                    case first => as_aux_lemma =>
                      clear HPL2
                      have hin1 : i2 < n := by omega
                      have hin2 : j2 < n := by omega
                      obtain ⟨c0, f0⟩ := HP.out.at hin1
                      obtain ⟨c1, f1⟩ := HP.out.at hin2
                      have HSW : Kept (PS base (some ⟨r, 0, none⟩) n c w ((wc.drew.setCell ⟨r, i2, none⟩ (.int .u8 ((d2[j2]! : Nat) : Int))).setCell ⟨r, j2, none⟩ (.int .u8 ((d2[i2]! : Nat) : Int))) dE) := ⟨by rw [← HSWE.out]; exact HP.out.drew.swp hin1 hin2⟩
                      clear HP HSWE
                      have hij : ¬ i2 = j2 := by omega
                      clear hne
                      · have hij2 : ¬ j2 = i2 := fun h => hij h.symm
                        generalize d2[i2]! = v0 at *
                        generalize d2[j2]! = v1 at *
                        go_region
                        all_goals go_wp2_with fail
                        all_goals go_meet
                        all_goals exact HSW
                    case rest =>
                      clear HP
                      have HP := hcut
                      clear hcut
                      go_wp2_with fail
                      go_roundw
                      case rel => exact ⟨i2 + 1, j2 - 1, dE, by omega, by omega, by omega, by go_num, by go_num, HPL2, HP⟩
                      case measure => simp [intOf]; omega
end Go.Proofs.YtfkfpanhbanljaaDoor.SortY

/- Sorting bytes: partialInsertionSort of under 50 bytes: it looks alone. (printed by tools/genpdt.py) -/
namespace Go.Proofs.YtfkfpanhbanljaaDoor.SortY
open Go.RowKit Go.Proofs.YtfkfpanhbanljaaDoor.Mem

set_option maxRecDepth 100000 in
set_option maxHeartbeats 8000000 in
theorem parti_any (base : Nat) (A : Option Addr) (n c : Nat) (d : Array Nat) (a b : Nat) (w : World) (h : RowD w base A n c d) (hab : a < b) (h50 : b - a < 50) (hb : b ≤ n) (hn : n ≤ 1000) :
    Calls Tryd.prog 105 #[.slice A n c, .int .i64 (a : Int), .int .i64 (b : Int)] w fun e w' => e = .returned (.bool (decide (Go.Sort.scanSorted ltB d b (a + 1) = b))) ∧ PS base A n c w w' d := by
  obtain ⟨I, hI⟩ : ∃ I, Go.Sort.scanSorted ltB d b (a + 1) = I := ⟨_, rfl⟩
  rw [hI]
  obtain ⟨RR, hRR⟩ : ∃ RR, decide (I = b) = RR := ⟨_, rfl⟩
  rw [hRR]
  have HR := kept hRR
  have HSC := kept hI
  have HP := kept (PS.start h)
  obtain ⟨r, rfl⟩ := HP.out.ad (by omega)
  clear h hRR hI
  go_enter Tryd.func105, Tryd.ntmps105
  go_wp2_with fail
  go_loopw [7, 8] (fun i j wr => i = .int .i64 ((a : Int) + 1) ∧ j = .int .i64 0 ∧ Kept (PS base (some ⟨r, 0, none⟩) n c w wr d)) (fun _ _ _ => 0)
  case atStart => exact ⟨rfl, rfl, HP⟩
  case round =>
    clear HP
    obtain ⟨rfl, rfl, HP⟩ := hrel
    go_wp2_with fail
    go_loopw [7] (fun i wr => ∃ k : Nat, a + 1 ≤ k ∧ k ≤ b ∧ i = .int .i64 (k : Int) ∧ Kept (Go.Sort.scanSorted ltB d b k = I) ∧ Kept (PS base (some ⟨r, 0, none⟩) n c w wr d)) (fun i _ => b - (intOf i).toNat)
    case atStart => exact ⟨a + 1, by omega, by omega, by go_num, HSC, HP⟩
    case round =>
      clear HSC HP
      obtain ⟨k, hk1, hk2, rfl, HSC, HP⟩ := hrel
      obtain ⟨BB, hBB⟩ : ∃ BB, (decide (k < b) && !ltB d[k]! d[k - 1]!) = BB := ⟨_, rfl⟩
      have HBB := kept hBB
      clear hBB
      go_upto_region 5 with fail
      go_cut [32] (fun b wx => b = .bool BB ∧ Kept (PS base (some ⟨r, 0, none⟩) n c w wx d))
      case first => as_aux_lemma =>
        clear HSC HR
        by_cases hkj : k < b
        · have hki : (k : Int) < (b : Int) := by omega
          have hkd : decide ((k : Int) < (b : Int)) = true := decide_eq_true hki
          obtain ⟨c0, f0⟩ := HP.out.at (k := k) (by omega)
          obtain ⟨c1, f1⟩ := HP.out.at (k := k - 1) (by omega)
          have HB2 := HBB.out
          rw [decide_eq_true hkj, Bool.true_and] at HB2
          have CL := kept (fun W => less_any (d[k]!) (d[k - 1]!) (!BB) (by rw [← HB2, Bool.not_not]; rfl) W)
          clear HB2 HBB
          generalize d[k]! = vk at *
          generalize d[k - 1]! = va at *
          have hkn : (k : Int) < (n : Int) := by omega
          have hw1 : IntKind.i64.wrap ((k : Int) - 1) = ((k - 1 : Nat) : Int) := by rw [IntKind.wrap_i64]; omega
          have hb1 : (0 : Int) ≤ ((k - 1 : Nat) : Int) := by omega
          have hb2 : ((k - 1 : Nat) : Int) < (n : Int) := by omega
          go_quiet (first | (go_at_call 106; exact Calls.quiet_of_same (CL.out _)))
          go_wp2_with fail
          go_meet
          first | exact ⟨rfl, ⟨HP.out.drewN _⟩⟩ | exact ⟨by cases BB <;> rfl, ⟨HP.out.drewN _⟩⟩
        · have hki : ¬ (k : Int) < (b : Int) := by omega
          have hkd : decide ((k : Int) < (b : Int)) = false := decide_eq_false hki
          have HB2 : Kept (BB = false) := ⟨by rw [← HBB.out, decide_eq_false hkj, Bool.false_and]⟩
          clear HBB
          obtain rfl := HB2.out
          clear HB2
          go_big_quiet (fail)
          go_wp2_with fail
          go_meet
          exact ⟨rfl, ⟨HP.out.drewN _⟩⟩
      case rest =>
        clear HP
        obtain ⟨rfl, HP⟩ := hcut
        have HK : Kept (BB = true → k < b ∧ (!ltB d[k]! d[k - 1]!) = true) := ⟨fun h => by
          have h2 := HBB.out
          rw [h, Bool.and_eq_true] at h2
          exact ⟨of_decide_eq_true h2.1, h2.2⟩⟩
        have HK2 : Kept (BB = false → k < b → (!ltB d[k]! d[k - 1]!) = false) := ⟨fun h h3 => by
          have h2 := HBB.out
          rw [h, decide_eq_true h3, Bool.true_and] at h2
          exact h2⟩
        clear HBB
        cases BB with
        | true =>
          have hkj := (HK.out rfl).1
          have HSC2 : Kept (Go.Sort.scanSorted ltB d b (k + 1) = I) := ⟨by rw [← ss_step hkj (by simpa using (HK.out rfl).2)]; exact HSC.out⟩
          clear HK HK2 HSC
          go_wp2_with fail
          go_roundw
          case rel => exact ⟨k + 1, by omega, by omega, by go_num, HSC2, HP⟩
          case measure => simp [intOf]; omega
        | false =>
          have HE : Kept (I = k) := ⟨by rw [← HSC.out]; exact ss_stop (fun h => by simpa using HK2.out rfl h)⟩
          clear HK HK2 HSC
          obtain rfl := HE.out
          clear HE
          by_cases hend : I = b
          · have hei : (I : Int) = (b : Int) := by omega
            have hed : ((I : Int) == (b : Int)) = true := beq_iff_eq.2 hei
            have HRR : Kept (RR = true) := ⟨by rw [← HR.out]; exact decide_eq_true hend⟩
            clear HR
            obtain rfl := HRR.out
            subst hend
            go_wp2_with fail
            go_ret
            exact ⟨rfl, HP.out⟩
          · have hei : ¬ (I : Int) = (b : Int) := by omega
            have hed : ((I : Int) == (b : Int)) = false := beq_eq_false_iff_ne.2 hei
            have HRR : Kept (RR = false) := ⟨by rw [← HR.out]; exact decide_eq_false hend⟩
            clear HR
            obtain rfl := HRR.out
            have h50i : (b : Int) - (a : Int) < 50 := by omega
            go_wp2_with fail
            go_ret
            exact ⟨rfl, HP.out⟩
end Go.Proofs.YtfkfpanhbanljaaDoor.SortY

/- Sorting bytes: pdqsort of at most 25 bytes sorts. (printed by tools/genpdv.py) -/
namespace Go.Proofs.YtfkfpanhbanljaaDoor.SortY
open Go.RowKit Go.Proofs.YtfkfpanhbanljaaDoor.Mem

/-- pdqsort of ranges of at most N bytes sorts -/
def PdqOk (N : Nat) : Prop := ∀ (base : Nat) (A : Option Addr) (n c : Nat) (d : Array Nat) (a b L : Nat) (w : World), RowD w base A n c d → a ≤ b → b ≤ n → n ≤ 25 → L ≤ 1000 → b - a ≤ N → Go.Sort.Below ltB a b d →
    Calls Tryd.prog 73 #[.slice A n c, .int .i64 (a : Int), .int .i64 (b : Int), .int .i64 (L : Int)] w fun e w' => e = .returned (.tuple #[]) ∧ ∃ d', PS base A n c w w' d' ∧ Go.Sort.PermIn a b d d' ∧ Go.Sort.SortedIn ltB a b d'
theorem PS.below {base : Nat} {A : Option Addr} {n c : Nat} {w wr w2 : World} {d : Array Nat} (h : PS base A n c w wr d) (hb : Below wr.heap.size wr w2) : PS base A n c w w2 d := ⟨⟨h.row.1, byte_own.2 ((byte_own.1 h.row.2).next hb)⟩, h.upd.next hb⟩
theorem hint_three (h : Go.Sort.Hint) : hintN h = 0 ∨ hintN h = 1 ∨ hintN h = 2 := by cases h <;> simp [hintN]
set_option maxRecDepth 100000 in
set_option maxHeartbeats 16000000 in
theorem pdq_step (N : Nat) (IH : ∀ M, M < N → PdqOk M) : PdqOk N := by
  intro base A n c d a b L0 w h hab hb hn hL0 hN hB
  have HIH := kept IH
  have HP := kept (PS.start h)
  have HL := kept (Left.start hab hB)
  have hds : b ≤ d.size := by have := h.1; omega
  clear IH h hB
  go_enter Tryd.func73, Tryd.ntmps73
  go_wp2_with fail
  go_loopw [1, 2, 3, 8, 9] (fun sx sy sl sp sq wr => ∃ (x y L : Nat) (e : Array Nat) (p q : Bool), x ≤ y ∧ y ≤ n ∧ y - x ≤ N ∧ sx = .int .i64 (x : Int) ∧ sy = .int .i64 (y : Int) ∧ sl = .int .i64 (L : Int) ∧ sp = .bool p ∧ sq = .bool q ∧ L ≤ 1000 ∧ Kept (Left d a b e x y) ∧ Kept (PS base A n c w wr e)) (fun sx sy _ _ _ _ => (intOf sy - intOf sx).toNat)
  case atStart => exact ⟨a, b, L0, d, true, true, hab, hb, hN, rfl, rfl, rfl, rfl, rfl, hL0, HL, HP⟩
  case round =>
    clear HL HP
    obtain ⟨x, y, L, e, p, q, hxy, hyn, hyx, rfl, rfl, rfl, rfl, rfl, hL, HL, HP⟩ := hrel
    obtain ⟨l, hl⟩ : ∃ l, y - x = l := ⟨_, rfl⟩
    have hlw : IntKind.i64.wrap ((y : Int) - (x : Int)) = (l : Int) := by rw [IntKind.wrap_i64]; omega
    have hbm : (y : Int) - (x : Int) = (l : Int) := by omega
    have hlx : x + l ≤ y ∧ y ≤ x + l := by omega
    have hes : y ≤ e.size := by have := HP.out.size; omega
    by_cases h12 : l ≤ 12
    · have h12i : (l : Int) ≤ 12 := by omega
      have C := kept (insr_any base A n c e x y wr HP.out.row hyn (by omega) (by omega))
      have hR := Go.Sort.insertionSort_holds swoB e x y hxy hes
      have HF := kept (HL.out.fin _ hR.1 hR.2)
      clear hR
      go_wp2_with fail
      refine C.out.mono ?_
      rintro e' w3 ⟨rfl, hp3⟩
      have HP3 := kept (HP.out.trans hp3)
      clear hp3
      go_wp2_with fail
      exact bodyPost_ret (results_none rfl _ _ _) rfl ⟨rfl, _, HP3.out, HF.out.1, HF.out.2⟩
    · have h12i : ¬ (l : Int) ≤ 12 := by omega
      by_cases hl0 : L = 0
      · have hLi : (L : Int) = 0 := by omega
        have hLb : ((L : Int) == 0) = true := beq_iff_eq.2 hLi
        have C := kept (heap_any base A n c e x y wr HP.out.row (by omega) hyn (by omega))
        have hR := Go.Sort.heapSort_holds swoB e x y hxy hes
        have HF := kept (HL.out.fin _ hR.1 hR.2)
        clear hR
        subst hl0
        clear hLi hLb
        go_wp2_with fail
        refine C.out.mono ?_
        rintro e' w3 ⟨rfl, hp3⟩
        have HP3 := kept (HP.out.trans hp3)
        clear hp3
        go_wp2_with fail
        exact bodyPost_ret (results_none rfl _ _ _) rfl ⟨rfl, _, HP3.out, HF.out.1, HF.out.2⟩
      · have hLi : ¬ (L : Int) = 0 := by omega
        have hLb : ((L : Int) == 0) = false := beq_eq_false_iff_ne.2 hLi
        go_upto_if 35 with fail
        go_cut [3] (fun s wx => ∃ (L2 : Nat) (e2 : Array Nat), s = .int .i64 (L2 : Int) ∧ L2 ≤ 1000 ∧ Kept (Left d a b e2 x y) ∧ Kept (PS base A n c w wx e2))
        case first => as_aux_lemma =>
          clear HIH
          cases p with
          | true =>
            go_wp2_with fail
            go_meet
            exact ⟨L, e, rfl, hL, HL, HP⟩
          | false =>
            have C := kept (break_any base A n c e x y wr HP.out.row (by omega) (by omega) hyn (by omega))
            go_wp2_with fail
            refine C.out.mono ?_
            rintro e' w3 ⟨rfl, e3, hp3, hpm⟩
            have HL3 := kept (HL.out.perm hds hpm)
            have HP3 := kept (HP.out.trans hp3)
            clear hp3 hpm C
            go_wp2_with fail
            go_meet
            exact ⟨L - 1, e3, by go_num, by omega, HL3, HP3⟩
        case rest =>
          clear HL HP hes
          obtain ⟨L2, e2, rfl, hL2, HL2, HP2⟩ := hcut
          have CP := pivot_any base A n c e2 x l _ HP2.out.row (by omega) (by omega) (by omega) (by omega)
          have hpr := Go.Sort.choosePivot_holds ltB e2 x (x + l) (by omega)
          rw [show (x : Int) + (l : Int) = (y : Int) by omega] at CP
          generalize Go.Sort.choosePivot ltB e2 x (x + l) = R at CP hpr
          obtain ⟨pv, hh⟩ := R
          dsimp only at CP hpr
          obtain ⟨hz, hhz⟩ : ∃ hz : Int, hintN hh = hz := ⟨_, rfl⟩
          have hz3 := hint_three hh
          rw [hhz] at CP hz3
          have hpr1 : x ≤ pv := hpr.1
          have hpr2 : pv < y := by omega
          have C := kept CP
          clear CP hpr hhz hh
          go_wp2_with fail
          refine C.out.mono ?_
          rintro e' w3 ⟨rfl, -, hbw⟩
          have HP3 := kept (HP2.out.below hbw)
          clear hbw C HP2
          go_upto_if 50 with fail
          go_cut [11, 12] (fun sp sh wx => ∃ (v : Nat) (hz : Int) (e3 : Array Nat), sp = .int .i64 (v : Int) ∧ sh = .int .i64 hz ∧ x ≤ v ∧ v < y ∧ Kept (Left d a b e3 x y) ∧ Kept (PS base A n c w wx e3))
          case first => as_aux_lemma =>
            clear HIH
            by_cases h2 : hz = 2
            · subst h2
              clear hz3
              have C := kept (rev_any base A n c e2 x y w3 HP3.out.row (by omega) hyn (by omega))
              have hpm := Go.Sort.reverseRange_holds e2 x y hxy (by have := HP3.out.size; omega)
              have HL3 := kept (HL2.out.perm hds hpm)
              clear hpm HL2
              go_wp2_with fail
              refine C.out.mono ?_
              rintro e' w4 ⟨rfl, hr4, hu4⟩
              have HP4 := kept (HP3.out.trans ⟨hr4, hu4⟩)
              clear hr4 hu4 C HP3
              go_wp2_with fail
              go_meet
              exact ⟨y - 1 - (pv - x), _, _, by go_num, rfl, by omega, by omega, HL3, HP4⟩
            · have h2b : (hz == 2) = false := beq_eq_false_iff_ne.2 h2
              go_wp2_with fail
              go_meet
              exact ⟨pv, hz, e2, rfl, rfl, hpr1, hpr2, HL2, HP3⟩
          case rest =>
            clear HL2 HP3 hpr1 hpr2 hz3
            obtain ⟨v, hz2, e3, rfl, rfl, hv1, hv2, HL3, HP3⟩ := hcut
            go_upto_region 15 with fail
            obtain ⟨w6, hw6⟩ : ∃ w6 : World, w6 = wc := ⟨_, rfl⟩
            rw [← hw6] at HP3 ⊢
            go_cut [68] (fun bb wx => ∃ K : Bool, bb = .bool K ∧ wx = w6)
            case first => as_aux_lemma =>
              clear HIH HL3 HP3
              by_cases h1 : hz2 = 1
              · subst h1
                cases p with
                | true =>
                  cases q with
                  | true => go_wp2_with fail; go_meet; exact ⟨_, rfl, hw6.symm⟩
                  | false => go_wp2_with fail; go_meet; exact ⟨_, rfl, hw6.symm⟩
                | false => go_wp2_with fail; go_meet; exact ⟨_, rfl, hw6.symm⟩
              · have h1b : (hz2 == 1) = false := beq_eq_false_iff_ne.2 h1
                cases p with
                | true =>
                  cases q with
                  | true => go_wp2_with fail; go_meet; exact ⟨_, rfl, hw6.symm⟩
                  | false => go_wp2_with fail; go_meet; exact ⟨_, rfl, hw6.symm⟩
                | false => go_wp2_with fail; go_meet; exact ⟨_, rfl, hw6.symm⟩
            case rest =>
              obtain ⟨K, rfl, hwk⟩ := hcut
              rw [hwk]
              clear hwk hw6
              go_upto_if 68 with fail
              go_cut [] (fun wx => Kept (PS base A n c w wx e3))
              case first => as_aux_lemma =>
                clear HIH
                cases K with
                | false =>
                  go_wp2_with fail
                  go_meet
                  exact HP3
                | true =>
                  have hes : y ≤ e3.size := by have := HP3.out.size; omega
                  obtain ⟨B, hBB⟩ : ∃ B, decide (Go.Sort.scanSorted ltB e3 y (x + 1) = y) = B := ⟨_, rfl⟩
                  have C := parti_any base A n c e3 x y w6 HP3.out.row (by omega) (by omega) hyn (by omega)
                  rw [hBB] at C
                  have hR := (Go.Sort.partialInsertionSort_holds swoB e3 x y (by omega) hes HL3.out.below).2
                  rw [partial_eq (by omega), hBB] at hR
                  have HF : Kept (B = true → Go.Sort.PermIn a b d e3 ∧ Go.Sort.SortedIn ltB a b e3) := ⟨fun h => HL3.out.fin e3 (Go.Sort.permIn_refl e3 x y) (hR h)⟩
                  have CK := kept C
                  clear hR C hBB HL3 hes
                  go_wp2_with fail
                  refine CK.out.mono ?_
                  rintro e' w7 ⟨rfl, hp7⟩
                  have HP7 := kept (HP3.out.trans hp7)
                  clear hp7 CK HP3
                  cases B with
                  | true =>
                    have HF2 := kept (HF.out rfl)
                    clear HF
                    go_wp2_with fail
                    exact bodyPost_ret (results_none rfl _ _ _) rfl ⟨rfl, _, HP7.out, HF2.out.1, HF2.out.2⟩
                  | false =>
                    clear HF
                    go_wp2_with fail
                    go_meet
                    exact HP7
              case rest =>
                clear HP3
                have HP3 := hcut
                clear hcut
                obtain ⟨G, hG⟩ : ∃ G, (decide (0 < x) && !ltB e3[x - 1]! e3[v]!) = G := ⟨_, rfl⟩
                have HG := kept hG
                clear hG
                go_upto_region 17 with fail
                go_cut [87] (fun bb wx => bb = .bool G ∧ Kept (PS base A n c w wx e3))
                case first => as_aux_lemma =>
                  clear HIH HL3
                  by_cases hx0 : 0 < x
                  · have hxi : (0 : Int) < (x : Int) := by omega
                    have hxd : decide ((x : Int) > 0) = true := decide_eq_true hxi
                    obtain ⟨r, rfl⟩ := HP3.out.ad (by omega)
                    obtain ⟨c0, f0⟩ := HP3.out.at (k := x - 1) (by omega)
                    obtain ⟨c1, f1⟩ := HP3.out.at (k := v) (by omega)
                    have HB2 := HG.out
                    rw [decide_eq_true hx0, Bool.true_and] at HB2
                    have CL := kept (fun W => less_any (e3[x - 1]!) (e3[v]!) (!G) (by rw [← HB2, Bool.not_not]; rfl) W)
                    clear HB2 HG
                    generalize e3[x - 1]! = vk at *
                    generalize e3[v]! = va at *
                    have hvn : (v : Int) < (n : Int) := by omega
                    have hw1 : IntKind.i64.wrap ((x : Int) - 1) = ((x - 1 : Nat) : Int) := by rw [IntKind.wrap_i64]; omega
                    have hb1 : (0 : Int) ≤ ((x - 1 : Nat) : Int) := by omega
                    have hb2 : ((x - 1 : Nat) : Int) < (n : Int) := by omega
                    go_quiet (first | (go_at_call 106; exact Calls.quiet_of_same (CL.out _)))
                    go_wp2_with fail
                    go_meet
                    first | exact ⟨rfl, ⟨HP3.out.drewN _⟩⟩ | exact ⟨by cases G <;> rfl, ⟨HP3.out.drewN _⟩⟩
                  · have hxi : ¬ (0 : Int) < (x : Int) := by omega
                    have hxd : decide ((x : Int) > 0) = false := decide_eq_false hxi
                    have HB2 : Kept (G = false) := ⟨by rw [← HG.out, decide_eq_false hx0, Bool.false_and]⟩
                    clear HG
                    obtain rfl := HB2.out
                    clear HB2
                    go_quiet (fail)
                    go_wp2_with fail
                    go_meet
                    exact ⟨rfl, ⟨HP3.out.drewN _⟩⟩
                case rest =>
                  clear HP3
                  obtain ⟨rfl, HP3⟩ := hcut
                  cases G with
                  | true =>
                    have HX : Kept (0 < x ∧ ltB e3[x - 1]! e3[v]! = false) := ⟨by
                      have h2 := HG.out
                      rw [Bool.and_eq_true] at h2
                      exact ⟨of_decide_eq_true h2.1, by simpa using h2.2⟩⟩
                    have C := parte_any base A n c e3 x y v _ HP3.out.row hv1 hv2 hyn (by omega)
                    obtain ⟨R, hR⟩ : ∃ R, Go.Sort.partitionEqual ltB e3 x y v = R := ⟨_, rfl⟩
                    obtain ⟨m, e4⟩ := R
                    rw [hR] at C
                    dsimp only at C
                    obtain ⟨hxm, hl4⟩ := HL3.out.eqs hds HX.out.1 hv1 hv2 HX.out.2 hR
                    have hmy := hl4.le
                    have HL4 := kept hl4
                    have CK := kept C
                    clear hl4 C hR HX HG HL3
                    go_wp2_with fail
                    refine CK.out.mono ?_
                    rintro e' w7 ⟨rfl, hp7⟩
                    have HP7 := kept (HP3.out.trans hp7)
                    clear hp7 CK HP3
                    go_wp2_with fail
                    go_roundw
                    case rel => exact ⟨m, y, L2, e4, p, q, hmy, hyn, by omega, rfl, rfl, rfl, rfl, rfl, hL2, HL4, HP7⟩
                    case measure => simp [intOf]; omega
                  | false =>
                    have C := part_any base A n c e3 x y v _ HP3.out.row hv1 hv2 hyn (by omega)
                    obtain ⟨R, hR⟩ : ∃ R, Go.Sort.partition ltB e3 x y v = R := ⟨_, rfl⟩
                    obtain ⟨m, ap, e4⟩ := R
                    rw [hR] at C
                    dsimp only at C
                    obtain ⟨hxm, hmy, -, hpt0⟩ := HL3.out.parts hds hv1 hv2 hR
                    have hpt := kept hpt0
                    have CK := kept C
                    clear hpt0 C hR HG HL3
                    go_wp2_with fail
                    refine CK.out.mono ?_
                    rintro e' w7 ⟨rfl, hp7⟩
                    have HP4 := kept (HP3.out.trans hp7)
                    clear hp7 CK HP3
                    have q8 : Int.tdiv (l : Int) 8 = ((l / 8 : Nat) : Int) := (Int.ofNat_tdiv l 8).symm
                    have hl0i : (0 : Int) ≤ (l : Int) := by omega
                    by_cases hlr : m - x < y - m
                    · have hlri : (m : Int) - (x : Int) < (y : Int) - (m : Int) := by omega
                      have BAL : Kept (decide ((l : Int) / 8 ≤ (m : Int) - (x : Int)) = decide (l / 8 ≤ m - x)) := ⟨by apply decide_eq_decide.2; omega⟩
                      have C4 := kept (HIH.out (m - x) (by omega) base A n c e4 x m L2 _ HP4.out.row (by omega) (by omega) hn hL2 (Nat.le_refl _) hpt.out.1)
                      go_wp2_with fail
                      refine C4.out.mono ?_
                      rintro e' w5 ⟨rfl, e5, hp5, hpm5, hso5⟩
                      have HP5 := kept (HP4.out.trans hp5)
                      have HL5 := kept (hpt.out.2.2.1 e5 hpm5 hso5)
                      clear C4 hp5 hpm5 hso5 hpt HP4
                      go_wp2_with fail
                      go_roundw
                      case rel => exact ⟨(m + 1), y, L2, e5, decide (l / 8 ≤ m - x), ap, by omega, by omega, by omega, by go_num, by go_num, rfl, by rw [BAL.out], rfl, hL2, HL5, HP5⟩
                      case measure => simp [intOf]; omega
                    · have hlri : ¬ (m : Int) - (x : Int) < (y : Int) - (m : Int) := by omega
                      have BAL : Kept (decide ((l : Int) / 8 ≤ (y : Int) - (m : Int)) = decide (l / 8 ≤ y - m)) := ⟨by apply decide_eq_decide.2; omega⟩
                      have C4 := kept (HIH.out (y - (m + 1)) (by omega) base A n c e4 (m + 1) y L2 _ HP4.out.row (by omega) (by omega) hn hL2 (Nat.le_refl _) hpt.out.2.1)
                      rw [show (((m + 1 : Nat)) : Int) = (m : Int) + 1 from rfl] at C4
                      go_wp2_with fail
                      refine C4.out.mono ?_
                      rintro e' w5 ⟨rfl, e5, hp5, hpm5, hso5⟩
                      have HP5 := kept (HP4.out.trans hp5)
                      have HL5 := kept (hpt.out.2.2.2 e5 hpm5 hso5)
                      clear C4 hp5 hpm5 hso5 hpt HP4
                      go_wp2_with fail
                      go_roundw
                      case rel => exact ⟨x, m, L2, e5, decide (l / 8 ≤ y - m), ap, by omega, by omega, by omega, by go_num, by go_num, rfl, by rw [BAL.out], rfl, hL2, HL5, HP5⟩
                      case measure => simp [intOf]; omega
end Go.Proofs.YtfkfpanhbanljaaDoor.SortY
