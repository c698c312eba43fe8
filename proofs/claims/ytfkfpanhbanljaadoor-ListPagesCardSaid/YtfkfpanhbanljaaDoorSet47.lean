import Derived.Test.YtfkfpanhbanljaaDoorSet41
import Derived.Test.YtfkfpanhbanljaaDoorListCmp
import Derived.Test.YtfkfpanhbanljaaDoorHeldCall
/- slices.SortStableFunc of cards: insertion. -/
namespace Go.Proofs.YtfkfpanhbanljaaDoor.Stab
open Go.RowKit Go.Proofs.YtfkfpanhbanljaaDoor.Mem Go.Proofs.YtfkfpanhbanljaaDoor.Card Go.Proofs.YtfkfpanhbanljaaDoor.List44

/-- the comparison may be asked of these cards, whatever the row holds -/
def CmpOk (A : Option Addr) (n c : Nat) (w : World) (l : List CardM) : Prop := ∀ W x y, Upd (fun b => (Value.slice A n c).ownBlock = some b) w W → x ∈ l → y ∈ l →
  Calls Tryd.prog 10 #[x.val, y.val] W fun e w' => e = .returned (.int .i64 (cmpC x y)) ∧ Below W.heap.size W w'
/-- the row, as it stands in a world -/
def SS (base : Nat) (A : Option Addr) (n c : Nat) (w W : World) (xs : List CardM) : Prop :=
  cardE.Own W base 28 (.slice A n c) xs ∧ Upd (fun b => (Value.slice A n c).ownBlock = some b) w W
section
variable {base n c : Nat} {A : Option Addr} {w W W' : World} {xs l : List CardM}
theorem SS.next (h : SS base A n c w W xs) (hb : Below W.heap.size W W') : SS base A n c w W' xs := ⟨h.1.next hb, h.2.next hb⟩
theorem SS.len (h : SS base A n c w W xs) : xs.length = n := h.1.len.symm
theorem CmpOk.at_ (hc : CmpOk A n c w l) (hs : SS base A n c w W xs) (hx : ∀ x ∈ xs, x ∈ l) {i j : Nat} {x y : CardM} (hi : xs[i]? = some x) (hj : xs[j]? = some y) :
    ∀ W', Below W.heap.size W W' → Calls Tryd.prog 10 #[x.val, y.val] W' fun e w' => e = .returned (.int .i64 (cmpC x y)) ∧ Below W'.heap.size W' w' :=
  fun W' hb => hc W' x y (hs.2.next hb) (hx x (List.mem_of_getElem? hi)) (hx y (List.mem_of_getElem? hj))
/-- the cells of two cards, in all later worlds -/
theorem SS.two (hs : SS base A n c w W xs) {i j : Nat} {x y : CardM} (hi : xs[i]? = some x) (hj : xs[j]? = some y) :
    ∃ g, A = some ⟨g, 0, none⟩ ∧ W.frozen? ⟨g, i * 2, none⟩ = false ∧ W.frozen? ⟨g, i * 2 + 1, none⟩ = false ∧ W.frozen? ⟨g, j * 2, none⟩ = false ∧ W.frozen? ⟨g, j * 2 + 1, none⟩ = false ∧ ∀ W', Below W.heap.size W W' →
      W'.cell? ⟨g, i * 2, none⟩ = some (.int .u64 (x.cid : Int)) ∧ W'.cell? ⟨g, i * 2 + 1, none⟩ = some (.slice x.X x.ls.length x.c) ∧ W'.cell? ⟨g, j * 2, none⟩ = some (.int .u64 (y.cid : Int)) ∧ W'.cell? ⟨g, j * 2 + 1, none⟩ = some (.slice y.X y.ls.length y.c) := by
  obtain ⟨g, rfl, -, hg, c0, c1, f0, f1, -⟩ := card_row hs.1 hi
  obtain ⟨g', e, -, -, d0, d1, k0, k1, -⟩ := card_row hs.1 hj
  obtain rfl : g = g' := congrArg Addr.block (Option.some.inj e)
  exact ⟨g, rfl, f0, f1, k0, k1, fun W' hb => ⟨(hb.cell (p := ⟨g, i * 2, none⟩) hg).trans c0, (hb.cell (p := ⟨g, i * 2 + 1, none⟩) hg).trans c1, (hb.cell (p := ⟨g, j * 2, none⟩) hg).trans d0, (hb.cell (p := ⟨g, j * 2 + 1, none⟩) hg).trans d1⟩⟩
end
/-- the exchange of neighbours, in parts -/
theorem list_next {P Q : List CardM} {u x : CardM} {k : Nat} (hk : k = P.length + 1) :
    (P ++ u :: x :: Q)[k]? = some x ∧ (P ++ u :: x :: Q)[k - 1]? = some u ∧ ((P ++ u :: x :: Q).set k u).set (k - 1) x = P ++ x :: u :: Q := by
  subst hk
  rw [Nat.add_sub_cancel]
  refine ⟨?_, by simp, ?_⟩
  · rw [List.getElem?_append_right (by omega), show P.length + 1 - P.length = 1 by omega]; rfl
  · rw [List.set_append_right _ _ (by omega), show P.length + 1 - P.length = 1 by omega, List.set_append_right _ _ (Nat.le_refl _), Nat.sub_self]; rfl
end Go.Proofs.YtfkfpanhbanljaaDoor.Stab

/- slices.SortStableFunc of cards: insertion, the walk. (printed by tools/gensi.py) -/
namespace Go.Proofs.YtfkfpanhbanljaaDoor.Stab
open Go.RowKit Go.Proofs.YtfkfpanhbanljaaDoor.Mem Go.Proofs.YtfkfpanhbanljaaDoor.Card Go.Proofs.YtfkfpanhbanljaaDoor.List44

theorem ins_at {U V : List CardM} {u x : CardM} (hT : Srt ltC (U ++ [u] ++ V)) (h : ltC x u = false) (hV : ∀ v ∈ V, ltC x v = true) : ins ltC (U ++ [u] ++ V) x = U ++ [u] ++ x :: V := by
  refine ins_split (U ++ [u]) V x (fun q hq => ?_) fun v hv => hV v (List.mem_of_mem_head? hv)
  rcases List.mem_append.1 hq with hq | hq
  · have h1 : ltC u q = false := by
      have h2 := List.pairwise_append.1 (List.pairwise_append.1 hT).1
      exact h2.2.2 q hq u (List.mem_singleton.2 rfl)
    exact swoC.neg x u q h h1
  · rw [List.mem_singleton.1 hq]; exact h
set_option maxRecDepth 100000 in
set_option maxHeartbeats 8000000 in
theorem insC_own (base : Nat) (A : Option Addr) (c n : Nat) (P S Q l : List CardM) (w : World) (hn : (P ++ S ++ Q).length = n) (hsz : n ≤ 1000000) (h : cardE.Own w base 28 (.slice A n c) (P ++ S ++ Q)) (hc : CmpOk A n c w l) (hS : ∀ x ∈ S, x ∈ l) :
    Calls Tryd.prog 95 #[.slice A n c, .int .i64 (P.length : Int), .int .i64 ((P.length + S.length : Nat) : Int), .func (.func 10) #[] #[]] w (RowTo base A n c w (P ++ stab ltC S ++ Q)) := by
  have HCMP := kept hc
  have HSL := kept hS
  have H0 : Kept (SS base A n c w w (P ++ stab ltC (S.take 1) ++ S.drop 1 ++ Q)) := ⟨by
    have e : P ++ stab ltC (S.take 1) ++ S.drop 1 ++ Q = P ++ S ++ Q := by
      cases S with
      | nil => simp [stab]
      | cons a S => simp [stab, ins]
    exact ⟨by rw [e]; exact h, Upd.refl _ _⟩⟩
  obtain ⟨T0, hT0⟩ : ∃ T0, P ++ stab ltC S ++ Q = T0 := ⟨_, rfl⟩
  have HR : Kept (∀ W, SS base A n c w W (P ++ stab ltC S ++ Q) → RowTo base A n c w T0 (.returned (.tuple #[])) W) := ⟨fun W h => ⟨rfl, by rw [← hT0]; exact h.1, h.2⟩⟩
  rw [hT0]
  clear hT0
  have HN := kept hn
  obtain ⟨pl, hpl⟩ : ∃ pl, P.length = pl := ⟨_, rfl⟩
  obtain ⟨sl, hsl⟩ : ∃ sl, S.length = sl := ⟨_, rfl⟩
  have hle : pl + sl ≤ n := by simp at hn; omega
  have HPL := kept hpl
  have HSN := kept hsl
  rw [hpl, hsl]
  obtain ⟨bl, hbl⟩ : ∃ bl, pl + sl = bl := ⟨_, rfl⟩
  rw [hbl]
  have hble : pl ≤ bl := by omega
  have hbln : bl ≤ n := by omega
  have hblk : ∀ k, pl + k < bl ↔ k < sl := fun k => by omega
  have HBK := kept hblk
  clear hn hpl hsl hbl hle h hc hS hblk
  go_enter Tryd.func95, Tryd.ntmps95
  go_wp2_with fail
  go_loopw [8] (fun iv wr => ∃ (k i : Nat), 1 ≤ k ∧ (k ≤ sl ∨ k = 1) ∧ Kept (i = pl + k) ∧ iv = .int .i64 (i : Int) ∧ Kept (SS base A n c w wr (P ++ stab ltC (S.take k) ++ S.drop k ++ Q))) (fun iv _ => bl - (intOf iv).toNat)
  case atStart => exact ⟨1, pl + 1, Nat.le_refl _, .inr rfl, ⟨rfl⟩, by go_num, H0⟩
  case round =>
    clear H0
    obtain ⟨k, i, hk1, hk2, hik, rfl, HSS⟩ := hrel
    by_cases hlt : k < sl
    · have hib : i < bl := by rw [hik.out]; exact (HBK.out k).2 hlt
      have hibn : (i : Int) < (bl : Int) := by omega
      obtain ⟨x, hx⟩ : ∃ x, S[k]? = some x := ⟨_, List.getElem?_eq_getElem (by rw [HSN.out]; exact hlt)⟩
      have hdr : S.drop k = x :: S.drop (k + 1) := by
        obtain ⟨h1, h2⟩ := List.getElem?_eq_some_iff.1 hx
        rw [← h2]; exact List.drop_eq_getElem_cons h1
      have htk : S.take (k + 1) = S.take k ++ [x] := by
        obtain ⟨h1, h2⟩ := List.getElem?_eq_some_iff.1 hx
        rw [List.take_succ_eq_append_getElem h1, h2]
      have hst : stab ltC (S.take (k + 1)) = ins ltC (stab ltC (S.take k)) x := by rw [htk, stab_snoc]
      have hTs := stab_srt swoC (S.take k)
      have hTl : (stab ltC (S.take k)).length = k := by rw [stab_len, List.length_take, HSN.out]; omega
      have hTm : ∀ y ∈ stab ltC (S.take k), y ∈ l := fun y hy => HSL.out y (List.mem_of_mem_take ((stab_perm (S.take k)).mem_iff.1 hy))
      have hxl := HSL.out x (List.mem_of_getElem? hx)
      have HSS2 := HSS.out
      rw [hdr] at HSS2
      generalize hT : stab ltC (S.take k) = T at *
      have HIN : Kept (∀ U V, T = U ++ V → (∀ v ∈ V, ltC x v = true) → (∀ u U', U = U' ++ [u] → ltC x u = false) → ins ltC T x = U ++ x :: V) := ⟨fun U V e h1 h2 => by
        rcases List.eq_nil_or_concat U with rfl | ⟨U', u, rfl⟩
        · rw [e]; exact ins_split [] V x (fun _ h => by cases h) fun v hv => h1 v (List.mem_of_mem_head? hv)
        · rw [List.concat_eq_append] at e h2 ⊢
          rw [e] at hTs ⊢
          exact ins_at hTs (h2 u U' rfl) h1⟩
      have HD : Kept (∀ W, SS base A n c w W (P ++ ins ltC T x ++ S.drop (k + 1) ++ Q) → SS base A n c w W (P ++ stab ltC (S.take (k + 1)) ++ S.drop (k + 1) ++ Q)) := ⟨fun W h => by rw [hst]; exact h⟩
      have HTM := kept hTm
      have HXL := kept hxl
      have H1 : Kept (∃ U V, T = U ++ V ∧ i = pl + U.length ∧ (∀ v ∈ V, ltC x v = true) ∧ SS base A n c w wr (P ++ U ++ x :: V ++ S.drop (k + 1) ++ Q)) := ⟨T, [], by simp, by rw [hTl]; exact hik.out, fun v hv => (by cases hv), by
        have e : P ++ T ++ [x] ++ S.drop (k + 1) ++ Q = P ++ T ++ x :: S.drop (k + 1) ++ Q := by simp
        rw [e]; exact HSS2⟩
      clear hdr htk hst hTs hTl hTm hxl HSS2 HSS hx hT
      obtain ⟨R, hR⟩ : ∃ R, R = S.drop (k + 1) := ⟨_, rfl⟩
      have HD2 : Kept (∀ W, SS base A n c w W (P ++ ins ltC T x ++ R ++ Q) → SS base A n c w W (P ++ stab ltC (S.take (k + 1)) ++ S.drop (k + 1) ++ Q)) := ⟨fun W h => HD.out W (by rw [← hR]; exact h)⟩
      rw [← hR] at H1
      clear HD hR
      have HD := HD2
      clear HD2
      go_wp2_with fail
      go_loopw [9] (fun jv wr => ∃ (q : Nat) (U V : List CardM), jv = .int .i64 (q : Int) ∧ q ≤ i ∧ Kept (T = U ++ V ∧ q = pl + U.length ∧ (∀ v ∈ V, ltC x v = true) ∧ SS base A n c w wr (P ++ U ++ x :: V ++ R ++ Q))) (fun jv _ => (intOf jv).toNat)
      case atStart =>
        obtain ⟨U, V, h1, h2, h3, h4⟩ := H1.out
        exact ⟨i, U, V, rfl, Nat.le_refl _, ⟨h1, h2, h3, h4⟩⟩
      case round =>
        clear H1
        obtain ⟨q, U, V, rfl, hqi, HI⟩ := hrel
        rcases List.eq_nil_or_concat U with rfl | ⟨U', u, rfl⟩
        · have hqp : q = pl := by have := HI.out.2.1; simpa using this
          subst hqp
          have hge : ¬ (q : Int) < (q : Int) := by omega
          have hge2 : ¬ q < q := by omega
          have HF : Kept (SS base A n c w wr (P ++ stab ltC (S.take (k + 1)) ++ S.drop (k + 1) ++ Q)) := ⟨HD.out wr (by
            rw [HIN.out [] V HI.out.1 HI.out.2.2.1 fun u U' e => by simp at e]
            have e6 : P ++ ([] ++ x :: V) ++ R ++ Q = P ++ [] ++ x :: V ++ R ++ Q := by simp
            rw [e6]
            exact HI.out.2.2.2)⟩
          clear HI HIN HD HTM
          have hd0 : Below wr.heap.size wr wr := Below.refl _ _
          go_upto_region 4 with fail
          go_cut [34] (fun v wr' => v = .bool false ∧ Kept (Below wr.heap.size wr wr'))
          case first =>
            clear HF
            refine wp_region_noPanic ?_
            refine wp_region_held_drew (S := fun W => True) (by kernel_rfl) trivial (fun hS0 => ?_)
            refine wpAnyH_take (i := 0) (v := ?_) rfl (by kernel_rfl) (by kernel_rfl) (by kernel_rfl) (fun _ _ _ h => h) (Or.inl ⟨by rfl, ?_⟩) hS0 ?_
            case refine_2 => (intro W hSW; go_simp; try with_reducible rfl)
            try simp only [Act.put, List.setIfInBounds_toArray, List.set_cons_zero, List.set_cons_succ, List.getElem_toArray, List.getElem_cons_zero, List.getElem_cons_succ]
            refine wpAnyH_take (i := 1) (v := ?_) rfl (by kernel_rfl) (by kernel_rfl) (by kernel_rfl) (fun _ _ _ h => h) (Or.inl ⟨by rfl, ?_⟩) hS0 ?_
            case refine_2 => (intro W hSW; go_simp; try with_reducible rfl)
            try simp only [Act.put, List.setIfInBounds_toArray, List.set_cons_zero, List.set_cons_succ, List.getElem_toArray, List.getElem_cons_zero, List.getElem_cons_succ]
            refine wpAnyH_take (i := 2) (v := ?_) rfl (by kernel_rfl) (by kernel_rfl) (by kernel_rfl) (fun _ _ _ h => h) (Or.inl ⟨by rfl, ?_⟩) hS0 ?_
            case refine_2 => (intro W hSW; go_simp; try with_reducible rfl)
            try simp only [Act.put, List.setIfInBounds_toArray, List.set_cons_zero, List.set_cons_succ, List.getElem_toArray, List.getElem_cons_zero, List.getElem_cons_succ]
            refine wpAnyH_take (i := 3) (v := ?_) rfl (by kernel_rfl) (by kernel_rfl) (by kernel_rfl) (fun _ _ _ h => h) (Or.inl ⟨by rfl, ?_⟩) hS0 ?_
            case refine_2 => (intro W hSW; go_simp; try with_reducible rfl)
            try simp only [Act.put, List.setIfInBounds_toArray, List.set_cons_zero, List.set_cons_succ, List.getElem_toArray, List.getElem_cons_zero, List.getElem_cons_succ]
            refine wpAnyH_take (i := 4) (v := undef) rfl (by kernel_rfl) (by kernel_rfl) (by kernel_rfl) (fun _ _ _ h => h) (Or.inr ⟨by rfl, rfl⟩) hS0 ?_
            try simp only [Act.put, List.setIfInBounds_toArray, List.set_cons_zero, List.set_cons_succ, List.getElem_toArray, List.getElem_cons_zero, List.getElem_cons_succ]
            refine wpAnyH_take (i := 5) (v := undef) rfl (by kernel_rfl) (by kernel_rfl) (by kernel_rfl) (fun _ _ _ h => h) (Or.inr ⟨by rfl, rfl⟩) hS0 ?_
            try simp only [Act.put, List.setIfInBounds_toArray, List.set_cons_zero, List.set_cons_succ, List.getElem_toArray, List.getElem_cons_zero, List.getElem_cons_succ]
            refine wpAnyH_take (i := 6) (v := undef) rfl (by kernel_rfl) (by kernel_rfl) (by kernel_rfl) (fun _ _ _ h => h) (Or.inr ⟨by rfl, rfl⟩) hS0 ?_
            try simp only [Act.put, List.setIfInBounds_toArray, List.set_cons_zero, List.set_cons_succ, List.getElem_toArray, List.getElem_cons_zero, List.getElem_cons_succ]
            refine wpAnyH_take (i := 7) (v := undef) rfl (by kernel_rfl) (by kernel_rfl) (by kernel_rfl) (fun _ _ _ h => h) (Or.inr ⟨by rfl, rfl⟩) hS0 ?_
            try simp only [Act.put, List.setIfInBounds_toArray, List.set_cons_zero, List.set_cons_succ, List.getElem_toArray, List.getElem_cons_zero, List.getElem_cons_succ]
            refine wpAnyH_take (i := 8) (v := undef) rfl (by kernel_rfl) (by kernel_rfl) (by kernel_rfl) (fun _ _ _ h => h) (Or.inr ⟨by rfl, rfl⟩) hS0 ?_
            try simp only [Act.put, List.setIfInBounds_toArray, List.set_cons_zero, List.set_cons_succ, List.getElem_toArray, List.getElem_cons_zero, List.getElem_cons_succ]
            refine wpAnyH_take (i := 9) (v := undef) rfl (by kernel_rfl) (by kernel_rfl) (by kernel_rfl) (fun _ _ _ h => h) (Or.inr ⟨by rfl, rfl⟩) hS0 ?_
            try simp only [Act.put, List.setIfInBounds_toArray, List.set_cons_zero, List.set_cons_succ, List.getElem_toArray, List.getElem_cons_zero, List.getElem_cons_succ]
            refine wpAnyH_take (i := 10) (v := undef) rfl (by kernel_rfl) (by kernel_rfl) (by kernel_rfl) (fun _ _ _ h => h) (Or.inr ⟨by rfl, rfl⟩) hS0 ?_
            try simp only [Act.put, List.setIfInBounds_toArray, List.set_cons_zero, List.set_cons_succ, List.getElem_toArray, List.getElem_cons_zero, List.getElem_cons_succ]
            refine wpAnyH_take (i := 11) (v := undef) rfl (by kernel_rfl) (by kernel_rfl) (by kernel_rfl) (fun _ _ _ h => h) (Or.inr ⟨by rfl, rfl⟩) hS0 ?_
            try simp only [Act.put, List.setIfInBounds_toArray, List.set_cons_zero, List.set_cons_succ, List.getElem_toArray, List.getElem_cons_zero, List.getElem_cons_succ]
            refine wpAnyH_take (i := 12) (v := undef) rfl (by kernel_rfl) (by kernel_rfl) (by kernel_rfl) (fun _ _ _ h => h) (Or.inr ⟨by rfl, rfl⟩) hS0 ?_
            try simp only [Act.put, List.setIfInBounds_toArray, List.set_cons_zero, List.set_cons_succ, List.getElem_toArray, List.getElem_cons_zero, List.getElem_cons_succ]
            refine wpAnyH_take (i := 13) (v := undef) rfl (by kernel_rfl) (by kernel_rfl) (by kernel_rfl) (fun _ _ _ h => h) (Or.inr ⟨by rfl, rfl⟩) hS0 ?_
            try simp only [Act.put, List.setIfInBounds_toArray, List.set_cons_zero, List.set_cons_succ, List.getElem_toArray, List.getElem_cons_zero, List.getElem_cons_succ]
            refine wpAnyH_take (i := 14) (v := undef) rfl (by kernel_rfl) (by kernel_rfl) (by kernel_rfl) (fun _ _ _ h => h) (Or.inr ⟨by rfl, rfl⟩) hS0 ?_
            try simp only [Act.put, List.setIfInBounds_toArray, List.set_cons_zero, List.set_cons_succ, List.getElem_toArray, List.getElem_cons_zero, List.getElem_cons_succ]
            refine wpAnyH_take (i := 15) (v := undef) rfl (by kernel_rfl) (by kernel_rfl) (by kernel_rfl) (fun _ _ _ h => h) (Or.inr ⟨by rfl, rfl⟩) hS0 ?_
            try simp only [Act.put, List.setIfInBounds_toArray, List.set_cons_zero, List.set_cons_succ, List.getElem_toArray, List.getElem_cons_zero, List.getElem_cons_succ]
            refine wpAnyH_take (i := 16) (v := ?_) rfl (by kernel_rfl) (by kernel_rfl) (by kernel_rfl) (fun _ _ _ h => h) (Or.inl ⟨by rfl, ?_⟩) hS0 ?_
            case refine_2 => (intro W hSW; go_simp; try with_reducible rfl)
            try simp only [Act.put, List.setIfInBounds_toArray, List.set_cons_zero, List.set_cons_succ, List.getElem_toArray, List.getElem_cons_zero, List.getElem_cons_succ]
            refine wpAnyH_done (by kernel_rfl) (NoPanic.normal ?_) _
            go_wp2_with fail
            go_meet
            exact ⟨rfl, ⟨hd0.drew⟩⟩
          case rest =>
            obtain ⟨rfl, hcut⟩ := hcut
            have HF2 := kept (HF.out.next hcut.out)
            obtain ⟨w4, hw4⟩ : ∃ w4 : World, w4 = wc := ⟨_, rfl⟩
            rw [← hw4] at HF2 ⊢
            clear hw4 hcut HF hd0
            go_wp2_with fail
            go_roundw
            case rel => (refine ⟨k + 1, i + 1, by omega, .inl (by omega), ⟨by rw [hik.out]; omega⟩, by go_num, ?_⟩; with_reducible exact HF2)
            case measure => simp [intOf]; omega
        · rw [List.concat_eq_append] at HI
          have hq1 : q = (P ++ U').length + 1 := by have := HI.out.2.1; rw [List.length_append, List.length_append, HPL.out] at *; simp at this; omega
          have hqp : pl < q := by have := HI.out.2.1; simp at this; omega
          have hqn : q < n := by omega
          have e1 : P ++ (U' ++ [u]) ++ x :: V ++ R ++ Q = (P ++ U') ++ u :: x :: (V ++ R ++ Q) := by simp
          have e2 : (P ++ U') ++ x :: u :: (V ++ R ++ Q) = P ++ U' ++ x :: (u :: V) ++ R ++ Q := by simp
          obtain ⟨l1, l2, l3⟩ := list_next (u := u) (x := x) (Q := V ++ R ++ Q) hq1
          have hss := HI.out.2.2.2
          rw [e1] at hss
          obtain ⟨g, rfl, f0, f1, k0, k1, hcc⟩ := hss.two l1 l2
          have CL := kept (fun W' (hb : Below wr.heap.size wr W') => HCMP.out W' x u (hss.2.next hb) HXL.out (HTM.out u (by rw [HI.out.1]; simp)))
          have HLT : Kept (ltC x u = decide (cmpC x u < 0)) := ⟨rfl⟩
          have HNO : Kept (ltC x u = false → SS base (some ⟨g, 0, none⟩) n c w wr (P ++ stab ltC (S.take (k + 1)) ++ S.drop (k + 1) ++ Q)) := ⟨fun h => HD.out wr (by
            rw [HIN.out (U' ++ [u]) V HI.out.1 HI.out.2.2.1 fun u2 U2 e => by
              have e3 := List.append_inj' e rfl
              have e4 : u = u2 := by simpa using e3.2
              rw [← e4]; exact h]
            have e5 : P ++ (U' ++ [u] ++ x :: V) ++ R ++ Q = P ++ (U' ++ [u]) ++ x :: V ++ R ++ Q := by simp
            rw [e5]; exact HI.out.2.2.2)⟩
          have HYES : Kept (ltC x u = true → T = U' ++ (u :: V) ∧ q - 1 = pl + U'.length ∧ (∀ v ∈ u :: V, ltC x v = true)) := ⟨fun h => ⟨by rw [HI.out.1]; simp, by have := HI.out.2.1; simp at this; omega, fun v hv => by
            rcases List.mem_cons.1 hv with rfl | hv
            · exact h
            · exact HI.out.2.2.1 v hv⟩⟩
          have HSW : Kept (∀ W, Below wr.heap.size wr W → SS base (some ⟨g, 0, none⟩) n c w (swW W g q (q - 1) x u) (P ++ U' ++ x :: (u :: V) ++ R ++ Q)) := ⟨fun W hb => by
            have h1 := hss.next hb
            have h2 := swW_own h1.1 l1 l2 (show q ≠ q - 1 by omega)
            rw [l3, e2] at h2
            exact ⟨h2, swW_upd h1.2 rfl _ _⟩⟩
          have HC := kept hcc
          have HFZ : Kept (∀ W, Below wr.heap.size wr W → W.frozen? ⟨g, q * 2, none⟩ = false ∧ W.frozen? ⟨g, q * 2 + 1, none⟩ = false ∧ W.frozen? ⟨g, (q - 1) * 2, none⟩ = false ∧ W.frozen? ⟨g, (q - 1) * 2 + 1, none⟩ = false) := ⟨fun W hb => by
            obtain ⟨g', e, k0', k1', f0', f1', -⟩ := (hss.next hb).two l2 l1
            obtain rfl : g = g' := congrArg Addr.block (Option.some.inj e)
            exact ⟨f0', f1', k0', k1'⟩⟩
          clear hcc f0 f1 k0 k1 e1 e2 l1 l2 l3 hss HI HIN HD HTM
          obtain ⟨xcid, xX, xls, xc⟩ := x
          obtain ⟨ucid, uX, uls, uc⟩ := u
          unfold CardM.val at CL
          dsimp only at HC CL HLT HNO HYES HSW
          unfold swW at HSW
          dsimp only at HSW
          have hgt : (pl : Int) < (q : Int) := by omega
          have hq1n : q - 1 < n := by omega
          have hqi2 : (0 : Int) ≤ ((q - 1 : Nat) : Int) := by omega
          have hqi3 : ((q - 1 : Nat) : Int) < (n : Int) := by omega
          have hqi4 : (q : Int) < (n : Int) := by omega
          have hne : ¬ q = q - 1 := by omega
          have hne2 : ¬ q - 1 = q := by omega
          have HW1 : Kept (IntKind.i64.wrap ((q : Int) - 1) = ((q - 1 : Nat) : Int)) := ⟨by rw [IntWalk.i64_in _ (by omega)]; omega⟩
          have HQI : Kept (((q : Int) - 1) = ((q - 1 : Nat) : Int)) := ⟨by omega⟩
          clear hq1
          generalize hcz : cmpC ⟨xcid, xX, xls, xc⟩ ⟨ucid, uX, uls, uc⟩ = z at *
          clear hcz
          obtain ⟨d, hd⟩ : ∃ d, ltC ⟨xcid, xX, xls, xc⟩ ⟨ucid, uX, uls, uc⟩ = d := ⟨_, rfl⟩
          rw [hd] at HLT HNO HYES
          have hdz : decide (z < 0) = d := HLT.out.symm
          clear hd HLT
          go_upto_region 4 with fail
          go_cut [34] (fun v wr' => v = .bool d ∧ Kept (Below wr.heap.size wr wr'))
          case first =>
            have hd0 : Below wr.heap.size wr wr := Below.refl _ _
            have hw1 := HW1.out
            clear HNO HYES HSW HFZ HQI
            refine wp_region_noPanic ?_
            refine wp_region_held_drew (S := fun W => W.cell? ⟨g, q * 2, none⟩ = some (.int .u64 (xcid : Int)) ∧ W.cell? ⟨g, q * 2 + 1, none⟩ = some (.slice xX xls.length xc) ∧ W.cell? ⟨g, (q - 1) * 2, none⟩ = some (.int .u64 (ucid : Int)) ∧ W.cell? ⟨g, (q - 1) * 2 + 1, none⟩ = some (.slice uX uls.length uc)) (by kernel_rfl) (HC.out _ (by (repeat (first | with_reducible assumption | with_reducible refine below_new ?_ _ | with_reducible refine Below.drew ?_ | with_reducible exact Below.refl _ _)))) (fun hS0 => ?_)
            refine wpAnyH_take (i := 0) (v := ?_) rfl (by kernel_rfl) (by kernel_rfl) (by kernel_rfl) (fun _ _ _ h => h) (Or.inl ⟨by rfl, ?_⟩) hS0 ?_
            case refine_2 => (intro W hSW; go_simp; try with_reducible rfl)
            try simp only [Act.put, List.setIfInBounds_toArray, List.set_cons_zero, List.set_cons_succ, List.getElem_toArray, List.getElem_cons_zero, List.getElem_cons_succ]
            refine wpAnyH_take (i := 1) (v := ?_) rfl (by kernel_rfl) (by kernel_rfl) (by kernel_rfl) (fun _ _ _ h => h) (Or.inl ⟨by rfl, ?_⟩) hS0 ?_
            case refine_2 => (intro W hSW; go_simp; try with_reducible rfl)
            try simp only [Act.put, List.setIfInBounds_toArray, List.set_cons_zero, List.set_cons_succ, List.getElem_toArray, List.getElem_cons_zero, List.getElem_cons_succ]
            refine wpAnyH_take (i := 2) (v := ?_) rfl (by kernel_rfl) (by kernel_rfl) (by kernel_rfl) (fun _ _ _ h => h) (Or.inl ⟨by rfl, ?_⟩) hS0 ?_
            case refine_2 => (intro W hSW; go_simp; try with_reducible rfl)
            try simp only [Act.put, List.setIfInBounds_toArray, List.set_cons_zero, List.set_cons_succ, List.getElem_toArray, List.getElem_cons_zero, List.getElem_cons_succ]
            refine wpAnyH_take (i := 3) (v := ?_) rfl (by kernel_rfl) (by kernel_rfl) (by kernel_rfl) (fun _ _ _ h => h) (Or.inl ⟨by rfl, ?_⟩) hS0 ?_
            case refine_2 => (intro W hSW; go_simp; try with_reducible rfl)
            try simp only [Act.put, List.setIfInBounds_toArray, List.set_cons_zero, List.set_cons_succ, List.getElem_toArray, List.getElem_cons_zero, List.getElem_cons_succ]
            refine wpAnyH_take (i := 4) (v := ?_) rfl (by kernel_rfl) (by kernel_rfl) (by kernel_rfl) (fun _ _ _ h => h) (Or.inl ⟨by rfl, ?_⟩) hS0 ?_
            case refine_2 => (intro W hSW; go_simp; try with_reducible rfl)
            try simp only [Act.put, List.setIfInBounds_toArray, List.set_cons_zero, List.set_cons_succ, List.getElem_toArray, List.getElem_cons_zero, List.getElem_cons_succ]
            refine wpAnyH_take (i := 5) (v := ?_) rfl (by kernel_rfl) (by kernel_rfl) (by kernel_rfl) (fun _ _ _ h => h) (Or.inl ⟨by rfl, ?_⟩) hS0 ?_
            case refine_2 => (intro W hSW; go_simp; try with_reducible rfl)
            try simp only [Act.put, List.setIfInBounds_toArray, List.set_cons_zero, List.set_cons_succ, List.getElem_toArray, List.getElem_cons_zero, List.getElem_cons_succ]
            refine wpAnyH_take (i := 6) (v := ?_) rfl (by kernel_rfl) (by kernel_rfl) (by kernel_rfl) (fun _ _ _ h => h) (Or.inl ⟨by rfl, ?_⟩) hS0 ?_
            case refine_2 => (intro W hSW; go_simp; try with_reducible rfl)
            try simp only [Act.put, List.setIfInBounds_toArray, List.set_cons_zero, List.set_cons_succ, List.getElem_toArray, List.getElem_cons_zero, List.getElem_cons_succ]
            refine wpAnyH_take (i := 7) (v := ?_) rfl (by kernel_rfl) (by kernel_rfl) (by kernel_rfl) (fun _ _ _ h => h) (Or.inl ⟨by rfl, ?_⟩) hS0 ?_
            case refine_2 => (intro W hSW; go_simp; try with_reducible rfl)
            try simp only [Act.put, List.setIfInBounds_toArray, List.set_cons_zero, List.set_cons_succ, List.getElem_toArray, List.getElem_cons_zero, List.getElem_cons_succ]
            refine wpAnyH_take (i := 8) (v := ?_) rfl (by kernel_rfl) (by kernel_rfl) (by kernel_rfl) (fun _ _ _ h => h) (Or.inl ⟨by rfl, ?_⟩) hS0 ?_
            case refine_2 => (intro W hSW; obtain ⟨z0, z1, z2, z3⟩ := hSW; go_simp; try with_reducible rfl)
            try simp only [Act.put, List.setIfInBounds_toArray, List.set_cons_zero, List.set_cons_succ, List.getElem_toArray, List.getElem_cons_zero, List.getElem_cons_succ]
            refine wpAnyH_take (i := 9) (v := ?_) rfl (by kernel_rfl) (by kernel_rfl) (by kernel_rfl) (fun _ _ _ h => h) (Or.inl ⟨by rfl, ?_⟩) hS0 ?_
            case refine_2 => (intro W hSW; go_simp; try with_reducible rfl)
            try simp only [Act.put, List.setIfInBounds_toArray, List.set_cons_zero, List.set_cons_succ, List.getElem_toArray, List.getElem_cons_zero, List.getElem_cons_succ]
            refine wpAnyH_take (i := 10) (v := ?_) rfl (by kernel_rfl) (by kernel_rfl) (by kernel_rfl) (fun _ _ _ h => h) (Or.inl ⟨by rfl, ?_⟩) hS0 ?_
            case refine_2 => (intro W hSW; go_simp; try with_reducible rfl)
            try simp only [Act.put, List.setIfInBounds_toArray, List.set_cons_zero, List.set_cons_succ, List.getElem_toArray, List.getElem_cons_zero, List.getElem_cons_succ]
            refine wpAnyH_take (i := 11) (v := ?_) rfl (by kernel_rfl) (by kernel_rfl) (by kernel_rfl) (fun _ _ _ h => h) (Or.inl ⟨by rfl, ?_⟩) hS0 ?_
            case refine_2 => (intro W hSW; go_simp; try with_reducible rfl)
            try simp only [Act.put, List.setIfInBounds_toArray, List.set_cons_zero, List.set_cons_succ, List.getElem_toArray, List.getElem_cons_zero, List.getElem_cons_succ]
            refine wpAnyH_take (i := 12) (v := ?_) rfl (by kernel_rfl) (by kernel_rfl) (by kernel_rfl) (fun _ _ _ h => h) (Or.inl ⟨by rfl, ?_⟩) hS0 ?_
            case refine_2 => (intro W hSW; go_simp; try with_reducible rfl)
            try simp only [Act.put, List.setIfInBounds_toArray, List.set_cons_zero, List.set_cons_succ, List.getElem_toArray, List.getElem_cons_zero, List.getElem_cons_succ]
            refine wpAnyH_take (i := 13) (v := ?_) rfl (by kernel_rfl) (by kernel_rfl) (by kernel_rfl) (fun _ _ _ h => h) (Or.inl ⟨by rfl, ?_⟩) hS0 ?_
            case refine_2 => (intro W hSW; obtain ⟨z0, z1, z2, z3⟩ := hSW; go_simp; try with_reducible rfl)
            try simp only [Act.put, List.setIfInBounds_toArray, List.set_cons_zero, List.set_cons_succ, List.getElem_toArray, List.getElem_cons_zero, List.getElem_cons_succ]
            refine wpAnyH_ready (rs := [14]) (by kernel_rfl) (by simp) ?_
            refine AllReadyH.cons rfl (fun K' hK => ?_) AllReadyH.nil
            go_simp
            go_at_call 10
            refine (CL.out _ (by (repeat (first | with_reducible assumption | with_reducible refine below_new ?_ _ | with_reducible refine Below.drew ?_ | with_reducible exact Below.refl _ _)))).mono ?_
            rintro e x1 ⟨rfl, hx1⟩
            have hk1 : Below wr.heap.size wr x1 := below_next (by (repeat (first | with_reducible assumption | with_reducible refine below_new ?_ _ | with_reducible refine Below.drew ?_ | with_reducible exact Below.refl _ _))) hx1
            try simp only [Act.put, List.setIfInBounds_toArray, List.set_cons_zero, List.set_cons_succ, List.getElem_toArray, List.getElem_cons_zero, List.getElem_cons_succ]
            refine hK.out _ _ (HC.out x1 hk1) (fun hS0 => ?_)
            refine wpAnyH_take (i := 15) (v := ?_) rfl (by kernel_rfl) (by kernel_rfl) (by kernel_rfl) (fun _ _ _ h => h) (Or.inl ⟨by rfl, ?_⟩) hS0 ?_
            case refine_2 => (intro W hSW; go_simp; try with_reducible rfl)
            try simp only [Act.put, List.setIfInBounds_toArray, List.set_cons_zero, List.set_cons_succ, List.getElem_toArray, List.getElem_cons_zero, List.getElem_cons_succ]
            refine wpAnyH_take (i := 16) (v := ?_) rfl (by kernel_rfl) (by kernel_rfl) (by kernel_rfl) (fun _ _ _ h => h) (Or.inl ⟨by rfl, ?_⟩) hS0 ?_
            case refine_2 => (intro W hSW; go_simp; try with_reducible rfl)
            try simp only [Act.put, List.setIfInBounds_toArray, List.set_cons_zero, List.set_cons_succ, List.getElem_toArray, List.getElem_cons_zero, List.getElem_cons_succ]
            refine wpAnyH_done (by kernel_rfl) (NoPanic.normal ?_) _
            go_wp2_with fail
            go_meet
            exact ⟨rfl, ⟨hk1⟩⟩
          case rest =>
            obtain ⟨rfl, hcut⟩ := hcut
            obtain ⟨c0, c1, d0, d1⟩ := HC.out wc hcut.out
            obtain ⟨f0, f1, k0, k1⟩ := HFZ.out wc hcut.out
            have HSW2 := kept (HSW.out wc hcut.out)
            have HNO2 : Kept (d = false → SS base (some ⟨g, 0, none⟩) n c w wc (P ++ stab ltC (S.take (k + 1)) ++ S.drop (k + 1) ++ Q)) := ⟨fun h => (HNO.out h).next hcut.out⟩
            obtain ⟨w4, hw4⟩ : ∃ w4 : World, w4 = wc := ⟨_, rfl⟩
            rw [← hw4] at HSW2 HNO2 c0 c1 d0 d1 f0 f1 k0 k1 ⊢
            clear hw4 hcut HC HFZ HSW HNO CL hdz
            cases d with
            | false =>
              have HF2 := kept (HNO2.out rfl)
              clear HSW2 HNO2 HYES c0 c1 d0 d1 f0 f1 k0 k1
              go_wp2_with fail
              go_roundw
              case rel => (refine ⟨k + 1, i + 1, by omega, .inl (by omega), ⟨by rw [hik.out]; omega⟩, by go_num, ?_⟩; with_reducible exact HF2)
              case measure => simp [intOf]; omega
            | true =>
              obtain ⟨t1, t2, t3⟩ := HYES.out rfl
              have HT3 := kept (And.intro t1 (And.intro t2 t3))
              clear HNO2 HYES t1 t2 t3
              have hw1 := HW1.out
              go_upto_region 6 with fail
              go_region
              all_goals
                clear hw1
                go_wp2_with fail
                go_roundw
                case rel => (refine ⟨q - 1, U', ⟨ucid, uX, uls, uc⟩ :: V, by first | rfl | (rw [HQI.out]), by omega, ⟨HT3.out.1, HT3.out.2.1, HT3.out.2.2, ?_⟩⟩; with_reducible exact HSW2.out)
                case measure => simp [intOf]; omega
    · have hib : ¬ i < bl := by rw [hik.out]; exact fun h => hlt ((HBK.out k).1 h)
      have hibn : ¬ (i : Int) < (bl : Int) := by omega
      have HF := kept (HR.out wr (by
        have h1 := HSS.out
        rw [List.take_of_length_le (by rw [HSN.out]; omega), List.drop_of_length_le (by rw [HSN.out]; omega)] at h1
        simpa using h1))
      go_wp2_with fail
      go_end0
      exact HF.out
end Go.Proofs.YtfkfpanhbanljaaDoor.Stab
