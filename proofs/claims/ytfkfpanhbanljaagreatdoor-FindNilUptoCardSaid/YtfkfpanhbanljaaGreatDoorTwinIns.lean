/- Layer 47 (twin): slices.SortStableFunc of fewer than twenty groups. -/
import Derived.Test.YtfkfpanhbanljaaGreatDoorSet22
import Derived.BigQuiet
import Derived.Deep.DeepCutAuto
namespace Go.Proofs.YtfkfpanhbanljaaGreatDoor.Twin
open Go.RowKit Go.Proofs.YtfkfpanhbanljaaGreatDoor.Mem

def gz : GrpM := ⟨none, [], 0⟩
def leG (x y : GrpM) : Prop := upTo x.l y.l
theorem leG_trans : ∀ a b c : GrpM, leG a b → leG b c → leG a c := fun _ _ _ h1 h2 => upTo_trans h1 h2
theorem grp_spot {w : World} {base : Nat} {A : Option Addr} {n c : Nat} {xs : List GrpM} (h : grpE.Own w base 49 (.slice A n c) xs) {k : Nat} (hk : k < xs.length) :
    ∃ g, A = some ⟨g, 0, none⟩ ∧ base ≤ g ∧ w.cell? ⟨g, k, none⟩ = some (xs.getD k gz).val ∧ w.frozen? ⟨g, k, none⟩ = false ∧ ∀ v : GrpM, grpE.Own (w.setCell ⟨g, k, none⟩ v.val) base 49 (.slice A n c) (xs.set k v) := by
  have hx : xs[k]? = some (xs.getD k gz) := by simp [List.getD, hk]
  obtain ⟨g, h1, h2, -, h4, h5, h6⟩ := h.spot (i := k) (j := 0) hx rfl
  rw [show k * grpE.k + 0 = k from Nat.mul_one k] at h4 h5 h6
  subst h1
  exact ⟨g, rfl, h2, h4, h5, fun v => (h6 v v.val rfl).1⟩
set_option maxRecDepth 100000 in
set_option maxHeartbeats 4000000 in
theorem insg_own (base : Nat) (A : Option Addr) (c : Nat) (l : List GrpM) (w : World) (h : grpE.Own w base 49 (.slice A l.length c) l) (hsz : l.length ≤ 1000000)
    (hg : ∀ W, Upd (fun k => (Value.slice A l.length c).ownBlock = some k) w W → ∀ g ∈ l, Mem.Rd W W.heap.size g.A (WB g.l)) (hn : ∀ g ∈ l, g.l.length ≤ 1000000000) :
    Calls Tryz.prog 119 #[.slice A l.length c, .int .i64 0, .int .i64 (l.length : Int), .func (.func 58) #[] #[]] w fun e w' => e = .returned (.tuple #[]) ∧ ∃ l', l'.Perm l ∧ l'.Pairwise leG ∧ grpE.Own w' base 49 (.slice A l.length c) l' ∧ Upd (fun k => (Value.slice A l.length c).ownBlock = some k) w w' := by
  have H := kept h
  have HG := kept hg
  have HN := kept hn
  clear h hg hn
  go_enter Tryz.func119, Tryz.ntmps119
  go_wp2_with fail
  go_loopw [8] (fun i wr => ∃ (k : Nat) (xs : List GrpM), 1 ≤ k ∧ (k ≤ l.length ∨ k = 1) ∧ i = .int .i64 (k : Int) ∧ Kept (xs.length = l.length) ∧ Kept (xs.Perm l ∧ SortG.UpTo gz leG xs k ∧ grpE.Own wr base 49 (.slice A l.length c) xs ∧ Upd (fun k => (Value.slice A l.length c).ownBlock = some k) w wr)) (fun i _ => l.length - (intOf i).toNat)
  case atStart => exact ⟨1, l, Nat.le_refl _, .inr rfl, rfl, ⟨rfl⟩, ⟨List.Perm.refl _, fun p q _ _ => by omega, H.out, Upd.refl _ _⟩⟩
  case round =>
    clear H
    obtain ⟨k, xs, hk1, hk2, rfl, HXL, hin⟩ := hrel
    by_cases hlt : k < l.length
    · have hkn : (k : Int) < (l.length : Int) := by omega
      have HI : Kept (SortG.But gz leG xs k k ∧ xs.Perm l ∧ grpE.Own wr base 49 (.slice A l.length c) xs ∧ Upd (fun k => (Value.slice A l.length c).ownBlock = some k) w wr) := ⟨SortG.but_start hin.out.2.1, hin.out.1, hin.out.2.2⟩
      clear hin
      go_wp2_with fail
      go_loopw [9] (fun j wr2 => ∃ (m : Nat) (ys : List GrpM), m ≤ k ∧ j = .int .i64 (m : Int) ∧ Kept (ys.length = l.length) ∧ Kept (SortG.But gz leG ys k m ∧ ys.Perm l ∧ grpE.Own wr2 base 49 (.slice A l.length c) ys ∧ Upd (fun k => (Value.slice A l.length c).ownBlock = some k) w wr2)) (fun j _ => (intOf j).toNat)
      case atStart => exact ⟨k, xs, Nat.le_refl _, rfl, HXL, HI⟩
      case round =>
        clear HI HXL
        obtain ⟨m, ys, hm, rfl, HYL, hin⟩ := hrel
        rcases Nat.eq_zero_or_pos m with rfl | hpos
        · have HE : Kept (SortG.UpTo gz leG ys (k + 1) ∧ ys.Perm l ∧ grpE.Own wr base 49 (.slice A l.length c) ys ∧ Upd (fun k => (Value.slice A l.length c).ownBlock = some k) w wr) := ⟨SortG.but_end leG_trans hin.out.1 hm (.inl rfl), hin.out.2⟩
          clear hin
          go_wp2_with fail
          go_quiet (fail)
          go_wp2_with fail
          go_roundw
          case rel => exact ⟨k + 1, ys, by omega, .inl (by omega), by go_num, HYL, ⟨HE.out.2.1, HE.out.1, (by exact HE.out.2.2.1), HE.out.2.2.2.drewN _⟩⟩
          case measure => simp [intOf]; omega
        · have hyl := HYL.out
          obtain ⟨r, hA, hbr, c0, f0, s0⟩ := grp_spot hin.out.2.2.1 (k := m) (by omega)
          obtain ⟨r1, hA1, -, c1, f1, -⟩ := grp_spot hin.out.2.2.1 (k := m - 1) (by omega)
          subst hA
          obtain rfl : r = r1 := congrArg Addr.block (Option.some.inj hA1)
          have hgt : (0 : Int) < (m : Int) := by omega
          have hgd : decide ((m : Int) > 0) = true := decide_eq_true hgt
          have hmn : (m : Int) < (l.length : Int) := by omega
          have hw1 : IntKind.i64.wrap ((m : Int) - 1) = ((m - 1 : Nat) : Int) := by rw [IntKind.wrap_i64]; omega
          have hb1 : (0 : Int) ≤ ((m - 1 : Nat) : Int) := by omega
          have hb2 : ((m - 1 : Nat) : Int) < (l.length : Int) := by omega
          have HIN := kept hin.out
          have hmx : ys.getD m gz ∈ l := HIN.out.2.1.mem_iff.1 (by rw [show ys.getD m gz = ys[m]'(by omega) from by simp [List.getD, show m < ys.length by omega]]; exact List.getElem_mem _)
          have hmy : ys.getD (m - 1) gz ∈ l := HIN.out.2.1.mem_iff.1 (by rw [show ys.getD (m - 1) gz = ys[m - 1]'(by omega) from by simp [List.getD, show m - 1 < ys.length by omega]]; exact List.getElem_mem _)
          have CL := kept (fun n => (gcmp_any (ys.getD m gz) (ys.getD (m - 1) gz) (wr.drewN n) (HG.out _ (HIN.out.2.2.2.drewN n) _ hmx) (HG.out _ (HIN.out.2.2.2.drewN n) _ hmy) (HN.out _ hmx) (HN.out _ hmy)).mono fun _ _ h => And.intro h.1 h.2.symm)
          have hzz := cmpL_neg (ys.getD m gz).l (ys.getD (m - 1) gz).l
          have HVX : Kept (SortG.swapL gz ys m = (ys.set m (ys.getD (m - 1) gz)).set (m - 1) (ys.getD m gz)) := ⟨rfl⟩
          have HBE : Kept (aheadL (ys.getD m gz).l (ys.getD (m - 1) gz).l = false → SortG.UpTo gz leG ys (k + 1)) := ⟨fun h => SortG.but_end leG_trans HIN.out.1 hm (.inr h)⟩
          have HBS : Kept (aheadL (ys.getD m gz).l (ys.getD (m - 1) gz).l = true → SortG.But gz leG (SortG.swapL gz ys m) k (m - 1)) := ⟨fun h => SortG.but_swap HIN.out.1 hpos hm (by omega) (ahead_asymm _ _ h)⟩
          clear s0 hin hA1 hmx hmy
          generalize ys.getD m gz = vx at *
          generalize ys.getD (m - 1) gz = vy at *
          obtain ⟨vxA, vxl, vxc⟩ := vx
          obtain ⟨vyA, vyl, vyc⟩ := vy
          unfold GrpM.val at c0 c1 CL
          dsimp only at c0 c1 CL hzz HBE HBS
          generalize cmpL vxl vyl = z at *
          cases hlt2 : aheadL vxl vyl with
          | false =>
            rw [hlt2] at hzz
            have HE : Kept (SortG.UpTo gz leG ys (k + 1) ∧ ys.Perm l ∧ grpE.Own wr base 49 (.slice (some ⟨r, 0, none⟩) l.length c) ys ∧ Upd (fun k => (Value.slice (some ⟨r, 0, none⟩) l.length c).ownBlock = some k) w wr) := ⟨HBE.out hlt2, HIN.out.2⟩
            clear hlt2 HIN HBE HBS HVX
            go_wp2_with fail
            go_quiet (first | (go_at_call 58; exact Calls.quiet_of_same (CL.out _)))
            go_wp2_with fail
            go_roundw
            case rel => exact ⟨k + 1, ys, by omega, .inl (by omega), by go_num, HYL, ⟨HE.out.2.1, HE.out.1, (by exact HE.out.2.2.1), HE.out.2.2.2.drewN _⟩⟩
            case measure => simp [intOf]; omega
          | true =>
            rw [hlt2] at hzz
            have HSW := kept (HBS.out hlt2)
            have HSP := kept ((SortG.swap_perm (z := gz) hpos (by omega)).trans HIN.out.2.1)
            have HSL : Kept ((SortG.swapL gz ys m).length = l.length) := ⟨by rw [SortG.swap_len, hyl]⟩
            have HUP := kept HIN.out.2.2.2
            have HOW := kept HIN.out.2.2.1
            clear hlt2 HIN HBE HBS
            go_wp2_with fail
            go_quiet (first | (go_at_call 58; exact Calls.quiet_of_same (CL.out _)))
            go_upto_region 6 with fail
            have HOQ : Kept (grpE.Own (wr.drewN nq) base 49 (.slice (some ⟨r, 0, none⟩) l.length c) ys) := ⟨(by exact HOW.out)⟩
            have HUQ := kept (HUP.out.drewN nq)
            have c0q : (wr.drewN nq).cell? ⟨r, m, none⟩ = some (.slice vxA vxl.length vxc) := c0
            have c1q : (wr.drewN nq).cell? ⟨r, m - 1, none⟩ = some (.slice vyA vyl.length vyc) := c1
            have f0q : (wr.drewN nq).frozen? ⟨r, m, none⟩ = false := f0
            have f1q : (wr.drewN nq).frozen? ⟨r, m - 1, none⟩ = false := f1
            clear c0 c1 f0 f1 HUP HOW CL
            generalize wr.drewN nq = wq at *
            have hne : ¬ m = m - 1 := by omega
            have hne2 : ¬ m - 1 = m := by omega
            have HFIN : Kept (∀ W : World, W.heap = wq.heap → Upd (fun k => (Value.slice (some ⟨r, 0, none⟩) l.length c).ownBlock = some k) w W → grpE.Own ((W.setCell ⟨r, m, none⟩ (.slice vyA vyl.length vyc)).setCell ⟨r, m - 1, none⟩ (.slice vxA vxl.length vxc)) base 49 (.slice (some ⟨r, 0, none⟩) l.length c) (SortG.swapL gz ys m) ∧ Upd (fun k => (Value.slice (some ⟨r, 0, none⟩) l.length c).ownBlock = some k) w ((W.setCell ⟨r, m, none⟩ (.slice vyA vyl.length vyc)).setCell ⟨r, m - 1, none⟩ (.slice vxA vxl.length vxc))) := ⟨fun W hW hu => by
              have ho : grpE.Own W base 49 (.slice (some ⟨r, 0, none⟩) l.length c) ys := by
                have h0 := HOQ.out
                unfold Elem.Own OwnK World.ownsRow at h0 ⊢
                rw [hW]
                exact h0
              obtain ⟨g1, e1, -, -, -, s1⟩ := grp_spot ho (k := m) (by omega)
              obtain rfl : r = g1 := congrArg Addr.block (Option.some.inj e1)
              obtain ⟨g2, e2, -, -, -, s2⟩ := grp_spot (s1 ⟨vyA, vyl, vyc⟩) (k := m - 1) (by rw [List.length_set]; omega)
              obtain rfl : r = g2 := congrArg Addr.block (Option.some.inj e2)
              rw [HVX.out]
              exact ⟨s2 ⟨vxA, vxl, vxc⟩, (hu.setCell (p := ⟨r, m, none⟩) (.inl rfl) _).setCell (p := ⟨r, m - 1, none⟩) (.inl rfl) _⟩⟩
            clear HVX
            have HF2 := kept (HFIN.out wq.drew rfl HUQ.out.drew)
            clear HFIN HOQ HUQ
            go_region
            all_goals go_wp2_with fail
            all_goals go_roundw
            all_goals first | exact ⟨m - 1, SortG.swapL gz ys m, by omega, by go_num, HSL, ⟨HSW.out, HSP.out, HF2.out.1, HF2.out.2⟩⟩ | (simp [intOf]; omega)
    · have HF : Kept (xs.Perm l ∧ xs.Pairwise leG ∧ grpE.Own wr base 49 (.slice A l.length c) xs ∧ Upd (fun k => (Value.slice A l.length c).ownBlock = some k) w wr) := ⟨hin.out.1, SortG.upTo_pairwise (z := gz) (fun p q h1 h2 => hin.out.2.1 p q h1 (by rw [HXL.out] at h2; omega)), hin.out.2.2⟩
      have hge : ¬ (k : Int) < (l.length : Int) := by omega
      clear hin
      go_wp2_with fail
      go_end0
      exact ⟨rfl, xs, HF.out⟩
set_option maxRecDepth 100000 in
theorem stable_own (base : Nat) (A : Option Addr) (c : Nat) (l : List GrpM) (w : World) (h : grpE.Own w base 49 (.slice A l.length c) l) (hsz : l.length < 20)
    (hg : ∀ W, Upd (fun k => (Value.slice A l.length c).ownBlock = some k) w W → ∀ g ∈ l, Mem.Rd W W.heap.size g.A (WB g.l)) (hn : ∀ g ∈ l, g.l.length ≤ 1000000000) :
    Calls Tryz.prog 89 #[.slice A l.length c, .int .i64 (l.length : Int), .func (.func 58) #[] #[]] w fun e w' => e = .returned (.tuple #[]) ∧ ∃ l', l'.Perm l ∧ l'.Pairwise leG ∧ grpE.Own w' base 49 (.slice A l.length c) l' ∧ Upd (fun k => (Value.slice A l.length c).ownBlock = some k) w w' := by
  have C := kept (insg_own base A c l w h (by omega) hg hn)
  have h1 : ¬ (20 : Int) ≤ (l.length : Int) := by omega
  have h2 : ¬ (20 : Int) < (l.length : Int) := by omega
  clear h hg hn
  generalize hll : l.length = n at *
  clear hll
  go_enter Tryz.func89, Tryz.ntmps89
  go_wp2_with fail
  go_loopw [7, 8] (fun a b wr => a = .int .i64 0 ∧ b = .int .i64 20 ∧ wr = w) (fun _ _ _ => 0)
  case atStart => exact ⟨rfl, rfl, rfl⟩
  case round =>
    obtain ⟨rfl, rfl, rfl⟩ := hrel
    go_wp2_with fail
    refine C.out.mono ?_
    rintro e w1 ⟨rfl, hl⟩
    have HL := kept hl
    clear hl C
    go_wp2_with fail
    go_loopw [6, 7, 8] (fun a b d wr => a = .int .i64 20 ∧ wr = w1) (fun _ _ _ _ => 0)
    case atStart => exact ⟨rfl, rfl⟩
    case round =>
      obtain ⟨rfl, rfl⟩ := hrel
      go_wp2_with fail
      go_end0
      exact ⟨rfl, HL.out⟩
theorem sortg_own (base : Nat) (A : Option Addr) (c : Nat) (l : List GrpM) (w : World) (h : grpE.Own w base 49 (.slice A l.length c) l) (hsz : l.length < 20)
    (hg : ∀ W, Upd (fun k => (Value.slice A l.length c).ownBlock = some k) w W → ∀ g ∈ l, Mem.Rd W W.heap.size g.A (WB g.l)) (hn : ∀ g ∈ l, g.l.length ≤ 1000000000) :
    Calls Tryz.prog 57 #[.slice A l.length c, .func (.func 58) #[] #[]] w fun e w' => e = .returned (.tuple #[]) ∧ ∃ l', l'.Perm l ∧ l'.Pairwise leG ∧ grpE.Own w' base 49 (.slice A l.length c) l' ∧ Upd (fun k => (Value.slice A l.length c).ownBlock = some k) w w' := by
  have C := kept (stable_own base A c l w h hsz hg hn)
  clear h hg hn
  generalize hll : l.length = n at *
  clear hll
  go_enter Tryz.func57, Tryz.ntmps57
  go_wp2_with fail
  refine C.out.mono ?_
  rintro e w1 ⟨rfl, hl⟩
  go_wp2_with fail
  go_end0
  exact ⟨rfl, hl⟩
end Go.Proofs.YtfkfpanhbanljaaGreatDoor.Twin
