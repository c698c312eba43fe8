/- Layer 22 (disk): the law DiskFuse. -/
import Derived.Test.YtenkccfglmkdmaaDiskWorks
import Derived.Test.YtenkccfglmkdmaaParts
namespace Go.Proofs.Ytenkccfglmkdmaa.Disk
open Go.RowKit Go.Proofs.Ytenkccfglmkdmaa.Mem Go.Proofs.Ytenkccfglmkdmaa.Crc

/-- a disk with a fuse behind j writes -/
structure FInv (n room j U : Nat) (d : DS) : Prop where
  hroom : d.room = room
  h0 : d.s0 = 0
  h1 : d.s1 = 0
  hfuse : d.fuse = ((n - j : Nat) : Int)
  hdown : d.down = decide (n < j)
  hused : d.used = U
  hle : U ≤ room
theorem put_at {d : DS} {f : Int} (l : List Nat) : (d.put f (d.b f ++ l) (d.s f)).room = d.room ∧ (d.put f (d.b f ++ l) (d.s f)).s0 = d.s0 ∧ (d.put f (d.b f ++ l) (d.s f)).s1 = d.s1 ∧ (d.put f (d.b f ++ l) (d.s f)).fuse = d.fuse ∧ (d.put f (d.b f ++ l) (d.s f)).down = d.down ∧ (d.put f (d.b f ++ l) (d.s f)).used = d.used + l.length := by
  unfold DS.put DS.b DS.s DS.used
  split <;> simp <;> omega
theorem FInv.burn {n room j U : Nat} {d : DS} (h : FInv n room j U d) : FInv n room (j + 1) U d.burn ∧ (d.burn.down = true ↔ n ≤ j) := by
  obtain ⟨h1, h2, h3, h4, h5, h6, h7⟩ := h
  obtain ⟨b0, s0, b1, s1, r, fu, dn⟩ := d
  dsimp only at *
  unfold DS.burn
  dsimp only
  by_cases hn : n ≤ j
  · have hz : fu = 0 := by omega
    rw [if_pos hz]
    exact ⟨⟨h1, h2, h3, by dsimp only; omega, by rw [eq_comm, decide_eq_true_eq]; omega, h6, h7⟩, by simp [hn]⟩
  · have hz : ¬ fu = 0 := by omega
    have hd : dn = false := by rw [h5]; exact decide_eq_false (by omega)
    subst hd
    rw [if_neg hz]
    simp only [Bool.false_eq_true, if_false]
    exact ⟨⟨h1, h2, h3, by dsimp only; omega, by rw [eq_comm, decide_eq_false_iff_not]; omega, h6, h7⟩, by simp; omega⟩
theorem FInv.app {n room j U : Nat} {d : DS} (h : FInv n room j U d) {f : Int} (hf : isF f = true) (l : List Nat) :
    (n ≤ j → (d.appM f l).2 = 14 ∧ FInv n room (j + 1) U (d.appM f l).1 ∧ (d.appM f l).1.down = true) ∧
    (j < n → room < U + l.length → (d.appM f l).2 = 8 ∧ FInv n room (j + 1) U (d.appM f l).1) ∧
    (j < n → U + l.length ≤ room → (d.appM f l).2 = 0 ∧ FInv n room (j + 1) (U + l.length) (d.appM f l).1) := by
  obtain ⟨hb, hd⟩ := h.burn
  unfold DS.appM
  rw [if_pos hf]
  refine ⟨fun h1 => ?_, fun h1 h2 => ?_, fun h1 h2 => ?_⟩
  · rw [if_pos (hd.2 h1)]
    exact ⟨rfl, hb, hd.2 h1⟩
  · rw [if_neg (fun e => by have := hd.1 e; omega), if_pos (by rw [hb.hroom, hb.hused]; exact h2)]
    exact ⟨rfl, hb⟩
  · rw [if_neg (fun e => by have := hd.1 e; omega), if_neg (by rw [hb.hroom, hb.hused]; omega)]
    obtain ⟨p1, p2, p3, p4, p5, p6⟩ := put_at (d := d.burn) (f := f) l
    exact ⟨rfl, ⟨p1.trans hb.hroom, p2.trans hb.h0, p3.trans hb.h1, p4.trans hb.hfuse, p5.trans hb.hdown, by rw [p6, hb.hused], h2⟩⟩
theorem FInv.start {n room : Nat} (hr : room ≤ 1048576) : FInv n room 0 0 ((newD (room : Int)).fuseM (n : Int)) := by
  have : roomN (room : Int) = room := by unfold roomN; omega
  refine ⟨this, rfl, rfl, ?_, ?_, rfl, Nat.zero_le _⟩
  · show max (n : Int) (-1) = _
    omega
  · show false = _
    rw [eq_comm, decide_eq_false_iff_not]; omega
theorem FInv.crash {n room j U : Nat} {d : DS} (h : FInv n room j U d) : (d.crashM 0 false).down = false ∧ (d.crashM 0 false).used = 0 ∧ ((d.crashM 0 false).syncM 0).2 = 0 := by
  have e0 : crashB d.b0 d.s0 0 false = [] := by rw [h.h0]; rfl
  have e1 : crashB d.b1 d.s1 0 false = [] := by rw [h.h1]; rfl
  refine ⟨rfl, ?_, rfl⟩
  unfold DS.used DS.crashM
  dsimp only
  rw [e0, e1]; rfl
set_option maxRecDepth 100000 in
set_option maxHeartbeats 4000000 in
theorem fuse_law (n : Nat) (X : Option Addr) (c : Nat) (ps : List Part) (room : Nat) (w : World) (hX : RdParts w w.heap.size X ps) (hps : ps.length ≤ 9223372036854775807) (hn : n < 256) (hrm : room < 65536) :
    Calls Try.prog 4 #[.int .u8 (n : Int), .slice X ps.length c, .int .u16 (room : Int)] w fun e w' => e = .returned (.bool true) ∧ Below w.heap.size w w' := by
  have CW := kept (fun W => works_any W)
  by_cases hbig : 60 < ps.length
  · go_enter Try.func4, Try.ntmps4
    go_wp2_with fail
    refine (CW.out _).mono ?_
    rintro e w2 ⟨rfl, hb2⟩
    go_wp2
    go_ret
    exact ⟨rfl, hb2⟩
  have C1 := kept (new_any (room : Int) w)
  have HX := kept hX
  clear hX
  go_enter Try.func4, Try.ntmps4
  go_wp2_with fail
  refine C1.out.mono ?_
  rintro e w1 ⟨rfl, hd, hb⟩
  have HB1 := kept hb
  have C2 := kept (fuse_any _ _ _ (n : Int) w1 hd (by omega))
  clear hd hb
  go_wp2_with fail
  refine C2.out.mono ?_
  rintro e w2 ⟨rfl, hd, hu⟩
  have HB2 := kept (show Below w.heap.size w w2 from HB1.out.trans (hu.below HB1.out.size (fun i _ h => by omega)))
  have HD2 := kept hd
  have HI := kept (FInv.start (n := n) (room := room) (by omega))
  have hgw : w.heap.size < w2.heap.size := hd.under _ rfl
  clear hd hu
  go_wp2
  go_loopw [8, 9] (fun u i wr => ∃ (j U : Nat) (S : Nat → Prop) (d : DS), j ≤ ps.length ∧ U ≤ 65536 ∧ u = .int .i64 (U : Int) ∧ i = .int .i64 (j : Int) ∧ Kept (FInv n room j U d) ∧ Kept (Dsk wr S w.heap.size d) ∧ Kept (∀ k, S k → w.heap.size ≤ k) ∧ Kept (Below w.heap.size w wr)) (fun _ i _ => ps.length - (intOf i).toNat)
  case atStart => exact ⟨0, 0, _, _, Nat.zero_le _, by omega, rfl, rfl, HI, HD2, ⟨fun k hk => by subst hk; exact Nat.le_refl _⟩, HB2⟩
  case round =>
    obtain ⟨j, U, S, d, hj, hU, rfl, rfl, hI, hD, hS, hB⟩ := hrel
    by_cases hlt : j < ps.length
    · obtain ⟨p, hp⟩ : ∃ p, ps[j]? = some p := ⟨_, List.getElem?_eq_getElem hlt⟩
      obtain ⟨b, o, rfl, hbb, hc, hr, hal, hpl⟩ := HX.out.at_ hp
      have hbw : b < w.heap.size := hbb
      have hcr : wr.cell? ⟨b, o + j, none⟩ = some (.slice p.A p.l.length p.c) := (hB.out.cell (p := ⟨b, o + j, none⟩) hbw).trans hc
      by_cases hlen : 1000 < p.l.length
      · clear hr
        go_wp2_with fail
        refine (CW.out _).mono ?_
        rintro e w3 ⟨rfl, hb3⟩
        have HB3 := kept (hB.out.trans (hb3.mono hB.out.size))
        go_wp2
        go_ret
        exact ⟨rfl, HB3.out⟩
      · have hf2 : isF ((j % 2 : Nat) : Int) = true := by rcases Nat.mod_two_eq_zero_or_one j with h | h <;> rw [h] <;> rfl
        have CA := kept (app_any S w.heap.size d ((j % 2 : Nat) : Int) p.A _ p.c p.l wr hD.out (by omega) hal rfl ((hr.below hB.out).more hB.out.size) (fun x hx hne => by
          obtain ⟨b', o', e, h1, _⟩ := hr hne
          rw [hx] at e
          obtain rfl := Option.some.inj e
          show b' ≠ _
          omega) (by omega))
        have hm2 : ((j % 2 : Nat) : Int) = (j : Int) % 2 := by omega
        rw [hm2] at CA hf2
        have HA := kept (hI.out.app hf2 p.l)
        clear hr hal hm2
        generalize d.appM ((j : Int) % 2) p.l = r at *
        obtain ⟨d3, cd⟩ := r
        generalize p.l.length = N at *
        go_wp2_with fail
        refine CA.out.mono ?_
        rintro e w3 ⟨rfl, S3, hd3, hg3⟩
        have HD3 := kept hd3
        have HS3 : Kept (∀ k, S3 k → w.heap.size ≤ k) := ⟨hg3.base hB.out.size hS.out⟩
        have HB3 := kept (hB.out.trans (hg3.below hB.out.size hS.out))
        have hc3 : w3.cell? ⟨b, o + j, none⟩ = some (.slice p.A N p.c) := ((hg3.below hB.out.size hS.out).cell (p := ⟨b, o + j, none⟩) hbw).trans hcr
        clear hd3 hg3 CA
        by_cases hnj : n ≤ j
        · obtain ⟨a1, a2, a3⟩ := HA.out.1 hnj
          subst a1
          have CD := down_any S3 _ d3 w3 HD3.out
          rw [a3] at CD
          have CD := kept CD
          have hUr := a2.hle
          clear HA a3
          have CU := used_any S3 _ d3 w3 HD3.out
          rw [a2.hused] at CU
          have CU := kept CU
          have HFI := kept a2
          clear a2
          go_wp2_with fail
          refine CD.out.mono ?_
          rintro e w4 ⟨rfl, rfl⟩
          go_wp2_with fail
          refine CU.out.mono ?_
          rintro e w4 ⟨rfl, m, rfl⟩
          have HD4 := kept (HD3.out.drewN m)
          have HB4 := kept (HB3.out.trans (below_draw _ w3 m))
          go_wp2
          go_roundw
          case rel => exact ⟨j + 1, U, S3, d3, by omega, by omega, by go_num, by go_num, HFI, HD4, HS3, HB4⟩
          case measure => simp [intOf]; omega
        · by_cases hroom : room < U + N
          · obtain ⟨a1, a2⟩ := HA.out.2.1 (by omega) hroom
            subst a1
            have hUr := a2.hle
            clear HA
            have CU := used_any S3 _ d3 w3 HD3.out
            rw [a2.hused] at CU
            have CU := kept CU
            have HFI := kept a2
            clear a2
            go_wp2_with fail
            refine CU.out.mono ?_
            rintro e w4 ⟨rfl, m, rfl⟩
            have HD4 := kept (HD3.out.drewN m)
            have HB4 := kept (HB3.out.trans (below_draw _ w3 m))
            go_wp2
            go_roundw
            case rel => exact ⟨j + 1, U, S3, d3, by omega, by omega, by go_num, by go_num, HFI, HD4, HS3, HB4⟩
            case measure => simp [intOf]; omega
          · obtain ⟨a1, a2⟩ := HA.out.2.2 (by omega) (by omega)
            subst a1
            have hUr := a2.hle
            clear HA
            have CU := used_any S3 _ d3 w3 HD3.out
            rw [a2.hused] at CU
            have CU := kept CU
            have HFI := kept a2
            clear a2
            go_wp2_with fail
            refine CU.out.mono ?_
            rintro e w4 ⟨rfl, m, rfl⟩
            have HD4 := kept (HD3.out.drewN m)
            have HB4 := kept (HB3.out.trans (below_draw _ w3 m))
            go_wp2
            go_roundw
            case rel => exact ⟨j + 1, U + N, S3, d3, by omega, by omega, by go_num, by go_num, HFI, HD4, HS3, HB4⟩
            case measure => simp [intOf]; omega
    · obtain ⟨k1, k2, k3⟩ := hI.out.crash
      have CC := kept (crash_any S _ d 0 false wr hD.out)
      generalize d.crashM 0 false = d5 at *
      go_wp2_with fail
      refine CC.out.mono ?_
      rintro e w5 ⟨rfl, S5, hd5, hg5⟩
      have HD5 := kept hd5
      have HS5 : Kept (∀ k, S5 k → w.heap.size ≤ k) := ⟨hg5.base hB.out.size hS.out⟩
      have HB5 := kept (hB.out.trans (hg5.below hB.out.size hS.out))
      clear hd5 hg5 CC
      have CD := down_any S5 _ d5 w5 HD5.out
      rw [k1] at CD
      have CD := kept CD
      have CU := used_any S5 _ d5 w5 HD5.out
      rw [k2] at CU
      have CU := kept CU
      have CS := kept (fun m => sync_any S5 _ d5 0 (w5.drewN m) (HD5.out.drewN m) (by decide))
      generalize d5.syncM 0 = r6 at *
      obtain ⟨d6, c6⟩ := r6
      dsimp only at k3
      subst k3
      clear k1 k2
      go_wp2_with fail
      refine CD.out.mono ?_
      rintro e w4 ⟨rfl, rfl⟩
      go_wp2_with fail
      refine CU.out.mono ?_
      rintro e w6 ⟨rfl, m, rfl⟩
      go_wp2_with fail
      refine (CS.out m).mono ?_
      rintro e w7 ⟨rfl, S7, hd7, hg7⟩
      have HB7 := kept ((HB5.out.trans (below_draw _ w5 m)).trans (hg7.below (B := w.heap.size) HB5.out.size HS5.out))
      clear hd7 hg7
      go_wp2_with fail
      refine (CW.out _).mono ?_
      rintro e w8 ⟨rfl, hb8⟩
      have HB8 := kept (HB7.out.trans (hb8.mono HB7.out.size))
      go_wp2
      go_ret
      exact ⟨rfl, HB8.out⟩
end Go.Proofs.Ytenkccfglmkdmaa.Disk
