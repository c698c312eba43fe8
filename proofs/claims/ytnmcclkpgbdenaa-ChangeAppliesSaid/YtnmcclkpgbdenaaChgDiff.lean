/- Layer 50 (change): the program's Diff. (printed by tools/gendf.py) -/
import Derived.Test.YtnmcclkpgbdenaaChgLines
import Derived.BigQuiet
import Derived.IntWalk
import Derived.Deep.RegionHeld3
import Derived.Deep.RegionLaw
namespace Go.Proofs.Ytnmcclkpgbdenaa.Chg
open Go.RowKit Go.Proofs.Ytnmcclkpgbdenaa.Mem Go.Proofs.Ytnmcclkpgbdenaa.Card

def goneP (x : CardM) : PCh := (2, (x.cid, []), (0, ⟨#[]⟩, []))
def newP (y : CardM) : PCh := (1, y.p, (0, ⟨#[]⟩, []))
def diffM : List CardM → List CardM → List PCh
  | a, [] => a.map goneP
  | [], y :: b => newP y :: diffM [] b
  | x :: a, y :: b => if x.cid < y.cid then goneP x :: diffM a (y :: b) else if x.cid = y.cid then linesM x y ++ diffM a b else newP y :: diffM (x :: a) b
termination_by a b => a.length + b.length
theorem diffM_nil (a : List CardM) : diffM a [] = a.map goneP := by unfold diffM; rfl
theorem diffM_new (y : CardM) (b : List CardM) : diffM [] (y :: b) = newP y :: diffM [] b := by rw [diffM]
theorem diffM_lt {x y : CardM} (a b : List CardM) (h : x.cid < y.cid) : diffM (x :: a) (y :: b) = goneP x :: diffM a (y :: b) := by rw [diffM, if_pos h]
theorem diffM_eq {x y : CardM} (a b : List CardM) (h : x.cid = y.cid) : diffM (x :: a) (y :: b) = linesM x y ++ diffM a b := by rw [diffM, if_neg (by omega), if_pos h]
theorem diffM_gt {x y : CardM} (a b : List CardM) (h : y.cid < x.cid) : diffM (x :: a) (y :: b) = newP y :: diffM (x :: a) b := by rw [diffM, if_neg (by omega), if_neg (by omega)]
theorem acc_len (g : Nat → List PCh) (h : ∀ f, (g f).length ≤ 1) : ∀ n, (acc g n).length ≤ n
  | 0 => Nat.le_refl _
  | n + 1 => by
    have h1 := acc_len g h n
    have h2 := h (n + 1)
    rw [acc, List.length_append]
    omega
theorem lines_len (a b : CardM) : (linesM a b).length ≤ 10 := by
  have h0 : ∀ f, (linesA a b f).length ≤ 1 := by
    intro f
    unfold linesA
    split
    · simp
    · split <;> simp
  have h1 := acc_len (linesA a b) h0 5
  have h2 := acc_len (linesB a b) (fun f => by unfold linesB; split <;> simp) 5
  unfold linesM
  rw [List.length_append]
  omega
theorem diff_len : ∀ (n : Nat) (a b : List CardM), a.length + b.length ≤ n → (diffM a b).length ≤ 10 * (a.length + b.length)
  | n, a, [], _ => by rw [diffM_nil]; simp; omega
  | 0, a, y :: b, h => by simp at h
  | n + 1, [], y :: b, h => by
    have := diff_len n [] b (by simp at h ⊢; omega)
    rw [diffM_new]; simp at this ⊢; omega
  | n + 1, x :: a, y :: b, h => by
    rcases Nat.lt_trichotomy x.cid y.cid with h1 | h1 | h1
    · have := diff_len n a (y :: b) (by simp at h ⊢; omega)
      rw [diffM_lt a b h1]; simp at this ⊢; omega
    · have := diff_len n a b (by simp at h ⊢; omega)
      have h2 := lines_len x y
      rw [diffM_eq a b h1]; simp at this ⊢; omega
    · have := diff_len n (x :: a) b (by simp at h ⊢; omega)
      rw [diffM_gt a b h1]; simp at this ⊢; omega
theorem cards_tail {w : World} {B : Nat} {b1 o1 c : Nat} {x : CardM} {xs : List CardM} (h : RdCards w B (some ⟨b1, o1, none⟩) (x :: xs)) (hc : xs.length + 1 ≤ c) : RdCards w B (if c = 1 then some ⟨b1, o1, none⟩ else some ⟨b1, o1 + 2, none⟩) xs := by
  refine ⟨?_, fun q hq => h.2 q (List.mem_cons_of_mem _ hq)⟩
  have h1 : CB (x :: xs) = [.int .u64 (x.cid : Int), .slice x.X x.ls.length x.c] ++ CB xs := rfl
  have := h.1.drop 2 (2 * c) (CB (x :: xs)).length (by rw [CB_length]; simp; omega) (by rw [CB_length]; simp; omega) rfl
  rw [h1] at this
  simp only [List.cons_append, List.nil_append, List.drop_succ_cons, List.drop_zero, Option.map_some, add_plain] at this
  by_cases h2 : c = 1
  · subst h2; exact this
  · rw [if_neg h2]; rw [if_neg (by omega)] at this; exact this
def slLen : Value → Nat
  | .slice _ n _ => n
  | _ => 0
/-- what is told so far, and the cards still to be looked at -/
def DfSt (w W : World) (X : Option Addr) (al : List CardM) (n c1 : Nat) (A : Option Addr) (c : Nat) (cs : List ChM) : Prop :=
  Below w.heap.size w W ∧ ChsOwn W w.heap.size A c cs ∧ RdCards w w.heap.size X al ∧ al.length = n ∧ n ≤ c1 ∧ n ≤ 25
section
variable {w W W' : World} {X : Option Addr} {al : List CardM} {n c1 : Nat} {A A2 : Option Addr} {c c2 : Nat} {cs r2 news : List ChM}
theorem DfSt.next (h : DfSt w W X al n c1 A c cs) (hb : Below W.heap.size W W') : DfSt w W' X al n c1 A c cs := ⟨h.1.trans (hb.mono h.1.size), h.2.1.next hb, h.2.2⟩
theorem DfSt.drew (h : DfSt w W X al n c1 A c cs) : DfSt w W.drew X al n c1 A c cs := ⟨h.1.drew, h.2.1, h.2.2⟩
theorem DfSt.drewN (h : DfSt w W X al n c1 A c cs) (q : Nat) : DfSt w (W.drewN q) X al n c1 A c cs := ⟨below_drewN h.1 q, h.2.1, h.2.2⟩
theorem DfSt.app (h : DfSt w W X al n c1 A c cs) (hn : ∀ x ∈ news, ChM.Own W w.heap.size x) (hr : r2 = cs ++ news) (ho : chE.Own W' w.heap.size 79 (.slice A2 r2.length c2) r2)
    (hu : ∀ S : Nat → Prop, (∀ k, (Value.slice A cs.length c).ownBlock = some k → S k) → Upd S W W') : DfSt w W' X al n c1 A2 c2 r2 := by
  have hu' := hu (fun k => (Value.slice A cs.length c).ownBlock = some k) fun _ h => h
  have hlt : ∀ k, (Value.slice A cs.length c).ownBlock = some k → w.heap.size ≤ k := fun k hk => (OwnK.under h.2.1.1 k hk).1
  exact ⟨h.1.trans (hu'.below h.1.size fun i _ e => by have := hlt i e; omega), chs_app h.2.1 hn hr ho hu, h.2.2⟩
theorem DfSt.box (h : DfSt w W X al n c1 A c cs) {g : Nat} {ces : List Value} (hk : Blk W g ces 38) (hu : ∀ S : Nat → Prop, (∀ k, (Value.slice A cs.length c).ownBlock = some k → S k) → Upd S W W') : Blk W' g ces 38 := by
  have hu' := hu (fun k => (Value.slice A cs.length c).ownBlock = some k) fun _ h => h
  refine hk.upd hu' fun e => ?_
  rcases OwnK.apartB h.2.1.1 hk (by decide) with h1 | h1
  · rw [h1] at e; cases e
  · exact h1 e
theorem DfSt.tail {b1 o1 m : Nat} {x : CardM} (h : DfSt w W (some ⟨b1, o1, none⟩) (x :: al) (m + 1) c1 A c cs) : DfSt w W (if c1 = 1 then some ⟨b1, o1, none⟩ else some ⟨b1, o1 + 2, none⟩) al m (c1 - 1) A c cs := by
  obtain ⟨h1, h2, h3, h4, h5, h6⟩ := h
  have h7 : al.length = m := by simpa using h4
  exact ⟨h1, h2, cards_tail h3 (by omega), h7, by omega, by omega⟩
end
set_option maxRecDepth 100000 in
set_option maxHeartbeats 4000000 in
theorem diff_any (X Y : Option Addr) (al bl : List CardM) (ca cb : Nat) (w : World) (ha : RdCards w w.heap.size X al) (hb : RdCards w w.heap.size Y bl) (hla : al.length ≤ 25) (hlb : bl.length ≤ 25) (hca : al.length ≤ ca) :
    Calls Try.prog 13 #[.slice X al.length ca, .slice Y bl.length cb] w (GivesCh w (if goodL al && goodL bl then diffM al bl else [])) := by
  have HGA := kept (good_any X al ca w ha (by omega))
  have HGB := kept (fun (W : World) (hB : Below w.heap.size w W) => good_any Y bl cb W (hb.next hB) (by omega))
  have HB := kept hb
  have HA := kept ha
  have HLD : Kept ((diffM al bl).length ≤ 500) := ⟨by have := diff_len _ al bl (Nat.le_refl _); omega⟩
  clear ha hb
  generalize hga : goodL al = ga at *
  generalize hgb : goodL bl = gb at *
  clear hga hgb
  cases ga with
  | false =>
    rw [show (if (false && gb) = true then diffM al bl else []) = [] from rfl]
    go_enter Try.func13, Try.ntmps13
    go_wp2_with fail
    refine HGA.out.mono ?_
    rintro e w1 ⟨rfl, hb1⟩
    go_wp2_with fail
    go_ret
    exact ⟨none, 0, [], rfl, rfl, ChsOwn.nil _ _, hb1⟩
  | true =>
    cases gb with
    | false =>
      rw [show (if (true && false) = true then diffM al bl else []) = [] from rfl]
      go_enter Try.func13, Try.ntmps13
      go_wp2_with fail
      refine HGA.out.mono ?_
      rintro e w1 ⟨rfl, hb1⟩
      go_wp2_with fail
      refine (HGB.out _ hb1).mono ?_
      rintro e w2 ⟨rfl, hb2⟩
      go_wp2_with fail
      go_ret
      exact ⟨none, 0, [], rfl, rfl, ChsOwn.nil _ _, hb1.trans (hb2.mono hb1.size)⟩
    | true =>
      rw [show (if (true && true) = true then diffM al bl else []) = diffM al bl from rfl]
      go_enter Try.func13, Try.ntmps13
      go_wp2_with fail
      refine HGA.out.mono ?_
      rintro e w1 ⟨rfl, hb1⟩
      go_wp2_with fail
      refine (HGB.out _ hb1).mono ?_
      rintro e w2 ⟨rfl, hb2⟩
      have HB0 := kept (hb1.trans (hb2.mono hb1.size))
      obtain ⟨D, hD⟩ : ∃ D, diffM al bl = D := ⟨_, rfl⟩
      have HD := kept hD
      have HDF := kept hD
      rw [hD] at HLD
      clear hb1 hb2 HGA HGB
      clear hD
      go_wp2_with fail
      go_loopw [0, 5, 20] (fun s0 s5 s20 wr => ∃ (j n c1 c : Nat) (X1 A : Option Addr) (al1 : List CardM) (cs : List ChM), j ≤ bl.length ∧ s0 = .slice X1 n c1 ∧ s5 = .slice A cs.length c ∧ s20 = .int .i64 (j : Int) ∧ Kept (cs.map ChM.p ++ diffM al1 (bl.drop j) = D ∧ DfSt w wr X1 al1 n c1 A c cs)) (fun _ _ i _ => bl.length - (intOf i).toNat)
      case atStart => exact ⟨0, al.length, ca, 0, X, none, al, [], Nat.zero_le _, rfl, rfl, rfl, ⟨by rw [List.drop_zero]; exact HD.out, HB0.out, ChsOwn.nil _ _, HA.out, rfl, hca, hla⟩⟩
      case round =>
        obtain ⟨j, n, c1, c, X1, A, al1, cs, hj, rfl, rfl, rfl, hin⟩ := hrel
        clear HA HD HB0
        by_cases hlt : j < bl.length
        · obtain ⟨y, hy⟩ : ∃ y, bl[j]? = some y := ⟨_, List.getElem?_eq_getElem hlt⟩
          obtain ⟨b, o, rfl, hbb, k0, k1, hyo⟩ := (HB.out.below hin.out.2.1).at_ hy
          have hdr : Kept (bl.drop j = y :: bl.drop (j + 1)) := ⟨by
            obtain ⟨h1, h2⟩ := List.getElem?_eq_some_iff.1 hy
            rw [List.drop_eq_getElem_cons h1, h2]⟩
          have hyo' : y.Ok w w.heap.size := HB.out.2 y (List.mem_of_getElem? hy)
          have hjn : (j : Int) < (bl.length : Int) := by omega
          have CY := kept (fun (W : World) (hB : Below w.heap.size w W) => copy_any y W (hyo'.next hB))
          have CL := kept (fun (x : CardM) (hx : x.Ok w w.heap.size) (W : World) (hB : Below w.heap.size w W) => lines_any x y W (hx.next hB) (hyo'.next hB))
          have hin' := hin.out.2
          have hnb : Below wr.heap.size wr (wr.alloc (.cells #[.int .u64 (y.cid : Int), .slice y.X y.ls.length y.c] 38)) := (Below.refl _ _).alloc (Nat.le_refl _) _
          have HS := kept (hin'.next hnb)
          have HKS := kept (Blk.new wr [.int .u64 (y.cid : Int), .slice y.X y.ls.length y.c] 38)
          have HDS := kept hin.out.1
          obtain ⟨ycid, yX, yls, yc⟩ := y
          unfold CardM.val at CY CL
          dsimp only at k0 k1 CY CL HS HKS
          clear hy hyo hyo' hin hin' hnb
          go_wp2_with fail
          obtain ⟨g, hg⟩ : ∃ g, wr.heap.size = g := ⟨_, rfl⟩
          rw [hg] at HKS ⊢
          clear hg
          clear k0 k1 hbb
          go_loopw [0, 5] (fun s0 s5 wq => ∃ (n c1 c : Nat) (X1 A : Option Addr) (al1 : List CardM) (cs : List ChM), s0 = .slice X1 n c1 ∧ s5 = .slice A cs.length c ∧ Kept (cs.map ChM.p ++ diffM al1 (⟨ycid, yX, yls, yc⟩ :: bl.drop (j + 1)) = D ∧ DfSt w wq X1 al1 n c1 A c cs ∧ Blk wq g [.int .u64 (ycid : Int), .slice yX yls.length yc] 38)) (fun s0 _ _ => slLen s0)
          case atStart => exact ⟨n, c1, c, X1, A, al1, cs, rfl, rfl, ⟨by rw [← hdr.out]; exact HDS.out, HS.out, HKS.out⟩⟩
          case round =>
            clear HS HKS HDS hdr
            obtain ⟨n, c1, c, X1, A, al1, cs, rfl, rfl, hin⟩ := hrel
            have HI := kept hin.out.2.1
            have HKI := kept hin.out.2.2
            have HDI := kept hin.out.1
            have hcl : cs.length ≤ 500 := by
              have h1 := congrArg List.length HDI.out
              rw [List.length_append, List.length_map] at h1
              have h2 := HLD.out
              omega
            have y0' := HKI.out.cell (j := 0) rfl
            clear hin
            cases al1 with
            | nil =>
              obtain rfl : n = 0 := HI.out.2.2.2.1.symm
              have HDD : Kept (cs.map ChM.p ++ newP ⟨ycid, yX, yls, yc⟩ :: diffM [] (bl.drop (j + 1)) = D) := ⟨by rw [← HDI.out, diffM_new]⟩
              clear HDI
              go_wp2_with fail
              go_quiet (fail)
              have HW := kept (HI.out.drewN nq)
              have HK := kept (HKI.out.drewN nq)
              clear HI HKI
              generalize wr.drewN nq = W2 at *
              have HI := HW
              have HKI := HK
              clear HW HK
              go_wp2_with fail
              go_quiet (fail)
              have HW := kept (HI.out.drewN nq)
              have HK := kept (HKI.out.drewN nq)
              clear HI HKI
              generalize W2.drewN nq = W3 at *
              have CY2 := kept (CY.out _ HW.out.1)
              have y0 := HK.out.cell (j := 0) rfl
              have y1 := HK.out.cell (j := 1) rfl
              go_wp2_with fail
              refine CY2.out.mono ?_
              rintro e w5 ⟨⟨zcid, zX, zls, zc⟩, rfl, hyp, hyf, hb5⟩
              have HW1 := kept (HW.out.next hb5)
              have HK1 := kept (HK.out.next hb5)
              have hyf' := CardM.Fresh.mono hyf HW.out.1.size
              clear hb5 HW HK CY2 y0 y1 hyf
              have HW := HW1
              have HK := HK1
              clear HW1 HK1
              unfold CardM.val
              dsimp only
              have hbB : Below w5.heap.size w5 (w5.alloc (.cells #[.int .u8 1, .int .u64 (zcid : Int), .slice zX zls.length zc, .int .u8 0, .string ⟨#[]⟩, .slice none 0 0] 79)) := (Below.refl _ _).alloc (Nat.le_refl _) _
              have HB4 := kept (HW.out.next hbB)
              have HK4 := kept (HK.out.next hbB)
              have hrn : chE.Rd (w5.alloc (.cells #[.int .u8 1, .int .u64 (zcid : Int), .slice zX zls.length zc, .int .u8 0, .string ⟨#[]⟩, .slice none 0 0] 79)) (w5.heap.size + 1) (some ⟨w5.heap.size, 0, none⟩) [⟨1, ⟨zcid, zX, zls, zc⟩, ⟨0, ⟨#[]⟩, none, [], 0⟩⟩] := Rd.newAt w5 [.int .u8 1, .int .u64 (zcid : Int), .slice zX zls.length zc, .int .u8 0, .string ⟨#[]⟩, .slice none 0 0] 79 (by first | rfl | simp) (Nat.le_refl _)
              have hz : (cs.length + [(⟨1, ⟨zcid, zX, zls, zc⟩, ⟨0, ⟨#[]⟩, none, [], 0⟩⟩ : ChM)].length) * 88 ≤ 140737488355328 := by simp; omega
              have hbase : w.heap.size ≤ (w5.alloc (.cells #[.int .u8 1, .int .u64 (zcid : Int), .slice zX zls.length zc, .int .u8 0, .string ⟨#[]⟩, .slice none 0 0] 79)).heap.size := HB4.out.1.size
              have HNW : Kept (∀ x ∈ [(⟨1, ⟨zcid, zX, zls, zc⟩, ⟨0, ⟨#[]⟩, none, [], 0⟩⟩ : ChM)], ChM.Own (w5.alloc (.cells #[.int .u8 1, .int .u64 (zcid : Int), .slice zX zls.length zc, .int .u8 0, .string ⟨#[]⟩, .slice none 0 0] 79)) w.heap.size x) := ⟨fun x hx => by
                rw [List.mem_singleton.1 hx]
                exact ⟨(show (1 : Nat) < 256 by decide), hyf'.below ((Below.refl _ _).alloc (Nat.le_refl _) _) (Nat.le_refl _), ⟨(show (0 : Nat) < 256 by decide), Nat.zero_le _, Elem.Own.nilv _ _ _ _⟩⟩⟩
              have hoB := HB4.out.2.1.1
              clear hbB
              go_wp2_with (at_builtin; refine wpl_appEU _ chE rfl (.tmp 68) (.tmp 72) 26 rfl w.heap.size 79 Try.underlying26 ch_info rfl _ cs rfl hoB _ _ _ _ [⟨1, ⟨zcid, zX, zls, zc⟩, ⟨0, ⟨#[]⟩, none, [], 0⟩⟩] rfl rfl hrn hz (by decide) hbase ?_; intro A9 c9 w9 r9 hr9 hown9 hu9 hx9)
              have HK9 := kept (HB4.out.box HK4.out hu9)
              have HW9 := kept (HB4.out.app HNW.out hr9.out hown9 hu9)
              have HP9 : Kept (r9.map ChM.p = cs.map ChM.p ++ [(⟨1, ⟨zcid, zX, zls, zc⟩, ⟨0, ⟨#[]⟩, none, [], 0⟩⟩ : ChM).p]) := ⟨by rw [hr9.out, List.map_append]; rfl⟩
              clear hr9 hown9 hu9 hx9 hrn hoB HNW HB4 HK4 HK HW
              have HE : Kept (r9.map ChM.p ++ diffM [] (bl.drop (j + 1)) = D) := ⟨by
                rw [HP9.out, List.append_assoc, ← HDD.out]
                have e : (⟨1, ⟨zcid, zX, zls, zc⟩, ⟨0, ⟨#[]⟩, none, [], 0⟩⟩ : ChM).p = newP ⟨ycid, yX, yls, yc⟩ := by unfold newP; rw [← hyp]; rfl
                rw [e]; rfl⟩
              go_wp2_with fail
              go_roundw
              case rel => exact ⟨j + 1, 0, c1, c9, X1, A9, [], r9, by omega, rfl, rfl, by go_num, ⟨HE.out, HW9.out⟩⟩
              case measure => simp [intOf]; omega
            | cons x al2 =>
              obtain ⟨m, rfl⟩ : ∃ m, n = m + 1 := ⟨al2.length, HI.out.2.2.2.1.symm⟩
              obtain ⟨b1, o1, rfl, hb1, x0, x1, hxo⟩ := RdCards.at_ HI.out.2.2.1 (i := 0) (x := x) rfl
              rw [Nat.zero_mul, Nat.add_zero] at x0 x1
              have hbw := HI.out.1
              have z0 := (hbw.cell (p := ⟨b1, o1, none⟩) hb1).trans x0
              have z1 := (hbw.cell (p := ⟨b1, o1 + 1, none⟩) hb1).trans x1
              have hc1 := HI.out.2.2.2.2.1
              have hm1 : (0 : Int) < (m : Int) + 1 := by omega
              have hm2 : (1 : Int) ≤ (m : Int) + 1 := by omega
              have hm3 : (m : Int) + 1 ≤ (c1 : Int) := by omega
              have hxc := hxo.1
              have CLX := kept (CL.out x hxo)
              obtain ⟨xcid, xX, xls, xc⟩ := x
              obtain ⟨X2, hX2⟩ : ∃ X2, (if c1 = 1 then some (⟨b1, o1, none⟩ : Addr) else some ⟨b1, o1 + 2, none⟩) = X2 := ⟨_, rfl⟩
              have HX2 := kept hX2
              dsimp only at x0 x1 z0 z1 hxc CLX
              clear hbw hxo CL x0 x1
              rcases Nat.lt_trichotomy xcid ycid with hcmp | hcmp | hcmp
              · have hd : decide ((xcid : Int) < (ycid : Int)) = true := decide_eq_true (by omega)
                have HDD : Kept (cs.map ChM.p ++ goneP ⟨xcid, xX, xls, xc⟩ :: diffM al2 (⟨ycid, yX, yls, yc⟩ :: bl.drop (j + 1)) = D) := ⟨by rw [← HDI.out, diffM_lt al2 _ hcmp]⟩
                clear HDI CLX
                have z0q : Kept (∀ q, (wr.drewN q).cell? ⟨b1, o1, none⟩ = some (.int .u64 (xcid : Int))) := ⟨fun _ => z0⟩
                go_wp2_with fail
                go_quiet (fail)
                have HW := kept (HI.out.drewN nq)
                have HK := kept (HKI.out.drewN nq)
                clear HI HKI
                have z9 := z0q.out nq
                generalize wr.drewN nq = W2 at *
                have hbB : Below W2.heap.size W2 (W2.alloc (.cells #[.int .u8 2, .int .u64 (xcid : Int), .slice none 0 0, .int .u8 0, .string ⟨#[]⟩, .slice none 0 0] 79)) := (Below.refl _ _).alloc (Nat.le_refl _) _
                have HB4 := kept (HW.out.next hbB)
                have HK4 := kept (HK.out.next hbB)
                have hrn : chE.Rd (W2.alloc (.cells #[.int .u8 2, .int .u64 (xcid : Int), .slice none 0 0, .int .u8 0, .string ⟨#[]⟩, .slice none 0 0] 79)) (W2.heap.size + 1) (some ⟨W2.heap.size, 0, none⟩) [⟨2, ⟨xcid, none, [], 0⟩, ⟨0, ⟨#[]⟩, none, [], 0⟩⟩] := Rd.newAt W2 [.int .u8 2, .int .u64 (xcid : Int), .slice none 0 0, .int .u8 0, .string ⟨#[]⟩, .slice none 0 0] 79 (by first | rfl | simp) (Nat.le_refl _)
                have hz : (cs.length + [(⟨2, ⟨xcid, none, [], 0⟩, ⟨0, ⟨#[]⟩, none, [], 0⟩⟩ : ChM)].length) * 88 ≤ 140737488355328 := by simp; omega
                have hbase : w.heap.size ≤ (W2.alloc (.cells #[.int .u8 2, .int .u64 (xcid : Int), .slice none 0 0, .int .u8 0, .string ⟨#[]⟩, .slice none 0 0] 79)).heap.size := HB4.out.1.size
                have HNW : Kept (∀ x ∈ [(⟨2, ⟨xcid, none, [], 0⟩, ⟨0, ⟨#[]⟩, none, [], 0⟩⟩ : ChM)], ChM.Own (W2.alloc (.cells #[.int .u8 2, .int .u64 (xcid : Int), .slice none 0 0, .int .u8 0, .string ⟨#[]⟩, .slice none 0 0] 79)) w.heap.size x) := ⟨fun x hx => by
                  rw [List.mem_singleton.1 hx]
                  exact ⟨(show (2 : Nat) < 256 by decide), ⟨hxc, Elem.Own.nilv _ _ _ _, Nat.zero_le _, fun z hz => by cases hz⟩, ⟨(show (0 : Nat) < 256 by decide), Nat.zero_le _, Elem.Own.nilv _ _ _ _⟩⟩⟩
                have hoB := HB4.out.2.1.1
                clear hbB
                go_wp2_with (at_builtin; refine wpl_appEU _ chE rfl (.tmp 36) (.tmp 43) 26 rfl w.heap.size 79 Try.underlying26 ch_info rfl _ cs rfl hoB _ _ _ _ [⟨2, ⟨xcid, none, [], 0⟩, ⟨0, ⟨#[]⟩, none, [], 0⟩⟩] rfl rfl hrn hz (by decide) hbase ?_; intro A9 c9 w9 r9 hr9 hown9 hu9 hx9)
                have HK9 := kept (HB4.out.box HK4.out hu9)
                have HW9 := kept (HB4.out.app HNW.out hr9.out hown9 hu9)
                have HP9 : Kept (r9.map ChM.p = cs.map ChM.p ++ [(⟨2, ⟨xcid, none, [], 0⟩, ⟨0, ⟨#[]⟩, none, [], 0⟩⟩ : ChM).p]) := ⟨by rw [hr9.out, List.map_append]; rfl⟩
                clear hr9 hown9 hu9 hx9 hrn hoB HNW HB4 HK4 HK HW
                have HT := kept HW9.out.tail
                rw [HX2.out] at HT
                have HE : Kept (r9.map ChM.p ++ diffM al2 (⟨ycid, yX, yls, yc⟩ :: bl.drop (j + 1)) = D) := ⟨by rw [HP9.out, List.append_assoc, ← HDD.out]; rfl⟩
                clear HW9 HDD HP9 HX2
                go_wp2_with fail
                go_roundw
                case rel => exact ⟨m, c1 - 1, c9, X2, A9, al2, r9, rfl, rfl, ⟨HE.out, HT.out, HK9.out⟩⟩
                case measure => simp [slLen]
              · subst hcmp
                have hd : decide ((xcid : Int) < (xcid : Int)) = false := decide_eq_false (by omega)
                have hd2 : ((xcid : Int) == (xcid : Int)) = true := beq_self_eq_true _
                have HDD : Kept (cs.map ChM.p ++ (linesM ⟨xcid, xX, xls, xc⟩ ⟨xcid, yX, yls, yc⟩ ++ diffM al2 (bl.drop (j + 1))) = D) := ⟨by rw [← HDI.out, diffM_eq (x := ⟨xcid, xX, xls, xc⟩) (y := ⟨xcid, yX, yls, yc⟩) al2 _ rfl]⟩
                clear HDI CY
                have zq : Kept (∀ q, (wr.drewN q).cell? ⟨b1, o1, none⟩ = some (.int .u64 (xcid : Int)) ∧ (wr.drewN q).cell? ⟨b1, o1 + 1, none⟩ = some (.slice xX xls.length xc)) := ⟨fun _ => ⟨z0, z1⟩⟩
                go_wp2_with fail
                go_quiet (fail)
                have HW := kept (HI.out.drewN nq)
                have HK := kept (HKI.out.drewN nq)
                clear HI HKI
                have z9 := (zq.out nq).1
                have z8 := (zq.out nq).2
                have y9 : (wr.drewN nq).cell? ⟨g, 0, none⟩ = _ := y0'
                generalize wr.drewN nq = W2 at *
                have HI := HW
                have HKI := HK
                clear HW HK z0 z1 zq
                have zq : Kept (∀ q, (W2.drewN q).cell? ⟨b1, o1, none⟩ = some (.int .u64 (xcid : Int)) ∧ (W2.drewN q).cell? ⟨b1, o1 + 1, none⟩ = some (.slice xX xls.length xc)) := ⟨fun _ => ⟨z9, z8⟩⟩
                go_wp2_with fail
                go_quiet (fail)
                have HW := kept (HI.out.drewN nq)
                have HK := kept (HKI.out.drewN nq)
                clear HI HKI
                have v0 := (zq.out nq).1
                have v1 := (zq.out nq).2
                generalize W2.drewN nq = W3 at *
                have u0 := HK.out.cell (j := 0) rfl
                have u1 := HK.out.cell (j := 1) rfl
                have CL3 := kept (CLX.out W3.drew HW.out.1.drew)
                have HW3 := kept HW.out.drew
                have HLL := kept (lines_len ⟨xcid, xX, xls, xc⟩ ⟨xcid, yX, yls, yc⟩)
                clear z8 z9 y9 y0' zq HW HK CLX
                go_wp2_with fail
                go_region_law (first
                  | (go_simp; go_at_call 42; refine CL3.out.mono ?_; rintro e w5 ⟨A5, c5, cs5, rfl, hps5, hown5, hb5⟩; have HW5 := kept (HW3.out.next hb5); have HNW : Kept (∀ x ∈ cs5, ChM.Own w5 w.heap.size x) := ⟨fun x hx => (hown5.2 x hx).mono HW3.out.1.size⟩; have hrn := hown5.1.rd; have hl5 : cs5.length ≤ 10 := (by have h1 := congrArg List.length hps5; rw [List.length_map] at h1; have h2 := HLL.out; omega); have hz : (cs.length + cs5.length) * 88 ≤ 140737488355328 := (by omega); have hbase : w.heap.size ≤ w5.heap.size := HW5.out.1.size; have hoB := HW5.out.2.1.1; have HPS := kept hps5; clear hps5 hown5 hb5)
                  | (refine step_appEU _ chE (by rfl) (.tmp 59) (.tmp 64) 26 (by rfl) w.heap.size 79 Try.underlying26 ch_info (by rfl) _ cs (by rfl) hoB _ _ _ _ cs5 (by rfl) rfl hrn hz (by decide) hbase ?_; intro A9 c9 w9 r9 hr9 hown9 hu9 hx9; have HW9 := kept (HW5.out.app HNW.out hr9.out hown9 hu9); have HP9 : Kept (r9.map ChM.p = cs.map ChM.p ++ cs5.map ChM.p) := ⟨by rw [hr9.out, List.map_append]⟩; clear hr9 hown9 hu9 hx9 hrn hoB HNW HW5))
                all_goals
                  have HT := kept HW9.out.tail
                  rw [HX2.out] at HT
                  have HE : Kept (r9.map ChM.p ++ diffM al2 (bl.drop (j + 1)) = D) := ⟨by rw [HP9.out, HPS.out, List.append_assoc]; exact HDD.out⟩
                  clear HW9 HDD HP9 HX2 HPS
                  go_wp2_with fail
                  go_roundw
                  case rel => exact ⟨j + 1, m, c1 - 1, c9, X2, A9, al2, r9, by omega, rfl, rfl, by go_num, ⟨HE.out, HT.out⟩⟩
                  case measure => simp [intOf]; omega
              · have hd : decide ((xcid : Int) < (ycid : Int)) = false := decide_eq_false (by omega)
                have hd2 : ((xcid : Int) == (ycid : Int)) = false := beq_eq_false_iff_ne.2 (by omega)
                have HDD : Kept (cs.map ChM.p ++ newP ⟨ycid, yX, yls, yc⟩ :: diffM (⟨xcid, xX, xls, xc⟩ :: al2) (bl.drop (j + 1)) = D) := ⟨by rw [← HDI.out, diffM_gt al2 _ hcmp]⟩
                clear HDI CLX
                have z0q : Kept (∀ q, (wr.drewN q).cell? ⟨b1, o1, none⟩ = some (.int .u64 (xcid : Int))) := ⟨fun _ => z0⟩
                go_wp2_with fail
                go_quiet (fail)
                have HW := kept (HI.out.drewN nq)
                have HK := kept (HKI.out.drewN nq)
                clear HI HKI
                have z9 := z0q.out nq
                have y9 : (wr.drewN nq).cell? ⟨g, 0, none⟩ = _ := y0'
                generalize wr.drewN nq = W2 at *
                have HI := HW
                have HKI := HK
                clear HW HK z0 z0q
                go_wp2_with fail
                go_quiet (fail)
                have HW := kept (HI.out.drewN nq)
                have HK := kept (HKI.out.drewN nq)
                clear HI HKI
                generalize W2.drewN nq = W3 at *
                have CY2 := kept (CY.out _ HW.out.1)
                have y0 := HK.out.cell (j := 0) rfl
                have y1 := HK.out.cell (j := 1) rfl
                go_wp2_with fail
                refine CY2.out.mono ?_
                rintro e w5 ⟨⟨zcid, zX, zls, zc⟩, rfl, hyp, hyf, hb5⟩
                have HW1 := kept (HW.out.next hb5)
                have HK1 := kept (HK.out.next hb5)
                have hyf' := CardM.Fresh.mono hyf HW.out.1.size
                clear hb5 HW HK CY2 y0 y1 hyf
                have HW := HW1
                have HK := HK1
                clear HW1 HK1
                unfold CardM.val
                dsimp only
                have hbB : Below w5.heap.size w5 (w5.alloc (.cells #[.int .u8 1, .int .u64 (zcid : Int), .slice zX zls.length zc, .int .u8 0, .string ⟨#[]⟩, .slice none 0 0] 79)) := (Below.refl _ _).alloc (Nat.le_refl _) _
                have HB4 := kept (HW.out.next hbB)
                have HK4 := kept (HK.out.next hbB)
                have hrn : chE.Rd (w5.alloc (.cells #[.int .u8 1, .int .u64 (zcid : Int), .slice zX zls.length zc, .int .u8 0, .string ⟨#[]⟩, .slice none 0 0] 79)) (w5.heap.size + 1) (some ⟨w5.heap.size, 0, none⟩) [⟨1, ⟨zcid, zX, zls, zc⟩, ⟨0, ⟨#[]⟩, none, [], 0⟩⟩] := Rd.newAt w5 [.int .u8 1, .int .u64 (zcid : Int), .slice zX zls.length zc, .int .u8 0, .string ⟨#[]⟩, .slice none 0 0] 79 (by first | rfl | simp) (Nat.le_refl _)
                have hz : (cs.length + [(⟨1, ⟨zcid, zX, zls, zc⟩, ⟨0, ⟨#[]⟩, none, [], 0⟩⟩ : ChM)].length) * 88 ≤ 140737488355328 := by simp; omega
                have hbase : w.heap.size ≤ (w5.alloc (.cells #[.int .u8 1, .int .u64 (zcid : Int), .slice zX zls.length zc, .int .u8 0, .string ⟨#[]⟩, .slice none 0 0] 79)).heap.size := HB4.out.1.size
                have HNW : Kept (∀ x ∈ [(⟨1, ⟨zcid, zX, zls, zc⟩, ⟨0, ⟨#[]⟩, none, [], 0⟩⟩ : ChM)], ChM.Own (w5.alloc (.cells #[.int .u8 1, .int .u64 (zcid : Int), .slice zX zls.length zc, .int .u8 0, .string ⟨#[]⟩, .slice none 0 0] 79)) w.heap.size x) := ⟨fun x hx => by
                  rw [List.mem_singleton.1 hx]
                  exact ⟨(show (1 : Nat) < 256 by decide), hyf'.below ((Below.refl _ _).alloc (Nat.le_refl _) _) (Nat.le_refl _), ⟨(show (0 : Nat) < 256 by decide), Nat.zero_le _, Elem.Own.nilv _ _ _ _⟩⟩⟩
                have hoB := HB4.out.2.1.1
                clear hbB
                go_wp2_with (at_builtin; refine wpl_appEU _ chE rfl (.tmp 68) (.tmp 72) 26 rfl w.heap.size 79 Try.underlying26 ch_info rfl _ cs rfl hoB _ _ _ _ [⟨1, ⟨zcid, zX, zls, zc⟩, ⟨0, ⟨#[]⟩, none, [], 0⟩⟩] rfl rfl hrn hz (by decide) hbase ?_; intro A9 c9 w9 r9 hr9 hown9 hu9 hx9)
                have HK9 := kept (HB4.out.box HK4.out hu9)
                have HW9 := kept (HB4.out.app HNW.out hr9.out hown9 hu9)
                have HP9 : Kept (r9.map ChM.p = cs.map ChM.p ++ [(⟨1, ⟨zcid, zX, zls, zc⟩, ⟨0, ⟨#[]⟩, none, [], 0⟩⟩ : ChM).p]) := ⟨by rw [hr9.out, List.map_append]; rfl⟩
                clear hr9 hown9 hu9 hx9 hrn hoB HNW HB4 HK4 HK HW
                have HE : Kept (r9.map ChM.p ++ diffM (⟨xcid, xX, xls, xc⟩ :: al2) (bl.drop (j + 1)) = D) := ⟨by
                  rw [HP9.out, List.append_assoc, ← HDD.out]
                  have e : (⟨1, ⟨zcid, zX, zls, zc⟩, ⟨0, ⟨#[]⟩, none, [], 0⟩⟩ : ChM).p = newP ⟨ycid, yX, yls, yc⟩ := by unfold newP; rw [← hyp]; rfl
                  rw [e]; rfl⟩
                go_wp2_with fail
                go_roundw
                case rel => exact ⟨j + 1, (m + 1), c1, c9, (some ⟨b1, o1, none⟩), A9, (⟨xcid, xX, xls, xc⟩ :: al2), r9, by omega, rfl, rfl, by go_num, ⟨HE.out, HW9.out⟩⟩
                case measure => simp [intOf]; omega
        · obtain rfl : j = bl.length := by omega
          have HIN := kept hin.out.2
          have HDD : Kept (cs.map ChM.p ++ al1.map goneP = D) := ⟨by rw [← hin.out.1, List.drop_length, diffM_nil]⟩
          clear hin
          go_wp2_with fail
          go_loopw [5, 77] (fun s5 i wr => ∃ (k c : Nat) (A : Option Addr) (cs : List ChM), k ≤ n ∧ s5 = .slice A cs.length c ∧ i = .int .i64 (k : Int) ∧ Kept (cs.map ChM.p ++ (al1.drop k).map goneP = D ∧ DfSt w wr X1 al1 n c1 A c cs)) (fun _ i _ => n - (intOf i).toNat)
          case atStart => exact ⟨0, c, A, cs, Nat.zero_le _, rfl, rfl, ⟨by rw [List.drop_zero]; exact HDD.out, HIN.out⟩⟩
          case round =>
            clear HIN HDD
            obtain ⟨k, c, A, cs, hk, rfl, rfl, hin⟩ := hrel
            have HI := kept hin.out.2
            have HDI := kept hin.out.1
            clear hin
            by_cases hlt2 : k < n
            · have hn25 := HI.out.2.2.2.2.2
              obtain ⟨x, hx⟩ : ∃ x, al1[k]? = some x := ⟨_, List.getElem?_eq_getElem (by rw [HI.out.2.2.2.1]; exact hlt2)⟩
              obtain ⟨b1, o1, rfl, hb1, x0, x1, hxo⟩ := RdCards.at_ HI.out.2.2.1 hx
              have hbw := HI.out.1
              have z0 := (hbw.cell (p := ⟨b1, o1 + k * 2, none⟩) hb1).trans x0
              have z1 := (hbw.cell (p := ⟨b1, o1 + k * 2 + 1, none⟩) hb1).trans x1
              have hxc := hxo.1
              have hkn : (k : Int) < (n : Int) := by omega
              have HDD : Kept (cs.map ChM.p ++ goneP x :: (al1.drop (k + 1)).map goneP = D) := ⟨by
                rw [← HDI.out]
                obtain ⟨h1, h2⟩ := List.getElem?_eq_some_iff.1 hx
                rw [List.drop_eq_getElem_cons h1, h2]; rfl⟩
              have hcl : cs.length ≤ 500 := by
                have h1 := congrArg List.length HDI.out
                rw [List.length_append, List.length_map] at h1
                have h2 := HLD.out
                omega
              obtain ⟨xcid, xX, xls, xc⟩ := x
              dsimp only at z0 z1 hxc
              have hnb : Below wr.heap.size wr (wr.alloc (.cells #[.int .u64 (xcid : Int), .slice xX xls.length xc] 38)) := (Below.refl _ _).alloc (Nat.le_refl _) _
              have HW := kept (HI.out.next hnb)
              have HK := kept (Blk.new wr [.int .u64 (xcid : Int), .slice xX xls.length xc] 38)
              have u0 := HK.out.cell (j := 0) rfl
              clear hbw hxo x0 x1 hx HDI hnb HI
              have hbB : Below (wr.alloc (.cells #[.int .u64 (xcid : Int), .slice xX xls.length xc] 38)).heap.size (wr.alloc (.cells #[.int .u64 (xcid : Int), .slice xX xls.length xc] 38)) ((wr.alloc (.cells #[.int .u64 (xcid : Int), .slice xX xls.length xc] 38)).alloc (.cells #[.int .u8 2, .int .u64 (xcid : Int), .slice none 0 0, .int .u8 0, .string ⟨#[]⟩, .slice none 0 0] 79)) := (Below.refl _ _).alloc (Nat.le_refl _) _
              have HB4 := kept (HW.out.next hbB)
              have HK4 := kept (HK.out.next hbB)
              have hrn : chE.Rd ((wr.alloc (.cells #[.int .u64 (xcid : Int), .slice xX xls.length xc] 38)).alloc (.cells #[.int .u8 2, .int .u64 (xcid : Int), .slice none 0 0, .int .u8 0, .string ⟨#[]⟩, .slice none 0 0] 79)) (wr.heap.size + 1 + 1) (some ⟨wr.heap.size + 1, 0, none⟩) [⟨2, ⟨xcid, none, [], 0⟩, ⟨0, ⟨#[]⟩, none, [], 0⟩⟩] := Rd.newAt (wr.alloc (.cells #[.int .u64 (xcid : Int), .slice xX xls.length xc] 38)) [.int .u8 2, .int .u64 (xcid : Int), .slice none 0 0, .int .u8 0, .string ⟨#[]⟩, .slice none 0 0] 79 (by first | rfl | simp) (Nat.le_refl _)
              have hz : (cs.length + [(⟨2, ⟨xcid, none, [], 0⟩, ⟨0, ⟨#[]⟩, none, [], 0⟩⟩ : ChM)].length) * 88 ≤ 140737488355328 := by simp; omega
              have hbase : w.heap.size ≤ ((wr.alloc (.cells #[.int .u64 (xcid : Int), .slice xX xls.length xc] 38)).alloc (.cells #[.int .u8 2, .int .u64 (xcid : Int), .slice none 0 0, .int .u8 0, .string ⟨#[]⟩, .slice none 0 0] 79)).heap.size := HB4.out.1.size
              have HNW : Kept (∀ x ∈ [(⟨2, ⟨xcid, none, [], 0⟩, ⟨0, ⟨#[]⟩, none, [], 0⟩⟩ : ChM)], ChM.Own ((wr.alloc (.cells #[.int .u64 (xcid : Int), .slice xX xls.length xc] 38)).alloc (.cells #[.int .u8 2, .int .u64 (xcid : Int), .slice none 0 0, .int .u8 0, .string ⟨#[]⟩, .slice none 0 0] 79)) w.heap.size x) := ⟨fun x hx => by
                rw [List.mem_singleton.1 hx]
                exact ⟨(show (2 : Nat) < 256 by decide), ⟨hxc, Elem.Own.nilv _ _ _ _, Nat.zero_le _, fun z hz => by cases hz⟩, ⟨(show (0 : Nat) < 256 by decide), Nat.zero_le _, Elem.Own.nilv _ _ _ _⟩⟩⟩
              have hoB := HB4.out.2.1.1
              clear hbB
              go_wp2_with (at_builtin; refine wpl_appEU _ chE rfl (.tmp 81) (.tmp 86) 26 rfl w.heap.size 79 Try.underlying26 ch_info rfl _ cs rfl hoB _ _ _ _ [⟨2, ⟨xcid, none, [], 0⟩, ⟨0, ⟨#[]⟩, none, [], 0⟩⟩] rfl rfl hrn hz (by decide) hbase ?_; intro A9 c9 w9 r9 hr9 hown9 hu9 hx9)
              have HK9 := kept (HB4.out.box HK4.out hu9)
              have HW9 := kept (HB4.out.app HNW.out hr9.out hown9 hu9)
              have HP9 : Kept (r9.map ChM.p = cs.map ChM.p ++ [(⟨2, ⟨xcid, none, [], 0⟩, ⟨0, ⟨#[]⟩, none, [], 0⟩⟩ : ChM).p]) := ⟨by rw [hr9.out, List.map_append]; rfl⟩
              clear hr9 hown9 hu9 hx9 hrn hoB HNW HB4 HK4 HK HW
              have HE : Kept (r9.map ChM.p ++ (al1.drop (k + 1)).map goneP = D) := ⟨by rw [HP9.out, List.append_assoc, ← HDD.out]; rfl⟩
              clear HK9 HP9 HDD
              go_wp2_with fail
              go_roundw
              case rel => exact ⟨k + 1, c9, A9, r9, by omega, rfl, by go_num, ⟨HE.out, HW9.out⟩⟩
              case measure => simp [intOf]; omega
            · obtain rfl : k = n := by omega
              have HE : Kept (cs.map ChM.p = D) := ⟨by
                rw [← HDI.out, List.drop_of_length_le (by rw [HI.out.2.2.2.1]; exact Nat.le_refl _)]; simp⟩
              clear HDI
              go_wp2_with fail
              go_ret
              exact ⟨A, c, cs, rfl, HE.out.trans HDF.out.symm, HI.out.2.1, HI.out.1⟩
end Go.Proofs.Ytnmcclkpgbdenaa.Chg
