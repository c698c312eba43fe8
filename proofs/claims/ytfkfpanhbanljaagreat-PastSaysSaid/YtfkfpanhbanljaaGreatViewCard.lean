/- Layer 19 (view): the card of a contact, the program's. -/
import Derived.Test.YtfkfpanhbanljaaGreatViewKeys
import Derived.Test.YtfkfpanhbanljaaGreatViewBox
import Derived.Test.YtfkfpanhbanljaaGreatSetE
import Derived.Test.YtfkfpanhbanljaaGreatHeldCall
import Derived.Sort.KeysCollected
import Derived.Deep.RegionLaw
import Derived.BigQuiet
import Derived.Deep.DeepCutAuto
namespace Go.Proofs.YtfkfpanhbanljaaGreat.View
open Go.RowKit Go.Proofs.YtfkfpanhbanljaaGreat.Mem Go.Proofs.YtfkfpanhbanljaaGreat.Card Go.Proofs.YtfkfpanhbanljaaGreat.Past Go.Proofs.YtfkfpanhbanljaaGreat.Reg

theorem val_infoV : (Tryz.prog.info? 99).map (fun i => (i.zero, i.size, i.bytes)) = some (some (.agg #[.int .u16 0, .int .u64 0, .string ByteArray.empty]), 3, 32) := by kernel_rfl
theorem line_infoV : (Tryz.prog.info? 92).map (fun i => (i.zero, i.size, i.bytes)) = some (some (.agg #[.int .u8 0, .string ByteArray.empty, .slice none 0 0]), 3, 48) := by kernel_rfl
section
variable {w : World} {b n : Nat} {D : DataW Unit}
theorem has_size (hown : w.ownsMap Tryz.prog 5 hdR b n D) {k : Lit} (h : Go.Maps.has D k = true) : Go.Maps.size D ≠ 0 := by
  obtain ⟨es, rfl, -, -⟩ := hown.entries lawU
  rw [Go.Maps.has_eq, List.any_eq_true] at h
  obtain ⟨p, hp, -⟩ := h
  intro e
  have h2 : es.length = 0 := e
  rw [List.eq_nil_of_length_eq_zero h2] at hp
  cases hp
def fOf : Lit → Nat
  | .int _ a => a.toNat
  | _ => 0
theorem size_le (hown : w.ownsMap Tryz.prog 5 hdR b n D) : Go.Maps.size D ≤ 256 := by
  obtain ⟨es, hD, hpw, _⟩ := hown.entries lawU
  obtain ⟨es', hD', hko⟩ := hown.keysOf
  obtain rfl : es = es' := by rw [hD] at hD'; simpa using hD'
  subst hD
  have hk : ∀ p ∈ es, ∃ x : Nat, p.1 = kU x ∧ x < 256 := fun p hp => by
    obtain ⟨v, hv⟩ := hko p hp
    obtain ⟨x, -, h1, h2⟩ := keyOf_u hv
    exact ⟨x, h1, h2⟩
  have hn : (es.map fun p => fOf p.1).Nodup := by
    refine List.pairwise_map.2 (hpw.imp_of_mem fun {p q} hp' hq' hne e => hne ?_)
    obtain ⟨a, ha, -⟩ := hk p hp'
    obtain ⟨b, hb, -⟩ := hk q hq'
    rw [ha, hb] at e ⊢
    have : a = b := by simpa [fOf, kU] using e
    rw [this]
  have h2 := sub_len _ (List.range 256) hn fun x hx => by
    obtain ⟨p, hp, rfl⟩ := List.mem_map.1 hx
    obtain ⟨a, ha, h3⟩ := hk p hp
    rw [ha]
    exact List.mem_range.2 (by simpa [fOf, kU] using h3)
  rw [List.length_map, List.length_range] at h2
  exact h2
end
theorem flds_length (es : List EvM) (cid : Nat) : (fldsV es cid).length ≤ es.length := by
  have h := sub_len _ (es.map EvM.field) ((flds_inc es cid).imp fun {a b} hab => Nat.ne_of_lt hab) fun x hx => by
    obtain ⟨-, h2⟩ := flds_mem.1 hx
    unfold valsV at h2
    obtain ⟨e, he⟩ := List.exists_mem_of_ne_nil _ h2
    obtain ⟨y, hy, -⟩ := List.mem_map.1 he
    obtain ⟨h3, h4⟩ := List.mem_filter.1 hy
    unfold isV at h4
    simp only [Bool.and_eq_true, decide_eq_true_eq] at h4
    exact List.mem_map.2 ⟨y, h3, h4.2.2⟩
  rwa [List.length_map] at h
theorem fresh_updV {w w' : World} {base g : Nat} {y : CardM} (h : y.Fresh w base) (hu : Upd (fun k => k = g) w w') (hg : g < base) : y.Fresh w' g :=
  ⟨h.1, (h.2.1.upd hu fun k hk e => by have := (OwnK.under h.2.1 k hk).1; omega).mono (Nat.le_of_lt hg), h.2.2.1, fun z hz => ⟨(h.2.2.2 z hz).1, (h.2.2.2 z hz).2.1, ((h.2.2.2 z hz).2.2.upd hu fun k hk e => by have := (OwnK.under (h.2.2.2 z hz).2.2 k hk).1; omega).mono (Nat.le_of_lt hg)⟩⟩
/-- between two rounds of the first loop: the result's cell, the map -/
structure VS (w wr : World) (n : Nat) (V : Nat → List ValM) : Prop where
  below : Below w.heap.size w wr
  box : Blk wr w.heap.size [.int .u64 0, .slice none 0 0] 77
  map : MapV wr (w.heap.size + 1) (w.heap.size + 1) n V
theorem VS.start (w : World) : VS w ((w.alloc (.cells #[.int .u64 0, .slice none 0 0] 77)).alloc (.map #[] 0)) 0 (fun _ => []) := by
  have h := MapV.made (w.alloc (.cells #[.int .u64 0, .slice none 0 0] 77))
  rw [World.size_alloc] at h
  exact ⟨((Below.refl _ w).alloc (Nat.le_refl _) _).alloc (by simp) _, (Blk.new w [.int .u64 0, .slice none 0 0] _).alloc _, h⟩
theorem VS.next {w wr w' : World} {n : Nat} {V : Nat → List ValM} (h : VS w wr n V) (hb : Below wr.heap.size wr w') : VS w w' n V :=
  ⟨h.below.trans (hb.mono h.below.size), h.box.next hb, h.map.next hb⟩
theorem VS.more {w w2 w6 : World} {n n' : Nat} {V V' : Nat → List ValM} (h : VS w w2 n V) (hb : Below (w.heap.size + 1) w2 w6) (hm : MapV w6 (w.heap.size + 1) (w.heap.size + 1) n' V') : VS w w6 n' V' :=
  ⟨h.below.trans (hb.mono (Nat.le_succ _)), h.box.below hb (Nat.lt_succ_self _), hm⟩
theorem keys_flds {D : DataW Unit} {w : World} {base b n : Nat} {es : List EvM} {cid : Nat} {H : Nat → Option (Nat × Nat)} (h : MapVs w base b n (valsV es cid) H D) {ss : List Nat} (hk : KeysU D ss) : ∀ x, x ∈ ss ↔ x ∈ fldsV es cid := fun x => by
  rw [hk.2 x, flds_mem]
  constructor
  · rintro ⟨h1, h2⟩
    rw [h.has_ x h1] at h2
    exact ⟨h1, (h.some_ x h1).1 h2⟩
  · rintro ⟨h1, h2⟩
    exact ⟨h1, by rw [h.has_ x h1]; exact (h.some_ x h1).2 h2⟩
/-- a call gives the card of a contact -/
def CardG (w : World) (cid : Nat) (p : List (Nat × ByteArray × List ByteArray)) (e : Ending) (w' : World) : Prop :=
  ∃ (X : Option Addr) (c : Nat) (ms : List LineM), e = .returned (.tuple #[.agg #[.int .u64 (cid : Int), .slice X ms.length c], .bool true]) ∧ ms.map LineM.p = p ∧ CardM.Fresh w' w.heap.size ⟨cid, X, ms, c⟩ ∧ Below w.heap.size w w'
set_option maxRecDepth 100000 in
set_option maxHeartbeats 8000000 in
theorem vcard_any (A : Option Addr) (es : List EvM) (c cid : Nat) (w : World) (hr : evE.Rd w w.heap.size A es) (hn : es.length ≤ 25) (hev : ∀ e ∈ es, e.field < 256) (hc : cid < 18446744073709551616) (hne : fldsV es cid ≠ []) :
    Calls Tryz.prog 46 #[.slice A es.length c, .int .u64 (cid : Int)] w (CardG w cid (linesV es cid)) := by
  have HR := kept hr
  have HEV := kept hev
  have HNE := kept hne
  have HCI := kept hc
  have HVS0 := kept (VS.start w)
  have hmm := @run_makeMap Tryz.prog
  clear hr hev hne hc
  go_enter Tryz.func46, Tryz.ntmps46
  go_upto_region 2 with fail
  generalize ((w.alloc (.cells #[.int .u64 0, .slice none 0 0] 77)).alloc (.map #[] 0)) = wr0 at *
  go_wp2_with fail
  go_loopw [15] (fun i wr => ∃ (k n : Nat), k ≤ es.length ∧ n ≤ k ∧ i = .int .i64 (k : Int) ∧ Kept (VS w wr n (fun f => valsV (es.take k) cid f))) (fun i _ => es.length - (intOf i).toNat)
  case atStart => exact ⟨0, 0, Nat.zero_le _, Nat.le_refl _, rfl, HVS0⟩
  case round =>
    clear HVS0
    obtain ⟨k, n, hk, hnk, rfl, HV⟩ := hrel
    rename World => wr
    by_cases hlt : k < es.length
    · obtain ⟨⟨dev, ne, kind, ecid, field, text, kA, kn, kc⟩, he⟩ : ∃ e, es[k]? = some e := ⟨_, List.getElem?_eq_getElem hlt⟩
      obtain ⟨b1, o1, rfl, hbB, hcs⟩ := (HR.out.next HV.out.below).at_ he
      have c0 : wr.cell? ⟨b1, o1 + k * 7, none⟩ = some (.int .u16 (dev : Int)) := hcs 0 _ rfl
      have c1 : wr.cell? ⟨b1, o1 + k * 7 + 1, none⟩ = some (.int .u64 (ne : Int)) := hcs 1 _ rfl
      have c2 : wr.cell? ⟨b1, o1 + k * 7 + 2, none⟩ = some (.int .u8 (kind : Int)) := hcs 2 _ rfl
      have c3 : wr.cell? ⟨b1, o1 + k * 7 + 3, none⟩ = some (.int .u64 (ecid : Int)) := hcs 3 _ rfl
      have c4 : wr.cell? ⟨b1, o1 + k * 7 + 4, none⟩ = some (.int .u8 (field : Int)) := hcs 4 _ rfl
      have c5 : wr.cell? ⟨b1, o1 + k * 7 + 5, none⟩ = some (.string text) := hcs 5 _ rfl
      have c6 : wr.cell? ⟨b1, o1 + k * 7 + 6, none⟩ = some (.slice kA kn kc) := hcs 6 _ rfl
      have hkn : (k : Int) < (es.length : Int) := by omega
      have HNX := kept (fun f => vals_next he cid f)
      have HFD := kept (HEV.out _ (List.mem_of_getElem? he))
      have hbA : Below wr.heap.size wr (wr.alloc (.cells #[.int .u16 (dev : Int), .int .u64 (ne : Int), .int .u8 (kind : Int), .int .u64 (ecid : Int), .int .u8 (field : Int), .string text, .slice kA kn kc] 38)) := (Below.refl _ _).alloc (Nat.le_refl _) _
      have HV2 := kept (HV.out.next hbA)
      have HGX : Kept (w.heap.size + 1 < wr.heap.size) := ⟨by obtain ⟨_, _, hM⟩ := HV.out.map; exact hM.own.lt⟩
      have HKB := kept (Blk.new wr [.int .u16 (dev : Int), .int .u64 (ne : Int), .int .u8 (kind : Int), .int .u64 (ecid : Int), .int .u8 (field : Int), .string text, .slice kA kn kc] 38)
      clear he hcs hbA HV
      by_cases hkd : kind = 1
      · subst hkd
        by_cases hcd : ecid = cid
        · subst hcd
          go_upto_region 6 with fail
          clear c0 c1 c2 c3 c4 c5 c6
          generalize wr.alloc (.cells #[.int .u16 (dev : Int), .int .u64 (ne : Int), .int .u8 1, .int .u64 (ecid : Int), .int .u8 (field : Int), .string text, .slice kA kn kc] 38) = w2 at *
          generalize wr.heap.size = gx at *
          have hfd : field < 256 := HFD.out
          obtain ⟨H, D, hM⟩ := HV2.out.map
          have hbV : Below w2.heap.size w2 (w2.alloc (.cells #[.int .u16 (dev : Int), .int .u64 (ne : Int), .string text] 99)) := (Below.refl _ _).alloc (Nat.le_refl _) _
          have HC := kept ((hM.next hbV).drew)
          have HVC := kept (HV2.out.next hbV.drew)
          have l1 := hM.drew.look hfd
          have l2 := HC.out.look hfd
          have HKC := kept (HKB.out.next hbV.drew)
          have HRN := kept (show valE.Rd (w2.alloc (.cells #[.int .u16 (dev : Int), .int .u64 (ne : Int), .string text] 99)).drew (w2.heap.size + 1) (some ⟨w2.heap.size, 0, none⟩) [⟨dev, ne, text⟩] from Mem.Rd.new w2 [.int .u16 (dev : Int), .int .u64 (ne : Int), .string text] 99)
          have HZ : Kept (((valsV (es.take k) ecid field).length + [(⟨dev, ne, text⟩ : ValM)].length) * 32 ≤ 140737488355328) := ⟨by
            have h1 := vals_length (es.take k) ecid field
            rw [List.length_take] at h1
            rw [List.length_singleton]
            omega⟩
          have HBS : Kept (w.heap.size + 1 ≤ (w2.alloc (.cells #[.int .u16 (dev : Int), .int .u64 (ne : Int), .string text] 99)).drew.heap.size) := ⟨by have := HVC.out.box.lt; omega⟩
          have HNM : Kept (n < maxLen) := ⟨Nat.lt_of_le_of_lt (Nat.le_trans hnk (Nat.le_trans hk hn)) (by decide)⟩
          have HRW := kept (HC.out.rows field hfd)
          have HHF := kept hfd
          have HGB : Kept (gx ≠ w.heap.size + 1) := ⟨by have := HGX.out; omega⟩
          have HS0 : Kept (w2.drew.cell? ⟨gx, 0, none⟩ = some (.int .u16 (dev : Int)) ∧ w2.drew.cell? ⟨gx, 1, none⟩ = some (.int .u64 (ne : Int)) ∧ w2.drew.cell? ⟨gx, 4, none⟩ = some (.int .u8 (field : Int)) ∧ w2.drew.cell? ⟨gx, 5, none⟩ = some (.string text)) := ⟨⟨HKB.out.cell (j := 0) rfl, HKB.out.cell (j := 1) rfl, HKB.out.cell (j := 4) rfl, HKB.out.cell (j := 5) rfl⟩⟩
          have HS1 : Kept ((w2.alloc (.cells #[.int .u16 (dev : Int), .int .u64 (ne : Int), .string text] 99)).drew.cell? ⟨gx, 0, none⟩ = some (.int .u16 (dev : Int)) ∧ (w2.alloc (.cells #[.int .u16 (dev : Int), .int .u64 (ne : Int), .string text] 99)).drew.cell? ⟨gx, 1, none⟩ = some (.int .u64 (ne : Int)) ∧ (w2.alloc (.cells #[.int .u16 (dev : Int), .int .u64 (ne : Int), .string text] 99)).drew.cell? ⟨gx, 4, none⟩ = some (.int .u8 (field : Int)) ∧ (w2.alloc (.cells #[.int .u16 (dev : Int), .int .u64 (ne : Int), .string text] 99)).drew.cell? ⟨gx, 5, none⟩ = some (.string text)) := ⟨⟨HKC.out.cell (j := 0) rfl, HKC.out.cell (j := 1) rfl, HKC.out.cell (j := 4) rfl, HKC.out.cell (j := 5) rfl⟩⟩
          clear hM hbV HKB HV2 HFD
          refine wp_region_noPanic ?_
          refine wp_region_held_drew (S := fun W => W.cell? ⟨gx, 0, none⟩ = some (.int .u16 (dev : Int)) ∧ W.cell? ⟨gx, 1, none⟩ = some (.int .u64 (ne : Int)) ∧ W.cell? ⟨gx, 4, none⟩ = some (.int .u8 (field : Int)) ∧ W.cell? ⟨gx, 5, none⟩ = some (.string text)) (by kernel_rfl) HS0.out (fun hS0 => ?_)
          refine wpAnyH_take (i := 0) (v := ?_) rfl (by kernel_rfl) (by kernel_rfl) (by kernel_rfl) (fun _ _ _ h => h) (Or.inl ⟨by rfl, ?_⟩) hS0 ?_
          case refine_2 => (intro W hSW; go_simp; try with_reducible rfl)
          try simp only [Act.put, List.setIfInBounds_toArray, List.set_cons_zero, List.set_cons_succ, List.getElem_toArray, List.getElem_cons_zero, List.getElem_cons_succ]
          refine wpAnyH_take (i := 1) (v := ?_) rfl (by kernel_rfl) (by kernel_rfl) (by kernel_rfl) (fun _ _ _ h => h) (Or.inl ⟨by rfl, ?_⟩) hS0 ?_
          case refine_2 => (intro W hSW; go_simp; try with_reducible rfl)
          try simp only [Act.put, List.setIfInBounds_toArray, List.set_cons_zero, List.set_cons_succ, List.getElem_toArray, List.getElem_cons_zero, List.getElem_cons_succ]
          refine wpAnyH_take (i := 2) (v := ?_) rfl (by kernel_rfl) (by kernel_rfl) (by kernel_rfl) (fun _ _ _ h => h) (Or.inl ⟨by rfl, ?_⟩) hS0 ?_
          case refine_2 => (intro W hSW; obtain ⟨z0, z1, z4, z5⟩ := hSW; go_simp; try with_reducible rfl)
          try simp only [Act.put, List.setIfInBounds_toArray, List.set_cons_zero, List.set_cons_succ, List.getElem_toArray, List.getElem_cons_zero, List.getElem_cons_succ]
          refine wpAnyH_take (i := 3) (v := ?_) rfl (by kernel_rfl) (by kernel_rfl) (by kernel_rfl) (fun _ _ _ h => h) (Or.inl ⟨by rfl, ?_⟩) hS0 ?_
          case refine_2 => (intro W hSW; go_simp; try with_reducible rfl)
          try simp only [Act.put, List.setIfInBounds_toArray, List.set_cons_zero, List.set_cons_succ, List.getElem_toArray, List.getElem_cons_zero, List.getElem_cons_succ]
          refine wpAnyH_take (i := 4) (v := ?_) rfl (by kernel_rfl) (by kernel_rfl) (by kernel_rfl) (fun _ _ _ h => h) (Or.inl ⟨by rfl, ?_⟩) hS0 ?_
          case refine_2 => (intro W hSW; go_simp; try with_reducible rfl)
          try simp only [Act.put, List.setIfInBounds_toArray, List.set_cons_zero, List.set_cons_succ, List.getElem_toArray, List.getElem_cons_zero, List.getElem_cons_succ]
          refine wpAnyH_take (i := 5) (v := ?_) rfl (by kernel_rfl) (by kernel_rfl) (by kernel_rfl) (fun _ _ _ h => h) (Or.inl ⟨by rfl, ?_⟩) hS0 ?_
          case refine_2 => (intro W hSW; obtain ⟨z0, z1, z4, z5⟩ := hSW; go_simp; try with_reducible rfl)
          try simp only [Act.put, List.setIfInBounds_toArray, List.set_cons_zero, List.set_cons_succ, List.getElem_toArray, List.getElem_cons_zero, List.getElem_cons_succ]
          refine wpAnyH_take (i := 7) (v := ?_) rfl (by kernel_rfl) (by kernel_rfl) (by kernel_rfl) (fun _ _ _ h => h) (Or.inl ⟨by rfl, ?_⟩) hS0 ?_
          case refine_2 => (intro W hSW; go_simp; try with_reducible rfl)
          try simp only [Act.put, List.setIfInBounds_toArray, List.set_cons_zero, List.set_cons_succ, List.getElem_toArray, List.getElem_cons_zero, List.getElem_cons_succ]
          refine wpAnyH_take (i := 8) (v := ?_) rfl (by kernel_rfl) (by kernel_rfl) (by kernel_rfl) (fun _ _ _ h => h) (Or.inl ⟨by rfl, ?_⟩) hS0 ?_
          case refine_2 => (intro W hSW; obtain ⟨z0, z1, z4, z5⟩ := hSW; go_simp; try with_reducible rfl)
          try simp only [Act.put, List.setIfInBounds_toArray, List.set_cons_zero, List.set_cons_succ, List.getElem_toArray, List.getElem_cons_zero, List.getElem_cons_succ]
          refine wpAnyH_take (i := 9) (v := ?_) rfl (by kernel_rfl) (by kernel_rfl) (by kernel_rfl) (fun _ _ _ h => h) (Or.inl ⟨by rfl, ?_⟩) hS0 ?_
          case refine_2 => (intro W hSW; go_simp; try with_reducible rfl)
          try simp only [Act.put, List.setIfInBounds_toArray, List.set_cons_zero, List.set_cons_succ, List.getElem_toArray, List.getElem_cons_zero, List.getElem_cons_succ]
          refine wpAnyH_take (i := 10) (v := ?_) rfl (by kernel_rfl) (by kernel_rfl) (by kernel_rfl) (fun _ _ _ h => h) (Or.inl ⟨by rfl, ?_⟩) hS0 ?_
          case refine_2 => (intro W hSW; obtain ⟨z0, z1, z4, z5⟩ := hSW; go_simp; try with_reducible rfl)
          try simp only [Act.put, List.setIfInBounds_toArray, List.set_cons_zero, List.set_cons_succ, List.getElem_toArray, List.getElem_cons_zero, List.getElem_cons_succ]
          refine wpAnyH_take (i := 11) (v := ?_) rfl (by kernel_rfl) (by kernel_rfl) (by kernel_rfl) (fun _ _ _ h => h) (Or.inl ⟨by rfl, ?_⟩) hS0 ?_
          case refine_2 => (intro W hSW; go_simp; try with_reducible rfl)
          try simp only [Act.put, List.setIfInBounds_toArray, List.set_cons_zero, List.set_cons_succ, List.getElem_toArray, List.getElem_cons_zero, List.getElem_cons_succ]
          refine wpAnyH_ready (rs := [6, 12]) (by kernel_rfl) (by simp) ?_
          refine AllReadyH.cons rfl (fun K' hK => ?_) (AllReadyH.cons rfl (fun K' hK => ?_) AllReadyH.nil)
          · go_simp
            try simp only [Act.put, List.setIfInBounds_toArray, List.set_cons_zero, List.set_cons_succ, List.getElem_toArray, List.getElem_cons_zero, List.getElem_cons_succ]
            refine hK.out _ _ (HS0.out) (fun hS0 => ?_)
            refine wpAnyH_ready (rs := [12]) (by kernel_rfl) (by simp) ?_
            refine AllReadyH.cons rfl (fun K' hK => ?_) AllReadyH.nil
            go_simp
            try simp only [Act.put, List.setIfInBounds_toArray, List.set_cons_zero, List.set_cons_succ, List.getElem_toArray, List.getElem_cons_zero, List.getElem_cons_succ]
            refine hK.out _ _ (HS1.out) (fun hS0 => ?_)
            refine wpAnyH_ready (rs := [13]) (by kernel_rfl) (by simp) ?_
            refine AllReadyH.cons rfl (fun K' hK => ?_) AllReadyH.nil
            refine step_appEU _ valE (by rfl) (.tmp 34) (.tmp 40) 97 (by rfl) (w.heap.size + 1) 99 Tryz.underlying97 val_infoV (by rfl) _ (valsV (es.take k) ecid field) (by rfl) HRW.out _ _ _ _ [⟨dev, ne, text⟩] (by rfl) rfl HRN.out HZ.out (by decide) HBS.out ?_
            intro A9 c9 w9 r9 hr9 hown9 hu9 hx9
            have HK9 := kept (HKC.out.upd (hu9 _ fun _ e => e) (fun e => own_off HRW.out HKC.out (by decide) _ e rfl))
            obtain ⟨w6, hrun6, hmv6, hb6, hg6⟩ := HC.out.store HHF.out HNM.out (by rw [hr9.out]; simp) hown9 hu9 hx9 HBS.out
            have HMV := kept hmv6
            have HB6 := kept hb6
            have HK6 : Kept (Blk w6 gx _ _) := ⟨(hg6.block gx HK9.out.lt (fun e => HGB.out (Option.some.inj e))).trans HK9.out⟩
            clear hown9 hu9 hx9 hmv6 hb6 hg6
            try simp only [Act.put, List.setIfInBounds_toArray, List.set_cons_zero, List.set_cons_succ, List.getElem_toArray, List.getElem_cons_zero, List.getElem_cons_succ]
            refine hK.out _ _ (⟨HK9.out.cell (j := 0) rfl, HK9.out.cell (j := 1) rfl, HK9.out.cell (j := 4) rfl, HK9.out.cell (j := 5) rfl⟩) (fun hS0 => ?_)
            refine wpAnyH_ready (rs := [14]) (by kernel_rfl) (by simp) ?_
            refine AllReadyH.cons rfl (fun K' hK => ?_) AllReadyH.nil
            go_simp
            try simp only [Act.put, List.setIfInBounds_toArray, List.set_cons_zero, List.set_cons_succ, List.getElem_toArray, List.getElem_cons_zero, List.getElem_cons_succ]
            refine hK.out _ _ (⟨HK6.out.cell (j := 0) rfl, HK6.out.cell (j := 1) rfl, HK6.out.cell (j := 4) rfl, HK6.out.cell (j := 5) rfl⟩) (fun hS0 => ?_)
            refine wpAnyH_done (by kernel_rfl) (NoPanic.normal ?_) _
            have HVN : Kept (VS w w6 (n + 1) (fun f => valsV (es.take (k + 1)) ecid f)) := ⟨by
              have e : (fun g => if g = field then r9 else valsV (es.take k) ecid g) = fun f => valsV (es.take (k + 1)) ecid f := funext fun g => by
                rw [HNX.out g]
                by_cases hg : g = field
                · subst hg
                  rw [if_pos rfl, hr9.out]
                  have : isV ecid g ⟨dev, ne, 1, ecid, g, text, kA, kn, kc⟩ = true := by simp [isV]
                  rw [this, if_pos rfl]
                  rfl
                · rw [if_neg hg]
                  have : isV ecid g ⟨dev, ne, 1, ecid, field, text, kA, kn, kc⟩ = false := by simp [isV]; exact fun h => hg h.symm
                  rw [this, if_neg Bool.false_ne_true, List.append_nil]
              have hm := HMV.out
              rw [e] at hm
              exact HVC.out.more HB6.out hm⟩
            clear HMV HB6 hr9 HC HVC HKC HK9 HK6 l1 l2 HRN HZ HBS HNM HRW HNX HS0 HS1 hrun6
            go_wp2_with fail
            go_roundw
            case rel => exact ⟨k + 1, n + 1, by omega, by omega, by go_num, HVN⟩
            case measure => simp [intOf]; omega
          · go_simp
            try simp only [Act.put, List.setIfInBounds_toArray, List.set_cons_zero, List.set_cons_succ, List.getElem_toArray, List.getElem_cons_zero, List.getElem_cons_succ]
            refine hK.out _ _ (HS1.out) (fun hS0 => ?_)
            refine wpAnyH_ready (rs := [6]) (by kernel_rfl) (by simp) ?_
            refine AllReadyH.cons rfl (fun K' hK => ?_) AllReadyH.nil
            go_simp
            try simp only [Act.put, List.setIfInBounds_toArray, List.set_cons_zero, List.set_cons_succ, List.getElem_toArray, List.getElem_cons_zero, List.getElem_cons_succ]
            refine hK.out _ _ (HS1.out) (fun hS0 => ?_)
            refine wpAnyH_ready (rs := [13]) (by kernel_rfl) (by simp) ?_
            refine AllReadyH.cons rfl (fun K' hK => ?_) AllReadyH.nil
            refine step_appEU _ valE (by rfl) (.tmp 34) (.tmp 40) 97 (by rfl) (w.heap.size + 1) 99 Tryz.underlying97 val_infoV (by rfl) _ (valsV (es.take k) ecid field) (by rfl) HRW.out _ _ _ _ [⟨dev, ne, text⟩] (by rfl) rfl HRN.out HZ.out (by decide) HBS.out ?_
            intro A9 c9 w9 r9 hr9 hown9 hu9 hx9
            have HK9 := kept (HKC.out.upd (hu9 _ fun _ e => e) (fun e => own_off HRW.out HKC.out (by decide) _ e rfl))
            obtain ⟨w6, hrun6, hmv6, hb6, hg6⟩ := HC.out.store HHF.out HNM.out (by rw [hr9.out]; simp) hown9 hu9 hx9 HBS.out
            have HMV := kept hmv6
            have HB6 := kept hb6
            have HK6 : Kept (Blk w6 gx _ _) := ⟨(hg6.block gx HK9.out.lt (fun e => HGB.out (Option.some.inj e))).trans HK9.out⟩
            clear hown9 hu9 hx9 hmv6 hb6 hg6
            try simp only [Act.put, List.setIfInBounds_toArray, List.set_cons_zero, List.set_cons_succ, List.getElem_toArray, List.getElem_cons_zero, List.getElem_cons_succ]
            refine hK.out _ _ (⟨HK9.out.cell (j := 0) rfl, HK9.out.cell (j := 1) rfl, HK9.out.cell (j := 4) rfl, HK9.out.cell (j := 5) rfl⟩) (fun hS0 => ?_)
            refine wpAnyH_ready (rs := [14]) (by kernel_rfl) (by simp) ?_
            refine AllReadyH.cons rfl (fun K' hK => ?_) AllReadyH.nil
            go_simp
            try simp only [Act.put, List.setIfInBounds_toArray, List.set_cons_zero, List.set_cons_succ, List.getElem_toArray, List.getElem_cons_zero, List.getElem_cons_succ]
            refine hK.out _ _ (⟨HK6.out.cell (j := 0) rfl, HK6.out.cell (j := 1) rfl, HK6.out.cell (j := 4) rfl, HK6.out.cell (j := 5) rfl⟩) (fun hS0 => ?_)
            refine wpAnyH_done (by kernel_rfl) (NoPanic.normal ?_) _
            have HVN : Kept (VS w w6 (n + 1) (fun f => valsV (es.take (k + 1)) ecid f)) := ⟨by
              have e : (fun g => if g = field then r9 else valsV (es.take k) ecid g) = fun f => valsV (es.take (k + 1)) ecid f := funext fun g => by
                rw [HNX.out g]
                by_cases hg : g = field
                · subst hg
                  rw [if_pos rfl, hr9.out]
                  have : isV ecid g ⟨dev, ne, 1, ecid, g, text, kA, kn, kc⟩ = true := by simp [isV]
                  rw [this, if_pos rfl]
                  rfl
                · rw [if_neg hg]
                  have : isV ecid g ⟨dev, ne, 1, ecid, field, text, kA, kn, kc⟩ = false := by simp [isV]; exact fun h => hg h.symm
                  rw [this, if_neg Bool.false_ne_true, List.append_nil]
              have hm := HMV.out
              rw [e] at hm
              exact HVC.out.more HB6.out hm⟩
            clear HMV HB6 hr9 HC HVC HKC HK9 HK6 l1 l2 HRN HZ HBS HNM HRW HNX HS0 HS1 hrun6
            go_wp2_with fail
            go_roundw
            case rel => exact ⟨k + 1, n + 1, by omega, by omega, by go_num, HVN⟩
            case measure => simp [intOf]; omega
        · have hcb : ((ecid : Int) == (cid : Int)) = false := by simp; omega
          have HVN : Kept (VS w (wr.alloc (.cells #[.int .u16 (dev : Int), .int .u64 (ne : Int), .int .u8 1, .int .u64 (ecid : Int), .int .u8 (field : Int), .string text, .slice kA kn kc] 38)) n (fun f => valsV (es.take (k + 1)) cid f)) := ⟨by
            have e : (fun f => valsV (es.take (k + 1)) cid f) = fun f => valsV (es.take k) cid f := funext fun f => by
              rw [HNX.out f]
              have : isV cid f ⟨dev, ne, 1, ecid, field, text, kA, kn, kc⟩ = false := by simp [isV, hcd]
              rw [this, if_neg Bool.false_ne_true, List.append_nil]
            rw [e]
            exact HV2.out⟩
          clear HV2 HNX HKB
          go_wp2_with fail
          go_roundw
          case rel => exact ⟨k + 1, n, by omega, by omega, by go_num, HVN⟩
          case measure => simp [intOf]; omega
      · have hkb : ((kind : Int) == 1) = false := by simp; omega
        have HVN : Kept (VS w (wr.alloc (.cells #[.int .u16 (dev : Int), .int .u64 (ne : Int), .int .u8 (kind : Int), .int .u64 (ecid : Int), .int .u8 (field : Int), .string text, .slice kA kn kc] 38)) n (fun f => valsV (es.take (k + 1)) cid f)) := ⟨by
          have e : (fun f => valsV (es.take (k + 1)) cid f) = fun f => valsV (es.take k) cid f := funext fun f => by
            rw [HNX.out f]
            have : isV cid f ⟨dev, ne, kind, ecid, field, text, kA, kn, kc⟩ = false := by simp [isV, hkd]
            rw [this, if_neg Bool.false_ne_true, List.append_nil]
          rw [e]
          exact HV2.out⟩
        clear HV2 HNX HKB
        go_wp2_with fail
        go_roundw
        case rel => exact ⟨k + 1, n, by omega, by omega, by go_num, HVN⟩
        case measure => simp [intOf]; omega
    · have hkn : ¬ (k : Int) < (es.length : Int) := by omega
      obtain rfl : k = es.length := by omega
      simp only [List.take_length] at HV
      obtain ⟨H, D, hM⟩ := HV.out.map
      have HM := kept hM
      have hown := hM.own
      have HSZ : Kept (Go.Maps.size D ≤ 256) := ⟨size_le hown⟩
      have HS0 : Kept (Go.Maps.size D ≠ 0) := ⟨by
        obtain ⟨f, hf⟩ := List.exists_mem_of_ne_nil _ HNE.out
        obtain ⟨h1, h2⟩ := flds_mem.1 hf
        exact has_size hown (k := kU f) (by rw [hM.has_ f h1]; exact (hM.some_ f h1).2 h2)⟩
      have hz1 : ((Go.Maps.size D : Nat) : Int) ≠ 0 := by have := HS0.out; omega
      have hz2 : (((Go.Maps.size D : Nat) : Int) == 0) = false := by simpa using HS0.out
      have HVB := kept HV.out.box
      have HVW := kept HV.out.below
      have HL0 := kept (LS.start wr cid)
      clear hM HNE HR HEV
      go_wp2_with (at_len; refine wpList_len_own _ rfl _ 96 rfl 5 97 Tryz.underlying96 hdR (w.heap.size + 1) n D rfl hown ?_)
      go_upto_region 11 with fail
      clear hz1 hz2 HS0
      have hbC : Below wr.heap.size wr (wr.alloc (.cells #[.int .u64 (cid : Int), .slice none 0 0] 77)) := (Below.refl _ _).alloc (Nat.le_refl _) _
      have hown2 := (HM.out.next hbC).own
      generalize wr.alloc (.cells #[.int .u64 (cid : Int), .slice none 0 0] 77) = w2 at *
      have hbD : Below w2.heap.size w2 (w2.alloc (.cells #[.map (some (w.heap.size + 1))] 96)) := (Below.refl _ _).alloc (Nat.le_refl _) _
      have hown3 : (w2.alloc (.cells #[.map (some (w.heap.size + 1))] 96)).ownsMap Tryz.prog 5 hdR (w.heap.size + 1) n D := ((HM.out.next hbC).next hbD).own
      have CK := kept (keysU_any (some (w.heap.size + 1)) w2)
      have HKL : Kept (∀ ss, KeysU D ss → ss.length ≤ 25) := ⟨fun ss hk => by
        have h1 := sub_len ss (fldsV es cid) hk.1 fun x hx => (keys_flds HM.out hk x).1 hx
        exact Nat.le_trans h1 (Nat.le_trans (flds_length es cid) hn)⟩
      have CS := kept (sortedU_any w2.heap.size (w.heap.size + 1) n D _ (by simp) ((Blk.new w2 [.map (some (w.heap.size + 1))] 96).cell (j := 0) rfl) hown3 (Nat.le_trans HSZ.out (by decide)) HKL.out)
      have HL1 := kept (HL0.out.next hbD)
      clear hown hown2 hown3 HKL HSZ HL0 hbC
      go_wp2_with fail
      refine CK.out.mono ?_
      rintro e w3 ⟨rfl, rfl⟩
      clear CK hbD
      generalize w2.alloc (.cells #[.map (some (w.heap.size + 1))] 96) = w3 at *
      go_wp2_with fail
      refine CS.out.mono ?_
      rintro e w4 ⟨A4, c4, ss, rfl, hks, hinc, hown4, hb4⟩
      have HSS : Kept (ss = fldsV es cid) := ⟨incU_ext hinc (flds_inc es cid) (keys_flds HM.out hks)⟩
      have HMF : Kept (∀ x ∈ ss, x < 256 ∧ ∃ g cc, H x = some (g, cc)) := ⟨fun x hx => by
        obtain ⟨h1, h2⟩ := (hks.2 x).1 hx
        refine ⟨h1, ?_⟩
        rw [HM.out.has_ x h1] at h2
        obtain ⟨⟨g, cc⟩, e⟩ := Option.isSome_iff_exists.1 h2
        exact ⟨g, cc, e⟩⟩
      have hss : ss.length ≤ 25 := by rw [HSS.out]; exact Nat.le_trans (flds_length es cid) hn
      have HL2 := kept (HL1.out.next hb4)
      have HKR : Kept (Mem.Own w4 w3.heap.size 5 (.slice A4 ss.length c4) (BB ss) ∧ wr.heap.size < w3.heap.size) := ⟨hown4, HL1.out.box.lt⟩
      clear hks hinc hown4 hb4 CS HL1
      generalize w3.heap.size = bk at *
      go_wp2_with fail
      go_loopw [53] (fun i wi => ∃ (j : Nat) (X : Option Addr) (cX : Nat) (ms : List LineM), j ≤ ss.length ∧ i = .int .i64 (j : Int) ∧ Kept (ms.length = j) ∧ Kept (ms.map LineM.p = (ss.take j).map fun f => showM f (valsV es cid f)) ∧ Kept (LS wr wi cid X cX ms) ∧ Kept (Mem.Own wi bk 5 (.slice A4 ss.length c4) (BB ss) ∧ wr.heap.size < bk)) (fun i _ => ss.length - (intOf i).toNat)
      case atStart => exact ⟨0, none, 0, [], Nat.zero_le _, rfl, ⟨rfl⟩, ⟨rfl⟩, HL2, HKR⟩
      case round =>
        clear HL2 HKR
        obtain ⟨j, X, cX, ms, hj, rfl, HML, HMP, HL, HKR⟩ := hrel
        rename World => wi
        by_cases hjl : j < ss.length
        · obtain ⟨f, hf⟩ : ∃ f, ss[j]? = some f := ⟨_, List.getElem?_eq_getElem hjl⟩
          obtain ⟨bb, oo, rfl, hbb, hcell⟩ := HKR.out.1.rd.at_ (k := j) (u := .int .u8 (f : Int)) (by simp [BB, hf])
          obtain ⟨hf256, g, cc, hH⟩ := HMF.out f (List.mem_of_getElem? hf)
          have hjn : (j : Int) < (ss.length : Int) := by omega
          have HTK : Kept ((ss.take (j + 1)).map (fun f => showM f (valsV es cid f)) = (ss.take j).map (fun f => showM f (valsV es cid f)) ++ [showM f (valsV es cid f)]) := ⟨by
            obtain ⟨e1, e2⟩ := List.getElem?_eq_some_iff.1 hf
            rw [List.take_succ_eq_append_getElem e1, e2, List.map_append]; rfl⟩
          clear hf
          go_upto_region 14 with fail
          clear hcell
          have hMi := HM.out.next HL.out.below
          have hrow := hMi.drew.rows f hf256
          rw [hH] at hrow
          have hvl : (valsV es cid f).length ≤ 25 := Nat.le_trans (vals_length es cid f) hn
          have HLK : Kept (∀ W, Below wr.heap.size wr W → (Instr.lookup 96 (.map (some (w.heap.size + 1))) (.int .u8 (f : Int)) false).run Tryz.prog W = .ok (.slice (some ⟨g, 0, none⟩) (valsV es cid f).length cc) W) := ⟨fun W hb => by
            have := (HM.out.next hb).look hf256
            rw [hH] at this
            exact this⟩
          have CS := kept (vshow_any f (some ⟨g, 0, none⟩) (valsV es cid f) cc wi.drew hf256 hrow.rd (by omega))
          have HLD := kept (HL.out.next (Below.refl wi.heap.size wi).drew)
          have x0 := HLD.out.box.cell (j := 1) rfl
          have HKD : Kept (Mem.Own wi.drew bk 5 (.slice (some ⟨bb, oo, none⟩) ss.length c4) (BB ss)) := ⟨HKR.out.1.next (Below.refl wi.heap.size wi).drew⟩
          have HBK := kept HKR.out.2
          have HZ : Kept (∀ z : LineM, (ms.length + [z].length) * 48 ≤ 140737488355328) := ⟨fun z => by have := HML.out; rw [List.length_singleton]; omega⟩
          generalize showM f (valsV es cid f) = sh at *
          generalize (valsV es cid f).length = vl at *
          clear hMi hrow hH HL hf256 HKR
          have LK0 := kept (HLK.out _ HLD.out.below)
          refine wp_region_noPanic ?_
          refine wp_region_held_drew (S := fun W => (Instr.lookup 96 (.map (some (w.heap.size + 1))) (.int .u8 (f : Int)) false).run Tryz.prog W = .ok (.slice (some ⟨g, 0, none⟩) vl cc) W) (by kernel_rfl) LK0.out (fun hS0 => ?_)
          refine wpAnyH_take (i := 0) (v := ?_) rfl (by kernel_rfl) (by kernel_rfl) (by kernel_rfl) (fun _ _ _ h => h) (Or.inl ⟨by rfl, ?_⟩) hS0 ?_
          case refine_2 => (intro W hSW; go_simp; try with_reducible rfl)
          try simp only [Act.put, List.setIfInBounds_toArray, List.set_cons_zero, List.set_cons_succ, List.getElem_toArray, List.getElem_cons_zero, List.getElem_cons_succ]
          refine wpAnyH_take (i := 2) (v := ?_) rfl (by kernel_rfl) (by kernel_rfl) (by kernel_rfl) (fun _ _ _ h => h) (Or.inl ⟨by rfl, ?_⟩) hS0 ?_
          case refine_2 => (intro W hSW; go_simp; try with_reducible rfl)
          try simp only [Act.put, List.setIfInBounds_toArray, List.set_cons_zero, List.set_cons_succ, List.getElem_toArray, List.getElem_cons_zero, List.getElem_cons_succ]
          refine wpAnyH_take (i := 3) (v := ?_) rfl (by kernel_rfl) (by kernel_rfl) (by kernel_rfl) (fun _ _ _ h => h) (Or.inl ⟨by rfl, ?_⟩) hS0 ?_
          case refine_2 => (intro W hSW; go_simp; try with_reducible rfl)
          try simp only [Act.put, List.setIfInBounds_toArray, List.set_cons_zero, List.set_cons_succ, List.getElem_toArray, List.getElem_cons_zero, List.getElem_cons_succ]
          refine wpAnyH_take (i := 4) (v := ?_) rfl (by kernel_rfl) (by kernel_rfl) (by kernel_rfl) (fun _ _ _ h => h) (Or.inl ⟨by rfl, ?_⟩) hS0 ?_
          case refine_2 => (intro W hSW; go_simp; try with_reducible rfl)
          try simp only [Act.put, List.setIfInBounds_toArray, List.set_cons_zero, List.set_cons_succ, List.getElem_toArray, List.getElem_cons_zero, List.getElem_cons_succ]
          refine wpAnyH_take (i := 5) (v := ?_) rfl (by kernel_rfl) (by kernel_rfl) (by kernel_rfl) (fun _ _ _ h => h) (Or.inl ⟨by rfl, ?_⟩) hS0 ?_
          case refine_2 => (intro W hSW; go_simp; try with_reducible rfl)
          try simp only [Act.put, List.setIfInBounds_toArray, List.set_cons_zero, List.set_cons_succ, List.getElem_toArray, List.getElem_cons_zero, List.getElem_cons_succ]
          refine wpAnyH_ready (rs := [1, 6]) (by kernel_rfl) (by simp) ?_
          refine AllReadyH.cons rfl (fun K' hK => ?_) (AllReadyH.cons rfl (fun K' hK => ?_) AllReadyH.nil)
          · go_simp
            try simp only [Act.put, List.setIfInBounds_toArray, List.set_cons_zero, List.set_cons_succ, List.getElem_toArray, List.getElem_cons_zero, List.getElem_cons_succ]
            refine hK.out _ _ (LK0.out) (fun hS0 => ?_)
            refine wpAnyH_ready (rs := [6]) (by kernel_rfl) (by simp) ?_
            refine AllReadyH.cons rfl (fun K' hK => ?_) AllReadyH.nil
            go_simp
            go_at_call 57
            refine CS.out.mono ?_
            rintro e w5 ⟨⟨yf, yt, yA, ym, yc⟩, rfl, hyp, hy, hb5⟩
            have HY := kept hy
            have HYP := kept hyp
            have HS5 := kept (HLD.out.next hb5)
            have HKE := kept (HKD.out.next hb5)
            clear hy hyp hb5
            have hbE : Below w5.heap.size w5 (w5.alloc (.cells #[.int .u8 (yf : Int), .string yt, .slice yA ym.length yc] 92)) := (Below.refl _ _).alloc (Nat.le_refl _) _
            have HS6 := kept (HS5.out.next hbE)
            have HY6 := kept (HY.out.2.2.next hbE)
            have HKF := kept (HKE.out.next hbE)
            have HRN := kept (show lineE.Rd (w5.alloc (.cells #[.int .u8 (yf : Int), .string yt, .slice yA ym.length yc] 92)) (w5.heap.size + 1) (some ⟨w5.heap.size, 0, none⟩) [⟨yf, yt, yA, ym, yc⟩] from Mem.Rd.new w5 [.int .u8 (yf : Int), .string yt, .slice yA ym.length yc] 92)
            have hzw : wr.heap.size + 1 ≤ (w5.alloc (.cells #[.int .u8 (yf : Int), .string yt, .slice yA ym.length yc] 92)).heap.size := HS6.out.box.lt
            have x1 := HS5.out.box.cell (j := 1) rfl
            have x2 := HS6.out.box.cell (j := 1) rfl
            have HZ3 := HZ.out ⟨yf, yt, yA, ym, yc⟩
            have LK5 := kept (HLK.out _ HS5.out.below)
            have LK6 := kept (HLK.out _ HS6.out.below)
            clear hbE
            try simp only [LineM.val]
            try simp only [Act.put, List.setIfInBounds_toArray, List.set_cons_zero, List.set_cons_succ, List.getElem_toArray, List.getElem_cons_zero, List.getElem_cons_succ]
            refine hK.out _ _ (LK5.out) (fun hS0 => ?_)
            refine wpAnyH_ready (rs := [7]) (by kernel_rfl) (by simp) ?_
            refine AllReadyH.cons rfl (fun K' hK => ?_) AllReadyH.nil
            go_simp
            try simp only [Act.put, List.setIfInBounds_toArray, List.set_cons_zero, List.set_cons_succ, List.getElem_toArray, List.getElem_cons_zero, List.getElem_cons_succ]
            refine hK.out _ _ (LK6.out) (fun hS0 => ?_)
            refine wpAnyH_ready (rs := [8]) (by kernel_rfl) (by simp) ?_
            refine AllReadyH.cons rfl (fun K' hK => ?_) AllReadyH.nil
            refine step_appEU _ lineE (by rfl) (.tmp 58) (.tmp 64) 75 (by rfl) (wr.heap.size + 1) 92 Tryz.underlying75 line_infoV (by rfl) _ ms (by rfl) HS6.out.own _ _ _ _ [⟨yf, yt, yA, ym, yc⟩] (by rfl) rfl HRN.out HZ3 (by decide) hzw ?_
            intro A9 c9 w9 r9 hr9 hown9 hu9 hx9
            have HU9 := kept (hu9 _ fun _ e => e)
            have HO9 := kept hown9
            clear hown9 hu9 hx9
            have x3 := (HS6.out.box5 HU9.out).cell (j := 1) rfl
            have x4 := (HS6.out.box5 HU9.out).frozen 1
            have HKG := kept (HKF.out.upd HU9.out fun k hk e => own_apart HKF.out HS6.out.own (by decide) k hk e)
            have LK9 := kept (HLK.out _ (HS6.out.below.trans (HU9.out.below HS6.out.below.size fun k _ e => Nat.le_of_succ_le (OwnK.under HS6.out.own _ e).1)))
            try simp only [Act.put, List.setIfInBounds_toArray, List.set_cons_zero, List.set_cons_succ, List.getElem_toArray, List.getElem_cons_zero, List.getElem_cons_succ]
            refine hK.out _ _ (LK9.out) (fun hS0 => ?_)
            refine wpAnyH_take (i := 9) (v := ?_) rfl (by kernel_rfl) (by kernel_rfl) (by kernel_rfl) (fun _ _ _ h => h) (Or.inl ⟨by rfl, ?_⟩) hS0 ?_
            case refine_2 => (intro W hSW; go_simp; try with_reducible rfl)
            try simp only [Act.put, List.setIfInBounds_toArray, List.set_cons_zero, List.set_cons_succ, List.getElem_toArray, List.getElem_cons_zero, List.getElem_cons_succ]
            refine wpAnyH_ready (rs := [10]) (by kernel_rfl) (by simp) ?_
            refine AllReadyH.cons rfl (fun K' hK => ?_) AllReadyH.nil
            go_simp
            have hwr1 : wr.heap.size < wr.heap.size + 1 := Nat.lt_succ_self _
            have HLN : Kept (LS wr (w9.setCell ⟨wr.heap.size, 1, none⟩ (.slice A9 r9.length c9)) cid A9 c9 r9) := ⟨HS6.out.app (z := ⟨yf, yt, yA, ym, yc⟩) ⟨HY.out.1, HY.out.2.1, HY6.out.mono (HLD.out.box.lt)⟩ hr9.out HO9.out HU9.out⟩
            have HKH := kept (OwnK.low HKG.out (p := ⟨wr.heap.size, 1, none⟩) HBK.out (.slice A9 r9.length c9))
            try simp only [Act.put, List.setIfInBounds_toArray, List.set_cons_zero, List.set_cons_succ, List.getElem_toArray, List.getElem_cons_zero, List.getElem_cons_succ]
            refine hK.out _ _ (HLK.out _ HLN.out.below) (fun hS0 => ?_)
            refine wpAnyH_done (by kernel_rfl) (NoPanic.normal ?_) _
            have HN1 : Kept (r9.length = j + 1) := ⟨by rw [hr9.out, List.length_append, HML.out]; rfl⟩
            have HN2 : Kept (r9.map LineM.p = (ss.take (j + 1)).map fun f => showM f (valsV es cid f)) := ⟨by rw [hr9.out, List.map_append, HMP.out, HTK.out, ← HYP.out]; rfl⟩
            have HN3 : Kept (Mem.Own (w9.setCell ⟨wr.heap.size, 1, none⟩ (.slice A9 r9.length c9)) bk 5 (.slice (some ⟨bb, oo, none⟩) ss.length c4) (BB ss) ∧ wr.heap.size < bk) := ⟨HKH.out, HBK.out⟩
            clear HY HYP HS5 HKE HS6 HY6 HKF HRN hzw HZ3 LK5 LK6 HU9 HO9 x3 x4 HKG LK9 hwr1 HKH HLD x0 HKD HZ LK0 CS
            go_wp2_with fail
            go_roundw
            case rel => exact ⟨j + 1, A9, c9, r9, by omega, by go_num, HN1, HN2, HLN, HN3⟩
            case measure => simp [intOf]; omega
          · go_simp
            go_at_call 57
            refine CS.out.mono ?_
            rintro e w5 ⟨⟨yf, yt, yA, ym, yc⟩, rfl, hyp, hy, hb5⟩
            have HY := kept hy
            have HYP := kept hyp
            have HS5 := kept (HLD.out.next hb5)
            have HKE := kept (HKD.out.next hb5)
            clear hy hyp hb5
            have hbE : Below w5.heap.size w5 (w5.alloc (.cells #[.int .u8 (yf : Int), .string yt, .slice yA ym.length yc] 92)) := (Below.refl _ _).alloc (Nat.le_refl _) _
            have HS6 := kept (HS5.out.next hbE)
            have HY6 := kept (HY.out.2.2.next hbE)
            have HKF := kept (HKE.out.next hbE)
            have HRN := kept (show lineE.Rd (w5.alloc (.cells #[.int .u8 (yf : Int), .string yt, .slice yA ym.length yc] 92)) (w5.heap.size + 1) (some ⟨w5.heap.size, 0, none⟩) [⟨yf, yt, yA, ym, yc⟩] from Mem.Rd.new w5 [.int .u8 (yf : Int), .string yt, .slice yA ym.length yc] 92)
            have hzw : wr.heap.size + 1 ≤ (w5.alloc (.cells #[.int .u8 (yf : Int), .string yt, .slice yA ym.length yc] 92)).heap.size := HS6.out.box.lt
            have x1 := HS5.out.box.cell (j := 1) rfl
            have x2 := HS6.out.box.cell (j := 1) rfl
            have HZ3 := HZ.out ⟨yf, yt, yA, ym, yc⟩
            have LK5 := kept (HLK.out _ HS5.out.below)
            have LK6 := kept (HLK.out _ HS6.out.below)
            clear hbE
            try simp only [LineM.val]
            try simp only [Act.put, List.setIfInBounds_toArray, List.set_cons_zero, List.set_cons_succ, List.getElem_toArray, List.getElem_cons_zero, List.getElem_cons_succ]
            refine hK.out _ _ (LK5.out) (fun hS0 => ?_)
            refine wpAnyH_ready (rs := [1, 7]) (by kernel_rfl) (by simp) ?_
            refine AllReadyH.cons rfl (fun K' hK => ?_) (AllReadyH.cons rfl (fun K' hK => ?_) AllReadyH.nil)
            · go_simp
              try simp only [Act.put, List.setIfInBounds_toArray, List.set_cons_zero, List.set_cons_succ, List.getElem_toArray, List.getElem_cons_zero, List.getElem_cons_succ]
              refine hK.out _ _ (LK5.out) (fun hS0 => ?_)
              refine wpAnyH_ready (rs := [7]) (by kernel_rfl) (by simp) ?_
              refine AllReadyH.cons rfl (fun K' hK => ?_) AllReadyH.nil
              go_simp
              try simp only [Act.put, List.setIfInBounds_toArray, List.set_cons_zero, List.set_cons_succ, List.getElem_toArray, List.getElem_cons_zero, List.getElem_cons_succ]
              refine hK.out _ _ (LK6.out) (fun hS0 => ?_)
              refine wpAnyH_ready (rs := [8]) (by kernel_rfl) (by simp) ?_
              refine AllReadyH.cons rfl (fun K' hK => ?_) AllReadyH.nil
              refine step_appEU _ lineE (by rfl) (.tmp 58) (.tmp 64) 75 (by rfl) (wr.heap.size + 1) 92 Tryz.underlying75 line_infoV (by rfl) _ ms (by rfl) HS6.out.own _ _ _ _ [⟨yf, yt, yA, ym, yc⟩] (by rfl) rfl HRN.out HZ3 (by decide) hzw ?_
              intro A9 c9 w9 r9 hr9 hown9 hu9 hx9
              have HU9 := kept (hu9 _ fun _ e => e)
              have HO9 := kept hown9
              clear hown9 hu9 hx9
              have x3 := (HS6.out.box5 HU9.out).cell (j := 1) rfl
              have x4 := (HS6.out.box5 HU9.out).frozen 1
              have HKG := kept (HKF.out.upd HU9.out fun k hk e => own_apart HKF.out HS6.out.own (by decide) k hk e)
              have LK9 := kept (HLK.out _ (HS6.out.below.trans (HU9.out.below HS6.out.below.size fun k _ e => Nat.le_of_succ_le (OwnK.under HS6.out.own _ e).1)))
              try simp only [Act.put, List.setIfInBounds_toArray, List.set_cons_zero, List.set_cons_succ, List.getElem_toArray, List.getElem_cons_zero, List.getElem_cons_succ]
              refine hK.out _ _ (LK9.out) (fun hS0 => ?_)
              refine wpAnyH_take (i := 9) (v := ?_) rfl (by kernel_rfl) (by kernel_rfl) (by kernel_rfl) (fun _ _ _ h => h) (Or.inl ⟨by rfl, ?_⟩) hS0 ?_
              case refine_2 => (intro W hSW; go_simp; try with_reducible rfl)
              try simp only [Act.put, List.setIfInBounds_toArray, List.set_cons_zero, List.set_cons_succ, List.getElem_toArray, List.getElem_cons_zero, List.getElem_cons_succ]
              refine wpAnyH_ready (rs := [10]) (by kernel_rfl) (by simp) ?_
              refine AllReadyH.cons rfl (fun K' hK => ?_) AllReadyH.nil
              go_simp
              have hwr1 : wr.heap.size < wr.heap.size + 1 := Nat.lt_succ_self _
              have HLN : Kept (LS wr (w9.setCell ⟨wr.heap.size, 1, none⟩ (.slice A9 r9.length c9)) cid A9 c9 r9) := ⟨HS6.out.app (z := ⟨yf, yt, yA, ym, yc⟩) ⟨HY.out.1, HY.out.2.1, HY6.out.mono (HLD.out.box.lt)⟩ hr9.out HO9.out HU9.out⟩
              have HKH := kept (OwnK.low HKG.out (p := ⟨wr.heap.size, 1, none⟩) HBK.out (.slice A9 r9.length c9))
              try simp only [Act.put, List.setIfInBounds_toArray, List.set_cons_zero, List.set_cons_succ, List.getElem_toArray, List.getElem_cons_zero, List.getElem_cons_succ]
              refine hK.out _ _ (HLK.out _ HLN.out.below) (fun hS0 => ?_)
              refine wpAnyH_done (by kernel_rfl) (NoPanic.normal ?_) _
              have HN1 : Kept (r9.length = j + 1) := ⟨by rw [hr9.out, List.length_append, HML.out]; rfl⟩
              have HN2 : Kept (r9.map LineM.p = (ss.take (j + 1)).map fun f => showM f (valsV es cid f)) := ⟨by rw [hr9.out, List.map_append, HMP.out, HTK.out, ← HYP.out]; rfl⟩
              have HN3 : Kept (Mem.Own (w9.setCell ⟨wr.heap.size, 1, none⟩ (.slice A9 r9.length c9)) bk 5 (.slice (some ⟨bb, oo, none⟩) ss.length c4) (BB ss) ∧ wr.heap.size < bk) := ⟨HKH.out, HBK.out⟩
              clear HY HYP HS5 HKE HS6 HY6 HKF HRN hzw HZ3 LK5 LK6 HU9 HO9 x3 x4 HKG LK9 hwr1 HKH HLD x0 HKD HZ LK0 CS
              go_wp2_with fail
              go_roundw
              case rel => exact ⟨j + 1, A9, c9, r9, by omega, by go_num, HN1, HN2, HLN, HN3⟩
              case measure => simp [intOf]; omega
            · go_simp
              try simp only [Act.put, List.setIfInBounds_toArray, List.set_cons_zero, List.set_cons_succ, List.getElem_toArray, List.getElem_cons_zero, List.getElem_cons_succ]
              refine hK.out _ _ (LK6.out) (fun hS0 => ?_)
              refine wpAnyH_ready (rs := [1]) (by kernel_rfl) (by simp) ?_
              refine AllReadyH.cons rfl (fun K' hK => ?_) AllReadyH.nil
              go_simp
              try simp only [Act.put, List.setIfInBounds_toArray, List.set_cons_zero, List.set_cons_succ, List.getElem_toArray, List.getElem_cons_zero, List.getElem_cons_succ]
              refine hK.out _ _ (LK6.out) (fun hS0 => ?_)
              refine wpAnyH_ready (rs := [8]) (by kernel_rfl) (by simp) ?_
              refine AllReadyH.cons rfl (fun K' hK => ?_) AllReadyH.nil
              refine step_appEU _ lineE (by rfl) (.tmp 58) (.tmp 64) 75 (by rfl) (wr.heap.size + 1) 92 Tryz.underlying75 line_infoV (by rfl) _ ms (by rfl) HS6.out.own _ _ _ _ [⟨yf, yt, yA, ym, yc⟩] (by rfl) rfl HRN.out HZ3 (by decide) hzw ?_
              intro A9 c9 w9 r9 hr9 hown9 hu9 hx9
              have HU9 := kept (hu9 _ fun _ e => e)
              have HO9 := kept hown9
              clear hown9 hu9 hx9
              have x3 := (HS6.out.box5 HU9.out).cell (j := 1) rfl
              have x4 := (HS6.out.box5 HU9.out).frozen 1
              have HKG := kept (HKF.out.upd HU9.out fun k hk e => own_apart HKF.out HS6.out.own (by decide) k hk e)
              have LK9 := kept (HLK.out _ (HS6.out.below.trans (HU9.out.below HS6.out.below.size fun k _ e => Nat.le_of_succ_le (OwnK.under HS6.out.own _ e).1)))
              try simp only [Act.put, List.setIfInBounds_toArray, List.set_cons_zero, List.set_cons_succ, List.getElem_toArray, List.getElem_cons_zero, List.getElem_cons_succ]
              refine hK.out _ _ (LK9.out) (fun hS0 => ?_)
              refine wpAnyH_take (i := 9) (v := ?_) rfl (by kernel_rfl) (by kernel_rfl) (by kernel_rfl) (fun _ _ _ h => h) (Or.inl ⟨by rfl, ?_⟩) hS0 ?_
              case refine_2 => (intro W hSW; go_simp; try with_reducible rfl)
              try simp only [Act.put, List.setIfInBounds_toArray, List.set_cons_zero, List.set_cons_succ, List.getElem_toArray, List.getElem_cons_zero, List.getElem_cons_succ]
              refine wpAnyH_ready (rs := [10]) (by kernel_rfl) (by simp) ?_
              refine AllReadyH.cons rfl (fun K' hK => ?_) AllReadyH.nil
              go_simp
              have hwr1 : wr.heap.size < wr.heap.size + 1 := Nat.lt_succ_self _
              have HLN : Kept (LS wr (w9.setCell ⟨wr.heap.size, 1, none⟩ (.slice A9 r9.length c9)) cid A9 c9 r9) := ⟨HS6.out.app (z := ⟨yf, yt, yA, ym, yc⟩) ⟨HY.out.1, HY.out.2.1, HY6.out.mono (HLD.out.box.lt)⟩ hr9.out HO9.out HU9.out⟩
              have HKH := kept (OwnK.low HKG.out (p := ⟨wr.heap.size, 1, none⟩) HBK.out (.slice A9 r9.length c9))
              try simp only [Act.put, List.setIfInBounds_toArray, List.set_cons_zero, List.set_cons_succ, List.getElem_toArray, List.getElem_cons_zero, List.getElem_cons_succ]
              refine hK.out _ _ (HLK.out _ HLN.out.below) (fun hS0 => ?_)
              refine wpAnyH_done (by kernel_rfl) (NoPanic.normal ?_) _
              have HN1 : Kept (r9.length = j + 1) := ⟨by rw [hr9.out, List.length_append, HML.out]; rfl⟩
              have HN2 : Kept (r9.map LineM.p = (ss.take (j + 1)).map fun f => showM f (valsV es cid f)) := ⟨by rw [hr9.out, List.map_append, HMP.out, HTK.out, ← HYP.out]; rfl⟩
              have HN3 : Kept (Mem.Own (w9.setCell ⟨wr.heap.size, 1, none⟩ (.slice A9 r9.length c9)) bk 5 (.slice (some ⟨bb, oo, none⟩) ss.length c4) (BB ss) ∧ wr.heap.size < bk) := ⟨HKH.out, HBK.out⟩
              clear HY HYP HS5 HKE HS6 HY6 HKF HRN hzw HZ3 LK5 LK6 HU9 HO9 x3 x4 HKG LK9 hwr1 HKH HLD x0 HKD HZ LK0 CS
              go_wp2_with fail
              go_roundw
              case rel => exact ⟨j + 1, A9, c9, r9, by omega, by go_num, HN1, HN2, HLN, HN3⟩
              case measure => simp [intOf]; omega
        · obtain rfl : j = ss.length := by omega
          have HPL : Kept (ms.map LineM.p = linesV es cid) := ⟨by rw [HMP.out, List.take_length, HSS.out]; rfl⟩
          have hml : ms.length ≤ 25 := by rw [HML.out]; exact hss
          have HFR := kept (HL.out.fresh HCI.out (by omega))
          have HBX := kept HL.out.box
          have hkb := HVB.out.next HL.out.below
          have HBW := kept (HVW.out.trans (HL.out.below.mono HVW.out.size))
          have HWZ := kept HVB.out.lt
          clear HL HKR HMP HML HVB HVW HM HV HMF HSS
          go_wp2_with (first | (refine wpl_loadB rfl _ _ rfl wr.heap.size rfl _ _ HBX.out _ rfl rfl rfl ?_) | (refine wpl_storeB rfl _ _ _ rfl w.heap.size [.int .u64 (cid : Int), .slice X ms.length cX] rfl rfl _ _ hkb rfl rfl rfl ?_; intro w7 hk7 hu7; have HK7 := kept hk7; have HU7 := kept hu7; clear hk7 hu7))
          refine bodyPost_ret (res_cell_tmp rfl _ w.heap.size _ [.int .u64 (cid : Int), .slice X ms.length cX] _ rfl HK7.out rfl rfl rfl) rfl ⟨X, cX, ms, rfl, HPL.out, ?_, HBW.out.trans (HU7.out.below HBW.out.size fun i _ e => by omega)⟩
          exact fresh_updV HFR.out HU7.out HWZ.out
end Go.Proofs.YtfkfpanhbanljaaGreat.View
