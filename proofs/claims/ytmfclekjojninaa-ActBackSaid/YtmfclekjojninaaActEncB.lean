/- Layer 37 (act): the walk of act.Encode. -/
import Derived.Test.YtmfclekjojninaaActEnc
import Derived.Deep.CutBlock
namespace Go.Proofs.Ytmfclekjojninaa.Act
open Go.RowKit Go.Proofs.Ytmfclekjojninaa.Mem Go.Proofs.Ytmfclekjojninaa.Card Go.Proofs.Ytmfclekjojninaa.Pack Go.Proofs.Ytmfclekjojninaa.Num Go.Proofs.Ytmfclekjojninaa.Shift

/-- the writer in the midst of Encode -/
def EncSt (w : World) (L : List Nat) (wr : World) : Prop := ∃ S, Wtr wr S w.heap.size L ∧ (∀ s, S s → w.heap.size ≤ s) ∧ Below w.heap.size w wr
set_option maxRecDepth 100000 in
set_option maxHeartbeats 4000000 in
theorem encode_any (B : Option Addr) (n d : Nat) (ls : List ActM) (w : World) (hn : n = ls.length) (r2 : actE.Rd w w.heap.size B ls) (has : ∀ x ∈ ls, x.Ok) (hsz : ls.length ≤ 9223372036854775807) :
    Calls Try.prog 29 #[.slice B n d] w (GivesE w (encM ls).1 (encM ls).2) := by
  subst hn
  have HAS := kept has
  clear has
  by_cases hlong : 1024 < ls.length
  · rw [enc_long hlong]
    go_enter Try.func29, Try.ntmps29
    go_wp2
    go_ret2
    exact givesE_none (Below.refl _ _)
  · have HB := kept (fun {k : Nat} {x : ActM} => enc_bad (k := k) (x := x) hlong)
    have HGD := kept (enc_good hlong)
    have hl : ls.length ≤ 1024 := by omega
    have HL := kept hl
    clear hlong
    have hb0 := kept ((Below.refl w.heap.size w).alloc (Nat.le_refl _) (.cells #[.slice none 0 0] 85))
    have C1 := kept (wnum_any _ _ [] ls.length _ (Wtr.new w) (by omega) (by simp))
    rw [List.nil_append] at C1
    go_enter Try.func29, Try.ntmps29
    go_wp2_with fail
    refine C1.out.mono ?_
    rintro e w1 ⟨rfl, S1, hW1, hG1⟩
    have st : EncSt w (numB ls.length) w1 := ⟨S1, hW1, fun s hs => (hG1.2 s hs).elim (fun h => by omega) (fun h => by simp at h; omega), hb0.out.trans (hG1.1.below (by simp) (fun i _ hi => by omega))⟩
    have HST := kept st
    clear st hW1 hG1 C1
    go_wp2_with fail
    go_loopw [16] (fun i wr => ∃ (k : Nat) (L : List Nat), k ≤ ls.length ∧ i = .int .i64 (k : Int) ∧ Kept (∀ x ∈ ls.take k, good x = true) ∧ Kept (L = numB ls.length ++ actsB (ls.take k)) ∧ EncSt w L wr) (fun i _ => ls.length - (intOf i).toNat)
    case atStart => exact ⟨0, numB ls.length, Nat.zero_le _, rfl, ⟨fun x hx => by simp at hx⟩, ⟨by simp [actsB]⟩, HST.out⟩
    case round =>
      clear HST
      obtain ⟨k, L, hk, rfl, hgd, hL, S, hW, hS, hb⟩ := hrel
      by_cases hlt : k < ls.length
      · obtain ⟨x, hx⟩ : ∃ x, ls[k]? = some x := ⟨_, List.getElem?_eq_getElem hlt⟩
        have hxo := HAS.out x (List.mem_of_getElem? hx)
        obtain ⟨b, o, rfl, hbb, c0, c1, c2, c3, c4, c5, c6, c7⟩ := act_cells (r2.next hb) hx
        have hba := (Below.refl wr.heap.size wr).alloc (Nat.le_refl _) (.cells x.cells.toArray 62)
        have HBA := kept hba
        have C := kept (good_any x (wr.alloc (.cells x.cells.toArray 62)) hxo)
        have CP := kept (fun W hW hs => put_any S w.heap.size L x W hW hxo hs)
        have hka := Blk.new wr x.cells 62
        have HK := kept hka
        unfold ActM.val at C CP
        unfold ActM.cells at C HBA HK
        have HBD := kept (fun hg => HB.out hx hg)
        have HSN := kept (fun hg => good_snoc hx hgd.out hg)
        have HSZ := kept (fun (hg : good x = true) => (show L.length + x.t.size ≤ 140737488350000 from by
          have h1 := good_text hg
          have h2 := actsB_length hgd.out
          have h3 := num9 ls.length
          rw [hL.out, List.length_append]
          have h4 : (ls.take k).length ≤ 1024 := by rw [List.length_take]; omega
          omega))
        have HW := kept hW
        have HT := kept (actsB_snoc hx)
        clear hx hxo hba hka hW
        cases hgx : good x
        · have HE := kept (HBD.out hgx)
          rw [hgx] at C
          clear HBD HSN hgx hgd HSZ
          go_wp2_with fail
          refine C.out.mono ?_
          rintro e w2 ⟨rfl, hb2⟩
          have HF := kept (below_next (below_next hb HBA.out) hb2)
          clear hb2
          go_wp2
          go_ret2
          rw [HE.out]
          exact givesE_none HF.out
        · have HE := kept (HSN.out hgx)
          have HZ := kept (HSZ.out hgx)
          rw [hgx] at C
          clear HBD HSN hgx hgd HSZ
          go_wp2_with fail
          refine C.out.mono ?_
          rintro e w2 ⟨rfl, hb2⟩
          have hk2 := HK.out.next hb2
          have d0 := hk2.cell (j := 0) rfl
          have d1 := hk2.cell (j := 1) rfl
          have d2 := hk2.cell (j := 2) rfl
          have d3 := hk2.cell (j := 3) rfl
          have d4 := hk2.cell (j := 4) rfl
          have d5 := hk2.cell (j := 5) rfl
          have d6 := hk2.cell (j := 6) rfl
          have d7 := hk2.cell (j := 7) rfl
          have hlt2 := hk2.lt
          have hW2 := (HW.out.next HBA.out).next hb2
          have C2 := kept (CP.out w2 hW2 HZ.out)
          have HB2 := kept (below_next (below_next hb HBA.out) hb2)
          clear hb2 hk2 hW2
          go_wp2_with fail
          refine C2.out.mono ?_
          rintro e w3 ⟨rfl, S3, hW3, hG3⟩
          have HF : Kept (EncSt w (L ++ actB x) w3) := ⟨⟨S3, hW3, hG3.base HB2.out.size hS, HB2.out.trans (hG3.below HB2.out.size hS)⟩⟩
          have HL3 : Kept (L ++ actB x = numB ls.length ++ actsB (ls.take (k + 1))) := ⟨by rw [hL.out, HT.out, List.append_assoc]⟩
          clear hW3 hG3
          go_wp2
          go_roundw
          case rel => exact ⟨k + 1, L ++ actB x, by omega, by go_num, HE, HL3, HF.out⟩
          case measure => simp [intOf]; omega
      · have hgall : ∀ x ∈ ls, good x = true := by have := hgd.out; rwa [List.take_of_length_le (by omega)] at this
        have hLL : L = encB ls := by rw [hL.out, List.take_of_length_le (by omega)]; rfl
        have HE := kept (HGD.out hgall)
        have hln := encB_length hgall
        rw [← hLL] at HE hln
        have C := kept (wbytes_any S w.heap.size L wr hW (by omega))
        clear hgall hgd hLL hL hW
        go_wp2_with fail
        refine C.out.mono ?_
        rintro e w2 ⟨A2, c2, rfl, ho, hc, hb2⟩
        have HF := kept (And.intro (ho.mono hb.size) (below_next hb hb2))
        clear ho hb2
        go_wp2
        go_ret2
        rw [HE.out]
        exact ⟨A2, c2, rfl, HF.out.1, hc, HF.out.2⟩
end Go.Proofs.Ytmfclekjojninaa.Act
