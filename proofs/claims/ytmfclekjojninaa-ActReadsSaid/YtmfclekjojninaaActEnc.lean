/- Layer 37 (act): the walks of act.Encode and of the document's All, Encode. -/
import Derived.Test.YtmfclekjojninaaActOne
import Derived.Test.YtmfclekjojninaaActPut
namespace Go.Proofs.Ytmfclekjojninaa.Act
open Go.RowKit Go.Proofs.Ytmfclekjojninaa.Mem Go.Proofs.Ytmfclekjojninaa.Card Go.Proofs.Ytmfclekjojninaa.Pack Go.Proofs.Ytmfclekjojninaa.Num Go.Proofs.Ytmfclekjojninaa.Shift

/-- a call gives bytes and an error's number -/
def GivesE (w : World) (l : List Nat) (k : Nat) (en : Ending) (w' : World) : Prop :=
  ∃ A c, en = .returned (.tuple #[.slice A l.length c, .int .i64 (k : Int)]) ∧ Own w' w.heap.size 5 (.slice A l.length c) (BB l) ∧ l.length ≤ c ∧ Below w.heap.size w w'
theorem givesE_none {w w' : World} {k : Nat} (hb : Below w.heap.size w w') : GivesE w [] k (.returned (.tuple #[.slice none 0 0, .int .i64 (k : Int)])) w' :=
  ⟨none, 0, rfl, Own.nilv _ _ _, Nat.le_refl _, hb⟩
/-- an act's cells -/
theorem act_cells {w : World} {B : Option Addr} {ls : List ActM} {j : Nat} {x : ActM} (h : actE.Rd w w.heap.size B ls) (hx : ls[j]? = some x) :
    ∃ b o, B = some ⟨b, o, none⟩ ∧ b < w.heap.size ∧ w.cell? ⟨b, o + j * 8, none⟩ = some (.int .u8 (x.k : Int)) ∧ w.cell? ⟨b, o + j * 8 + 1, none⟩ = some (.int .u8 (x.who : Int)) ∧ w.cell? ⟨b, o + j * 8 + 2, none⟩ = some (.int .u64 (x.cid : Int)) ∧ w.cell? ⟨b, o + j * 8 + 3, none⟩ = some (.int .u8 (x.f : Int)) ∧
      w.cell? ⟨b, o + j * 8 + 4, none⟩ = some (.string x.t) ∧ w.cell? ⟨b, o + j * 8 + 5, none⟩ = some (.int .i64 x.p) ∧ w.cell? ⟨b, o + j * 8 + 6, none⟩ = some (.int .i64 x.a) ∧ w.cell? ⟨b, o + j * 8 + 7, none⟩ = some (.int .u32 (x.m : Int)) := by
  obtain ⟨b, o, e, hb, hc⟩ := h.at_ hx
  rw [show actE.k = 8 from rfl] at hc
  refine ⟨b, o, e, hb, ?_, ?_, ?_, ?_, ?_, ?_, ?_, ?_⟩
  · have := hc 0 _ rfl; rwa [Nat.add_zero] at this
  · have := hc 1 _ rfl; rwa [← Nat.add_assoc] at this
  · have := hc 2 _ rfl; rwa [← Nat.add_assoc] at this
  · have := hc 3 _ rfl; rwa [← Nat.add_assoc] at this
  · have := hc 4 _ rfl; rwa [← Nat.add_assoc] at this
  · have := hc 5 _ rfl; rwa [← Nat.add_assoc] at this
  · have := hc 6 _ rfl; rwa [← Nat.add_assoc] at this
  · have := hc 7 _ rfl; rwa [← Nat.add_assoc] at this
theorem encPre_length {ls : List ActM} (h : ∀ x ∈ ls, good x = true) (hl : ls.length ≤ 1024) (k : Nat) : (numB ls.length ++ actsB (ls.take k)).length ≤ 122889 := by
  have h1 := num9 ls.length
  have h2 := actsB_length (l := ls.take k) fun x hx => h x (List.mem_of_mem_take hx)
  have h3 : (ls.take k).length ≤ 1024 := by rw [List.length_take]; omega
  rw [List.length_append]; omega
set_option maxRecDepth 100000 in
set_option maxHeartbeats 4000000 in
theorem all_any (B : Option Addr) (n d : Nat) (ls : List ActM) (w : World) (hn : n = ls.length) (r2 : actE.Rd w w.heap.size B ls) (has : ∀ x ∈ ls, x.Ok) (hg : ∀ x ∈ ls, good x = true) (hl : ls.length ≤ 1024) :
    Calls Try.prog 50 #[.slice B n d] w (Gives w (encB ls)) := by
  subst hn
  have HLEN := kept (encPre_length hg hl)
  have C1 := kept (rappend_any none 0 0 [] ls.length w rfl (by omega) Rd.nil (by simp))
  rw [List.nil_append] at C1
  have HG := kept hg
  have HAS := kept has
  clear hg has
  go_enter Try.func50, Try.ntmps50
  go_wp2_with fail
  refine C1.out.mono ?_
  rintro e w1 ⟨A1, c1, rfl, hown1, hc1, hb1⟩
  go_wp2_with fail
  go_loopw [3, 4] (fun x i wr => ∃ (k : Nat) (D : Option Addr) (cc : Nat) (r : List Nat), k ≤ ls.length ∧ i = .int .i64 (k : Int) ∧ x = .slice D r.length cc ∧ Kept (r = numB ls.length ++ actsB (ls.take k)) ∧ Own wr w.heap.size 5 (.slice D r.length cc) (BB r) ∧ Below w.heap.size w wr) (fun _ i _ => ls.length - (intOf i).toNat)
  case atStart => exact ⟨0, A1, c1, numB ls.length, Nat.zero_le _, rfl, rfl, ⟨by simp [actsB]⟩, hown1, hb1⟩
  case round =>
    obtain ⟨k, D, cc, r, hk, rfl, rfl, hr', hown, hb⟩ := hrel
    by_cases hlt : k < ls.length
    · obtain ⟨x, hx⟩ : ∃ x, ls[k]? = some x := ⟨_, List.getElem?_eq_getElem hlt⟩
      have hxo := HAS.out x (List.mem_of_getElem? hx)
      have hxg := good_text (HG.out x (List.mem_of_getElem? hx))
      obtain ⟨b, o, rfl, hbb, c0, c1, c2, c3, c4, c5, c6, c7⟩ := act_cells (r2.next hb) hx
      have hrl : r.length ≤ 122889 := by rw [hr'.out]; exact HLEN.out k
      have hrd := hown.rd
      have C2 := kept (one_any D _ cc r x wr rfl hrd hxo (by omega))
      have HT := kept (actsB_snoc hx)
      unfold ActM.val at C2
      clear hrd hx hxo
      go_wp2_with fail
      refine C2.out.mono ?_
      rintro e w2 ⟨A2, c2', rfl, ho2, hc2, hb2⟩
      have HR : Kept (r ++ actB x = numB ls.length ++ actsB (ls.take (k + 1))) := ⟨by rw [hr'.out, HT.out, List.append_assoc]⟩
      have HO := kept (And.intro (ho2.mono hb.size) (below_next hb hb2))
      obtain ⟨r2', hr2'⟩ : ∃ r2', r2' = r ++ actB x := ⟨_, rfl⟩
      rw [← hr2'] at HR HO ⊢
      clear hr2' ho2 hb2 hown
      go_wp2
      go_roundw
      case rel => exact ⟨k + 1, A2, c2', r2', by omega, by go_num, rfl, HR, HO.out.1, HO.out.2⟩
      case measure => simp [intOf]; omega
    · have e : r = encB ls := by rw [hr'.out, List.take_of_length_le (by omega)]; rfl
      have HE := kept e
      clear e hr'
      go_wp2
      go_ret
      obtain rfl := HE.out
      exact ⟨D, cc, rfl, hown, own_cap hown, hb⟩
theorem enc_long {ls : List ActM} (h : 1024 < ls.length) : encM ls = ([], 3) := by unfold encM; rw [if_pos h]
theorem enc_bad {ls : List ActM} (h : ¬ 1024 < ls.length) {k : Nat} {x : ActM} (hx : ls[k]? = some x) (hg : good x = false) : encM ls = ([], 1) := by
  unfold encM
  rw [if_neg h, if_neg]
  rw [List.all_eq_true]
  exact fun h2 => by have := h2 x (List.mem_of_getElem? hx); rw [hg] at this; cases this
theorem enc_good {ls : List ActM} (h : ¬ 1024 < ls.length) (hg : ∀ x ∈ ls, good x = true) : encM ls = (encB ls, 0) := by
  unfold encM
  rw [if_neg h, if_pos (List.all_eq_true.2 hg)]
theorem good_snoc {ls : List ActM} {k : Nat} {x : ActM} (hx : ls[k]? = some x) (h : ∀ y ∈ ls.take k, good y = true) (hg : good x = true) : ∀ y ∈ ls.take (k + 1), good y = true := by
  obtain ⟨hk, rfl⟩ := List.getElem?_eq_some_iff.1 hx
  intro y hy
  rw [List.take_succ_eq_append_getElem hk] at hy
  rcases List.mem_append.1 hy with h1 | h1
  · exact h y h1
  · rcases List.mem_singleton.1 h1 with rfl; exact hg
set_option maxRecDepth 100000 in
set_option maxHeartbeats 4000000 in
theorem rencode_any (B : Option Addr) (n d : Nat) (ls : List ActM) (w : World) (hn : n = ls.length) (r2 : actE.Rd w w.heap.size B ls) (has : ∀ x ∈ ls, x.Ok) (hsz : ls.length ≤ 9223372036854775807) :
    Calls Try.prog 30 #[.slice B n d] w (GivesE w (encM ls).1 (encM ls).2) := by
  subst hn
  have HAS := kept has
  clear has
  by_cases hlong : 1024 < ls.length
  · rw [enc_long hlong]
    go_enter Try.func30, Try.ntmps30
    go_wp2
    go_ret2
    exact givesE_none (Below.refl _ _)
  · have HB := kept (fun {k : Nat} {x : ActM} => enc_bad (k := k) (x := x) hlong)
    have HGD := kept (enc_good hlong)
    have HL := kept hlong
    have hl : ls.length ≤ 1024 := by omega
    clear hlong
    go_enter Try.func30, Try.ntmps30
    go_wp2
    go_loopw [4] (fun i wr => ∃ k : Nat, k ≤ ls.length ∧ i = .int .i64 (k : Int) ∧ Kept (∀ x ∈ ls.take k, good x = true) ∧ Below w.heap.size w wr) (fun i _ => ls.length - (intOf i).toNat)
    case atStart => exact ⟨0, Nat.zero_le _, rfl, ⟨fun x hx => by simp at hx⟩, Below.refl _ _⟩
    case round =>
      obtain ⟨k, hk, rfl, hgd, hb⟩ := hrel
      by_cases hlt : k < ls.length
      · obtain ⟨x, hx⟩ : ∃ x, ls[k]? = some x := ⟨_, List.getElem?_eq_getElem hlt⟩
        have hxo := HAS.out x (List.mem_of_getElem? hx)
        obtain ⟨b, o, rfl, hbb, c0, c1, c2, c3, c4, c5, c6, c7⟩ := act_cells (r2.next hb) hx
        have C := kept (xgood_any x wr hxo)
        unfold ActM.val at C
        have HBD := kept (fun hg => HB.out hx hg)
        have HSN := kept (fun hg => good_snoc hx hgd.out hg)
        clear hx hxo
        cases hgx : good x
        · have HE := kept (HBD.out hgx)
          rw [hgx] at C
          clear HBD HSN hgx hgd
          go_wp2_with fail
          refine C.out.mono ?_
          rintro e w2 ⟨rfl, hb2⟩
          go_wp2
          go_ret2
          rw [HE.out]
          exact givesE_none (below_next hb hb2)
        · have HE := kept (HSN.out hgx)
          rw [hgx] at C
          clear HBD HSN hgx hgd
          go_wp2_with fail
          refine C.out.mono ?_
          rintro e w2 ⟨rfl, hb2⟩
          have HB2 := kept (below_next hb hb2)
          clear hb2
          go_wp2
          go_roundw
          case rel => exact ⟨k + 1, by omega, by go_num, HE, HB2.out⟩
          case measure => simp [intOf]; omega
      · have hgall : ∀ x ∈ ls, good x = true := by have := hgd.out; rwa [List.take_of_length_le (by omega)] at this
        have C := kept (all_any B _ d ls wr rfl (r2.next hb) HAS.out hgall hl)
        have HE := kept (HGD.out hgall)
        clear hgall hgd
        go_wp2_with fail
        refine C.out.mono ?_
        rintro e w2 ⟨A2, c2, rfl, ho, hc, hb2⟩
        have HF := kept (And.intro (ho.mono hb.size) (below_next hb hb2))
        clear ho hb2
        go_wp2
        go_ret2
        rw [HE.out]
        exact ⟨A2, c2, rfl, HF.out.1, hc, HF.out.2⟩
end Go.Proofs.Ytmfclekjojninaa.Act
