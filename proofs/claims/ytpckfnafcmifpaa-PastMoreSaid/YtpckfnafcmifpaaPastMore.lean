/- Layer 41 (past): the law PastMore. -/
import Derived.Test.YtpckfnafcmifpaaPastWorks
import Derived.Test.YtpckfnafcmifpaaMaskJoin
import Derived.Deep.RegionHeld3
import Derived.Deep.DeepCutAuto
import Derived.Deep.CutBlock
import Derived.Deep.RegionWith
namespace Go.Proofs.Ytpckfnafcmifpaa.Past
open Go.RowKit Go.Proofs.Ytpckfnafcmifpaa.Mem Go.Proofs.Ytpckfnafcmifpaa.Mask

def outM (fs : List FactM) (a b : List Nat) (k : Int) (n : Nat) : Bool := (List.range n).any fun i => (hasI a (i : Int) || hasI b (i : Int)) && outsM fs (i : Int) k
theorem outM_succ (fs : List FactM) (a b : List Nat) (k : Int) (n : Nat) : outM fs a b k (n + 1) = (outM fs a b k n || ((hasI a (n : Int) || hasI b (n : Int)) && outsM fs (n : Int) k)) := by
  unfold outM
  rw [List.range_succ, List.any_append]
  simp
theorem hasI_join' (a b : List Nat) (n : Int) : hasI (joinN a b) n = (hasI a n || hasI b n) := by
  unfold hasI
  rw [hasN_join]
  cases decide (0 ≤ n) <;> simp
theorem more_1 {fs : List FactM} (hf : fs.length ≤ 1024) (a b : List Nat) (k : Nat) (hk : k < fs.length) :
    hasI (liveM fs (joinN a b)) (k : Int) = ((hasI a (k : Int) || hasI b (k : Int)) && (decide ((fs.getD k default).e.kind = 1) && !outM fs a b (k : Int) fs.length)) := by
  rw [Bool.eq_iff_iff, hasI_live hf, hasI_join']
  simp only [Bool.and_eq_true, decide_eq_true_iff, Bool.not_eq_true']
  have ho : outM fs a b (k : Int) fs.length = false ↔ ∀ n : Int, 0 ≤ n → n < fs.length → hasI (joinN a b) n = true → outsM fs n k = false := by
    unfold outM
    rw [List.any_eq_false]
    constructor
    · intro h n h0 h1 h2
      have h3 := h n.toNat (List.mem_range.2 (by omega))
      rw [show ((n.toNat : Nat) : Int) = n from by omega, ← hasI_join', h2] at h3
      simpa using h3
    · intro h i hi h3
      rw [← hasI_join', Bool.and_eq_true] at h3
      have := h (i : Int) (by omega) (by have := List.mem_range.1 hi; omega) h3.1
      rw [this] at h3
      exact absurd h3.2 (by simp)
  rw [ho]
  simp only [hasI_join', Int.toNat_natCast]
  constructor
  · rintro ⟨_, _, h3, h4, h5⟩; exact ⟨h3, h4, h5⟩
  · rintro ⟨h3, h4, h5⟩; exact ⟨by omega, by omega, h3, h4, h5⟩
theorem more_2 {fs : List FactM} (hf : fs.length ≤ 1024) (a j : List Nat) (hs : ∀ n, hasI a n = true → hasI j n = true) (k : Nat) (h : hasI (liveM fs j) (k : Int) = true) (ha : hasI a (k : Int) = true) : hasI (liveM fs a) (k : Int) = true := by
  rw [hasI_live hf] at h ⊢
  exact ⟨h.1, h.2.1, ha, h.2.2.2.1, fun n h0 h1 h2 => h.2.2.2.2 n h0 h1 (hs n h2)⟩
theorem join_len (a b : List Nat) (h1 : a.length ≤ 20) (h2 : b.length ≤ 20) : (joinN a b).length ≤ 20 := by
  unfold joinN
  have := trim_length (zipW (· ||| ·) a b)
  rw [zipW_length] at this
  omega
def FactM.Arg (w : World) (x : FactM) : Prop := Rd w w.heap.size x.A (WB x.m) ∧ AllW x.m ∧ x.e.kind < 256
set_option maxRecDepth 100000 in
set_option maxHeartbeats 16000000 in
theorem more_law (X A B : Option Addr) (cx ca cb : Nat) (ls : List FactM) (a b : List Nat) (w : World) (hr : factE.Rd w w.heap.size X ls) (hok : ∀ x ∈ ls, x.Arg w) (hsz : ls.length ≤ 9223372036854775807) (ha : AllW a) (hb : AllW b) (hra : Rd w w.heap.size A (WB a)) (hrb : Rd w w.heap.size B (WB b)) (hla : a.length ≤ 9223372036854775807) (hlb : b.length ≤ 9223372036854775807) :
    Calls Try.prog 3 #[.slice X ls.length cx, .slice A a.length ca, .slice B b.length cb] w fun en w' => en = .returned (.bool true) ∧ Below w.heap.size w w' := by
  have CF := kept (few_any X _ cx ls w rfl hr hsz)
  have CW := kept (fun W => works_any W)
  by_cases hgo : fewM ls = true ∧ a.length ≤ 20 ∧ b.length ≤ 20
  case neg =>
    clear hr hok hra hrb
    generalize fewM ls = fm at *
    generalize ls.length = M at *
    generalize a.length = N1 at *
    generalize b.length = N2 at *
    cases fm with
    | false =>
      go_enter Try.func3, Try.ntmps3
      go_wp2_with fail
      refine CF.out.mono ?_
      rintro en w1 ⟨rfl, hb1⟩
      go_wp2_with fail
      refine (CW.out _).mono ?_
      rintro en w2 ⟨rfl, hb2⟩
      have HB2 := kept (bnx hb1 hb2)
      clear hb1 hb2
      go_wp2
      go_ret
      exact ⟨rfl, HB2.out⟩
    | true =>
      by_cases h1 : N1 ≤ 20
      · have h2 : ¬ N2 ≤ 20 := fun h => hgo ⟨rfl, h1, h⟩
        go_enter Try.func3, Try.ntmps3
        go_wp2_with fail
        refine CF.out.mono ?_
        rintro en w1 ⟨rfl, hb1⟩
        go_wp2_with fail
        refine (CW.out _).mono ?_
        rintro en w2 ⟨rfl, hb2⟩
        have HB2 := kept (bnx hb1 hb2)
        clear hb1 hb2
        go_wp2
        go_ret
        exact ⟨rfl, HB2.out⟩
      · go_enter Try.func3, Try.ntmps3
        go_wp2_with fail
        refine CF.out.mono ?_
        rintro en w1 ⟨rfl, hb1⟩
        go_wp2_with fail
        refine (CW.out _).mono ?_
        rintro en w2 ⟨rfl, hb2⟩
        have HB2 := kept (bnx hb1 hb2)
        clear hb1 hb2
        go_wp2
        go_ret
        exact ⟨rfl, HB2.out⟩
  obtain ⟨hfm, h1, h2⟩ := hgo
  have hsaw : ∀ x ∈ ls, x.m.length ≤ 20 := fun x hx => by
    have h3 : ls.all fewP = true := by
      unfold fewM at hfm
      exact (Bool.and_eq_true _ _ ▸ hfm).2
    have h4 := List.all_eq_true.1 h3 x hx
    unfold fewP at h4
    rw [Bool.and_eq_true, decide_eq_true_iff] at h4
    exact h4.1
  rw [hfm] at CF
  have HSAW := kept hsaw
  have HOK := kept hok
  have HR := kept hr
  have HRA := kept hra
  have HRB := kept hrb
  clear hsaw hok hr hra hrb hfm hla hlb
  go_enter Try.func3, Try.ntmps3
  go_wp2_with fail
  refine CF.out.mono ?_
  rintro en w1 ⟨rfl, hb1⟩
  have CN := kept (new_any w1)
  have HB1 := kept hb1
  clear hb1 CF
  go_wp2_with fail
  refine CN.out.mono ?_
  rintro en w2 ⟨rfl, hP2, hb2⟩
  have HP2 := kept hP2
  have HB2 := kept (bnx HB1.out hb2)
  have hg1 : w.heap.size ≤ w1.heap.size := HB1.out.size
  clear hP2 hb2 CN
  generalize w1.heap.size = g at *
  go_wp2
  go_loopw [8] (fun i wr => ∃ (k : Nat) (S : Nat → Prop) (fs : List FactM), k ≤ ls.length ∧ i = .int .i64 (k : Int) ∧ Kept (Pst wr S g fs ∧ (∀ k, S k → w.heap.size ≤ k) ∧ Below w.heap.size w wr)) (fun i _ => ls.length - (intOf i).toNat)
  case atStart => exact ⟨0, _, [], Nat.zero_le _, rfl, ⟨HP2.out, fun k hk => by omega, HB2.out⟩⟩
  case round =>
    obtain ⟨k, S, fs, hk, rfl, hin⟩ := hrel
    by_cases hlt : k < ls.length
    · obtain ⟨x, hx⟩ : ∃ x, ls[k]? = some x := ⟨_, List.getElem?_eq_getElem hlt⟩
      obtain ⟨hP, hS, hbw⟩ := hin.out
      obtain ⟨bl, o, rfl, hbb, hc⟩ := (HR.out.next hbw).at_ hx
      have hxo := HOK.out x (List.mem_of_getElem? hx)
      have hxs := HSAW.out x (List.mem_of_getElem? hx)
      -- what the call does, whichever way it answers
      have CA : Kept (∀ W, Below wr.heap.size wr W → Calls Try.prog 10 #[.pointer (some ⟨g, 0, none⟩), x.e.val, .slice x.A x.m.length x.c] W fun en w' => (∃ v1 v2, en = .returned (.tuple #[v1, v2])) ∧ ∃ S' fs', Kept (Pst w' S' g fs' ∧ (∀ k, S' k → w.heap.size ≤ k) ∧ Below w.heap.size w w')) := ⟨fun W hW => by
        have hPW := hP.next hW
        have hbW := bnx hbw hW
        have hrd := (hxo.1.next hbw).next hW
        by_cases hkd : x.e.kind = 1 ∨ x.e.kind = 2
        · by_cases hl : fs.length < 1024
          · refine (add_yes S g fs x.e x.A _ x.c x.m W hPW ⟨hkd, hl⟩ rfl hxo.2.1 hrd (by omega)).mono ?_
            rintro en w' ⟨rfl, S', A', c', hP', hG', -⟩
            exact ⟨⟨_, _, rfl⟩, S', _, ⟨hP', hG'.base hbW.size hS, hbW.trans (hG'.below hbW.size hS)⟩⟩
          · refine (add_full S g fs x.e x.A _ x.c W hPW hkd (by omega)).mono ?_
            rintro en w' ⟨rfl, hb'⟩
            exact ⟨⟨_, _, rfl⟩, S, fs, ⟨hPW.next hb', hS, bnx hbW hb'⟩⟩
        · refine (add_bad g x.e x.A _ x.c W hkd).mono ?_
          rintro en w' ⟨rfl, hb'⟩
          exact ⟨⟨_, _, rfl⟩, S, fs, ⟨hPW.next hb', hS, bnx hbW hb'⟩⟩⟩
      obtain ⟨⟨dev, ne, kind, cid, field, text, kA, kn, kc⟩, xA, xm, xc⟩ := x
      have c0 : wr.cell? ⟨bl, o + k * 8, none⟩ = some (.int .u16 (dev : Int)) := hc 0 _ rfl
      have c1 : wr.cell? ⟨bl, o + k * 8 + 1, none⟩ = some (.int .u64 (ne : Int)) := hc 1 _ rfl
      have c2 : wr.cell? ⟨bl, o + k * 8 + 2, none⟩ = some (.int .u8 (kind : Int)) := hc 2 _ rfl
      have c3 : wr.cell? ⟨bl, o + k * 8 + 3, none⟩ = some (.int .u64 (cid : Int)) := hc 3 _ rfl
      have c4 : wr.cell? ⟨bl, o + k * 8 + 4, none⟩ = some (.int .u8 (field : Int)) := hc 4 _ rfl
      have c5 : wr.cell? ⟨bl, o + k * 8 + 5, none⟩ = some (.string text) := hc 5 _ rfl
      have c6 : wr.cell? ⟨bl, o + k * 8 + 6, none⟩ = some (.slice kA kn kc) := hc 6 _ rfl
      have c7 : wr.cell? ⟨bl, o + k * 8 + 7, none⟩ = some (.slice xA xm.length xc) := hc 7 _ rfl
      have hkn : (k : Int) < (ls.length : Int) := by omega
      have hbd : Below wr.heap.size wr wr.drew := (Below.refl _ _).drew
      clear hx hxo hxs hP hS hbw hc hin
      go_upto_region 7 with fail
      go_region_with (go_at_call 10; refine (CA.out _ (by assumption)).mono ?_; rintro en w3 ⟨⟨v1, v2, rfl⟩, S3, fs3, hin3⟩)
      all_goals
        go_wp2
        go_roundw
        case rel => exact ⟨k + 1, S3, fs3, by omega, by go_num, hin3⟩
        case measure => simp [intOf]; omega
    · obtain ⟨hP, hS, hbw⟩ := hin.out
      have hf24 : fs.length ≤ 1024 := hP.2.2.1
      have HPW := kept (fun W (hb : Below wr.heap.size wr W) => hP.next hb)
      have HAW := kept ha
      have HBW := kept hb
      have HRA1 := kept (HRA.out.next hbw)
      have HRB1 := kept (HRB.out.next hbw)
      have HBW1 := kept hbw
      have C1 := kept (live_any S g fs A a.length ca a wr hP rfl ha HRA1.out (by omega))
      have hlt2 := hP.2.1 g hP.1
      clear hP hS hbw hin HR HOK HSAW HRA HRB
      go_wp2_with fail
      refine C1.out.mono ?_
      rintro en w3 ⟨A3, c3, rfl, ho3, -, hb3⟩
      have C2 := kept (live_any S g fs B b.length cb b w3 (HPW.out _ hb3) rfl HBW.out (HRB1.out.next hb3) (by omega))
      have HO3 := kept ho3.rd
      have HB3 := kept hb3
      clear ho3 hb3 C1
      go_wp2_with fail
      refine C2.out.mono ?_
      rintro en w4 ⟨A4, c4, rfl, ho4, -, hb4⟩
      have HB4 := kept (bnx HB3.out hb4)
      have C3 := kept (rjoin_any A B _ _ ca cb a b w4 rfl rfl HAW.out HBW.out (HRA1.out.next HB4.out) (HRB1.out.next HB4.out) (by omega) (by omega))
      have HO3' := kept (HO3.out.next hb4)
      have HO4 := kept ho4.rd
      clear ho4 hb4 C2 HO3 HB3
      go_wp2_with fail
      refine C3.out.mono ?_
      rintro en w5 ⟨A5, c5, rfl, ho5, -, hb5⟩
      have HB5 := kept (bnx HB4.out hb5)
      have hjl := join_len a b h1 h2
      have C4 := kept (live_any S g fs A5 _ c5 (joinN a b) w5 (HPW.out _ HB5.out) rfl (join_all HAW.out HBW.out) ho5.rd (by omega))
      have HO35 := kept (HO3'.out.next hb5)
      have HO45 := kept (HO4.out.next hb5)
      clear ho5 hb5 C3 HO3' HO4 HB4
      go_wp2_with fail
      refine C4.out.mono ?_
      rintro en w6 ⟨A6, c6, rfl, ho6, -, hb6⟩
      have HB6 := kept (bnx HB5.out hb6)
      have HO36 := kept (HO35.out.next hb6)
      have HO46 := kept (HO45.out.next hb6)
      have HO6 := kept ho6.rd
      have HXL := kept (live_all fs a)
      have HYL := kept (live_all fs b)
      have HJL := kept (live_all fs (joinN a b))
      have M1 := kept (more_1 hf24 a b)
      have M2 := kept (fun k => more_2 hf24 a (joinN a b) (fun n h => by rw [hasI_join', h, Bool.true_or]) k)
      have M3 := kept (fun k => more_2 hf24 b (joinN a b) (fun n h => by rw [hasI_join', h, Bool.or_true]) k)
      have MLL := kept (live_live hf24 (joinN a b))
      generalize liveM fs (joinN a b) = jj at *
      generalize liveM fs a = xx at *
      generalize liveM fs b = yy at *
      -- the calls of the loops, in whichever later world
      have HRAk : Kept (∀ W, Below w6.heap.size w6 W → Rd W W.heap.size A (WB a)) := ⟨fun W hW => (HRA1.out.next HB6.out).next hW⟩
      have HRBk : Kept (∀ W, Below w6.heap.size w6 W → Rd W W.heap.size B (WB b)) := ⟨fun W hW => (HRB1.out.next HB6.out).next hW⟩
      have HPk : Kept (∀ W, Below w6.heap.size w6 W → Pst W S g fs) := ⟨fun W hW => HPW.out W (bnx HB6.out hW)⟩
      have HBk := kept (bnx HBW1.out HB6.out)
      have hxl : xx.length ≤ 16 := HXL.out.2
      have hyl : yy.length ≤ 16 := HYL.out.2
      have hjl2 : jj.length ≤ 16 := HJL.out.2
      clear ho6 hb6 C4 HO35 HO45 HB5 HPW HRA1 HRB1 HBW1 HB6 hjl
      go_wp2
      go_loopw [12] (fun i wr => ∃ (k : Nat), k ≤ fs.length ∧ i = .int .i64 (k : Int) ∧ Below w6.heap.size w6 wr) (fun i _ => fs.length - (intOf i).toNat)
      case atStart => exact ⟨0, Nat.zero_le _, rfl, Below.refl _ _⟩
      case round =>
        obtain ⟨k, hk, rfl, hbr⟩ := hrel
        have CL := kept (len_any _ fs.length _ (HPk.out _ hbr).len)
        by_cases hkl : k < fs.length
        · obtain ⟨f, hf⟩ : ∃ f, fs[k]? = some f := ⟨_, List.getElem?_eq_getElem hkl⟩
          have CE := kept (fun W hW => event_in S g fs k f W (HPk.out W hW) hf)
          have M1k := M1.out k hkl
          rw [show fs.getD k default = f from by simp [List.getD, hf]] at M1k
          obtain ⟨⟨dev, ne, kind, cid, field, text, kA, kn, kc⟩, fA, fm, fc⟩ := f
          unfold EvM.val at CE
          dsimp only at CE M1k
          have M1K := kept M1k
          have HBr := kept hbr
          have hkn : (k : Int) < (fs.length : Int) := by omega
          clear hf M1k hbr
          go_wp2_with fail
          refine CL.out.mono ?_
          rintro en w7 ⟨rfl, hw7⟩
          subst hw7
          clear CL
          go_wp2
          go_loopw [13, 14] (fun o i wr => ∃ (n : Nat) (ob : Bool), n ≤ fs.length ∧ i = .int .i64 (n : Int) ∧ o = .bool ob ∧ Kept (ob = outM fs a b (k : Int) n) ∧ Below w6.heap.size w6 wr) (fun _ i _ => fs.length - (intOf i).toNat)
          case atStart => exact ⟨0, false, Nat.zero_le _, rfl, rfl, ⟨rfl⟩, HBr.out⟩
          case round =>
            obtain ⟨n, ob, hn, rfl, rfl, hob, hbr⟩ := hrel
            have CL := kept (len_any _ fs.length _ (HPk.out _ hbr).len)
            by_cases hnl : n < fs.length
            · have CA := kept (rhas_any A _ ca a (n : Int) _ rfl HAW.out (HRAk.out _ hbr) (by omega) (by omega))
              have CB := kept (rhas_any B _ cb b (n : Int) _ rfl HBW.out (HRBk.out _ hbr) (by omega) (by omega))
              have CO := kept (outs_any S g fs (n : Int) (k : Int) _ (HPk.out _ hbr) (by omega) (by omega))
              have hos := outM_succ fs a b (k : Int) n
              rw [← hob.out] at hos
              generalize hasI a (n : Int) = va at *
              generalize hasI b (n : Int) = vb at *
              generalize outsM fs (n : Int) (k : Int) = vo at *
              have HOS := kept hos
              have HB := kept hbr
              have hnn : (n : Int) < (fs.length : Int) := by omega
              clear hos hob hbr M1 M2 M3 MLL M1K
              cases ob with
              | true =>
                go_wp2_with fail
                refine CL.out.mono ?_
                rintro en w8 ⟨rfl, hw8⟩
                subst hw8
                go_wp2
                go_roundw
                case rel => exact ⟨n + 1, _, by omega, by go_num, rfl, ⟨by rw [HOS.out]; simp⟩, HB.out⟩
                case measure => simp [intOf]; omega
              | false =>
                cases va with
                | true =>
                  go_wp2_with fail
                  refine CL.out.mono ?_
                  rintro en w8 ⟨rfl, hw8⟩
                  subst hw8
                  go_wp2_with fail
                  refine CA.out.mono ?_
                  rintro en w9 ⟨rfl, hw9⟩
                  subst hw9
                  go_wp2_with fail
                  refine CO.out.mono ?_
                  rintro en w9 ⟨rfl, hb9⟩
                  go_wp2
                  go_roundw
                  case rel => exact ⟨n + 1, _, by omega, by go_num, rfl, ⟨by rw [HOS.out]; simp⟩, HB.out.trans (hb9.mono HB.out.size)⟩
                  case measure => simp [intOf]; omega
                | false =>
                  cases vb with
                  | true =>
                    go_wp2_with fail
                    refine CL.out.mono ?_
                    rintro en w8 ⟨rfl, hw8⟩
                    subst hw8
                    go_wp2_with fail
                    refine CA.out.mono ?_
                    rintro en w9 ⟨rfl, hw9⟩
                    subst hw9
                    go_wp2_with fail
                    refine CB.out.mono ?_
                    rintro en w9 ⟨rfl, hw9⟩
                    subst hw9
                    go_wp2_with fail
                    refine CO.out.mono ?_
                    rintro en w9 ⟨rfl, hb9⟩
                    go_wp2
                    go_roundw
                    case rel => exact ⟨n + 1, _, by omega, by go_num, rfl, ⟨by rw [HOS.out]; simp⟩, HB.out.trans (hb9.mono HB.out.size)⟩
                    case measure => simp [intOf]; omega
                  | false =>
                    go_wp2_with fail
                    refine CL.out.mono ?_
                    rintro en w8 ⟨rfl, hw8⟩
                    subst hw8
                    go_wp2_with fail
                    refine CA.out.mono ?_
                    rintro en w9 ⟨rfl, hw9⟩
                    subst hw9
                    go_wp2_with fail
                    refine CB.out.mono ?_
                    rintro en w9 ⟨rfl, hw9⟩
                    subst hw9
                    go_wp2
                    go_roundw
                    case rel => exact ⟨n + 1, _, by omega, by go_num, rfl, ⟨by rw [HOS.out]; simp⟩, HB.out⟩
                    case measure => simp [intOf]; omega
            · obtain rfl : n = fs.length := by omega
              rw [← hob.out] at M1K
              have HB := kept hbr
              clear hbr hob
              go_wp2_with fail
              refine CL.out.mono ?_
              rintro en w8 ⟨rfl, hw8⟩
              subst hw8
              have CE2 := kept (CE.out _ HB.out)
              go_wp2_with fail
              refine CE2.out.mono ?_
              rintro en w9 ⟨rfl, hb9⟩
              have hb10 := HB.out.trans (hb9.mono HB.out.size)
              have hb11 : Below w6.heap.size w6 (w9.alloc (.cells #[.int .u16 (dev : Int), .int .u64 (ne : Int), .int .u8 (kind : Int), .int .u64 (cid : Int), .int .u8 (field : Int), .string text, .slice kA kn kc] 37)) := hb10.alloc hb10.size _
              have CA := kept (rhas_any A _ ca a (k : Int) _ rfl HAW.out (HRAk.out _ hb11) (by omega) (by omega))
              have CB := kept (rhas_any B _ cb b (k : Int) _ rfl HBW.out (HRBk.out _ hb11) (by omega) (by omega))
              have CX := kept (rhas_any A3 _ c3 xx (k : Int) _ rfl HXL.out.1 (HO36.out.next hb11) (by omega) (by omega))
              have CY := kept (rhas_any A4 _ c4 yy (k : Int) _ rfl HYL.out.1 (HO46.out.next hb11) (by omega) (by omega))
              have CJ := kept (rhas_any A6 _ c6 jj (k : Int) _ rfl HJL.out.1 (HO6.out.next hb11) (by omega) (by omega))
              have HX := kept (M2.out k)
              have HY := kept (M3.out k)
              generalize hasI a (k : Int) = va at *
              generalize hasI b (k : Int) = vb at *
              generalize hasI xx (k : Int) = vx at *
              generalize hasI yy (k : Int) = vy at *
              generalize hasI jj (k : Int) = vj at *
              have HB11 := kept hb11
              clear hb11 hb10 hb9 CE2 CE HB M1 M2 M3 MLL CL
              by_cases hkd : kind = 1
              · subst hkd
                rw [decide_eq_true rfl, Bool.true_and] at M1K
                cases va with
                | false =>
                  cases vb with
                  | false =>
                    rw [Bool.false_or, Bool.false_and] at M1K
                    obtain rfl := M1K.out
                    try (have e1 := HX.out rfl rfl; subst e1)
                    try (have e2 := HY.out rfl rfl; subst e2)
                    clear HX HY M1K
                    go_wp2_with fail
                    refine CA.out.mono ?_
                    rintro en w9 ⟨rfl, hw9⟩
                    subst hw9
                    go_wp2_with fail
                    refine CB.out.mono ?_
                    rintro en w9 ⟨rfl, hw9⟩
                    subst hw9
                    go_wp2_with fail
                    refine CJ.out.mono ?_
                    rintro en w9 ⟨rfl, hw9⟩
                    subst hw9
                    go_wp2_with fail
                    refine CJ.out.mono ?_
                    rintro en w9 ⟨rfl, hw9⟩
                    subst hw9
                    go_wp2
                    go_roundw
                    case rel => exact ⟨k + 1, by omega, by go_num, HB11.out⟩
                    case measure => simp [intOf]; omega
                  | true =>
                    cases ob with
                    | true =>
                      obtain rfl := M1K.out
                      try (have e1 := HX.out rfl rfl; subst e1)
                      try (have e2 := HY.out rfl rfl; subst e2)
                      clear HX HY M1K
                      go_wp2_with fail
                      refine CA.out.mono ?_
                      rintro en w9 ⟨rfl, hw9⟩
                      subst hw9
                      go_wp2_with fail
                      refine CB.out.mono ?_
                      rintro en w9 ⟨rfl, hw9⟩
                      subst hw9
                      go_wp2_with fail
                      refine CJ.out.mono ?_
                      rintro en w9 ⟨rfl, hw9⟩
                      subst hw9
                      go_wp2_with fail
                      refine CJ.out.mono ?_
                      rintro en w9 ⟨rfl, hw9⟩
                      subst hw9
                      go_wp2
                      go_roundw
                      case rel => exact ⟨k + 1, by omega, by go_num, HB11.out⟩
                      case measure => simp [intOf]; omega
                    | false =>
                      obtain rfl := M1K.out
                      try (have e1 := HX.out rfl rfl; subst e1)
                      try (have e2 := HY.out rfl rfl; subst e2)
                      clear HX HY M1K
                      go_wp2_with fail
                      refine CA.out.mono ?_
                      rintro en w9 ⟨rfl, hw9⟩
                      subst hw9
                      go_wp2_with fail
                      refine CB.out.mono ?_
                      rintro en w9 ⟨rfl, hw9⟩
                      subst hw9
                      go_wp2_with fail
                      refine CJ.out.mono ?_
                      rintro en w9 ⟨rfl, hw9⟩
                      subst hw9
                      go_wp2_with fail
                      refine CJ.out.mono ?_
                      rintro en w9 ⟨rfl, hw9⟩
                      subst hw9
                      go_wp2_with fail
                      refine CA.out.mono ?_
                      rintro en w9 ⟨rfl, hw9⟩
                      subst hw9
                      go_wp2_with fail
                      refine CB.out.mono ?_
                      rintro en w9 ⟨rfl, hw9⟩
                      subst hw9
                      go_wp2_with fail
                      refine CY.out.mono ?_
                      rintro en w9 ⟨rfl, hw9⟩
                      subst hw9
                      go_wp2
                      go_roundw
                      case rel => exact ⟨k + 1, by omega, by go_num, HB11.out⟩
                      case measure => simp [intOf]; omega
                | true =>
                  cases ob with
                  | true =>
                    rw [Bool.not_true, Bool.and_false] at M1K
                    obtain rfl := M1K.out
                    try (have e1 := HX.out rfl rfl; subst e1)
                    try (have e2 := HY.out rfl rfl; subst e2)
                    clear HX HY M1K
                    go_wp2_with fail
                    refine CA.out.mono ?_
                    rintro en w9 ⟨rfl, hw9⟩
                    subst hw9
                    go_wp2_with fail
                    refine CJ.out.mono ?_
                    rintro en w9 ⟨rfl, hw9⟩
                    subst hw9
                    go_wp2_with fail
                    refine CJ.out.mono ?_
                    rintro en w9 ⟨rfl, hw9⟩
                    subst hw9
                    go_wp2
                    go_roundw
                    case rel => exact ⟨k + 1, by omega, by go_num, HB11.out⟩
                    case measure => simp [intOf]; omega
                  | false =>
                    cases vb with
                    | true =>
                      obtain rfl := M1K.out
                      try (have e1 := HX.out rfl rfl; subst e1)
                      try (have e2 := HY.out rfl rfl; subst e2)
                      clear HX HY M1K
                      go_wp2_with fail
                      refine CA.out.mono ?_
                      rintro en w9 ⟨rfl, hw9⟩
                      subst hw9
                      go_wp2_with fail
                      refine CJ.out.mono ?_
                      rintro en w9 ⟨rfl, hw9⟩
                      subst hw9
                      go_wp2_with fail
                      refine CJ.out.mono ?_
                      rintro en w9 ⟨rfl, hw9⟩
                      subst hw9
                      go_wp2_with fail
                      refine CA.out.mono ?_
                      rintro en w9 ⟨rfl, hw9⟩
                      subst hw9
                      go_wp2_with fail
                      refine CX.out.mono ?_
                      rintro en w9 ⟨rfl, hw9⟩
                      subst hw9
                      go_wp2_with fail
                      refine CB.out.mono ?_
                      rintro en w9 ⟨rfl, hw9⟩
                      subst hw9
                      go_wp2_with fail
                      refine CY.out.mono ?_
                      rintro en w9 ⟨rfl, hw9⟩
                      subst hw9
                      go_wp2
                      go_roundw
                      case rel => exact ⟨k + 1, by omega, by go_num, HB11.out⟩
                      case measure => simp [intOf]; omega
                    | false =>
                      obtain rfl := M1K.out
                      try (have e1 := HX.out rfl rfl; subst e1)
                      try (have e2 := HY.out rfl rfl; subst e2)
                      clear HX HY M1K
                      go_wp2_with fail
                      refine CA.out.mono ?_
                      rintro en w9 ⟨rfl, hw9⟩
                      subst hw9
                      go_wp2_with fail
                      refine CJ.out.mono ?_
                      rintro en w9 ⟨rfl, hw9⟩
                      subst hw9
                      go_wp2_with fail
                      refine CJ.out.mono ?_
                      rintro en w9 ⟨rfl, hw9⟩
                      subst hw9
                      go_wp2_with fail
                      refine CA.out.mono ?_
                      rintro en w9 ⟨rfl, hw9⟩
                      subst hw9
                      go_wp2_with fail
                      refine CX.out.mono ?_
                      rintro en w9 ⟨rfl, hw9⟩
                      subst hw9
                      go_wp2_with fail
                      refine CB.out.mono ?_
                      rintro en w9 ⟨rfl, hw9⟩
                      subst hw9
                      go_wp2
                      go_roundw
                      case rel => exact ⟨k + 1, by omega, by go_num, HB11.out⟩
                      case measure => simp [intOf]; omega
              · have hkb : ((kind : Int) == 1) = false := by simp; omega
                rw [decide_eq_false hkd, Bool.false_and, Bool.and_false] at M1K
                obtain rfl := M1K.out
                cases va with
                | true =>
                  clear HX HY M1K
                  go_wp2_with fail
                  refine CA.out.mono ?_
                  rintro en w9 ⟨rfl, hw9⟩
                  subst hw9
                  go_wp2_with fail
                  refine CJ.out.mono ?_
                  rintro en w9 ⟨rfl, hw9⟩
                  subst hw9
                  go_wp2_with fail
                  refine CJ.out.mono ?_
                  rintro en w9 ⟨rfl, hw9⟩
                  subst hw9
                  go_wp2
                  go_roundw
                  case rel => exact ⟨k + 1, by omega, by go_num, HB11.out⟩
                  case measure => simp [intOf]; omega
                | false =>
                  cases vb with
                  | true =>
                    clear HX HY M1K
                    go_wp2_with fail
                    refine CA.out.mono ?_
                    rintro en w9 ⟨rfl, hw9⟩
                    subst hw9
                    go_wp2_with fail
                    refine CB.out.mono ?_
                    rintro en w9 ⟨rfl, hw9⟩
                    subst hw9
                    go_wp2_with fail
                    refine CJ.out.mono ?_
                    rintro en w9 ⟨rfl, hw9⟩
                    subst hw9
                    go_wp2_with fail
                    refine CJ.out.mono ?_
                    rintro en w9 ⟨rfl, hw9⟩
                    subst hw9
                    go_wp2
                    go_roundw
                    case rel => exact ⟨k + 1, by omega, by go_num, HB11.out⟩
                    case measure => simp [intOf]; omega
                  | false =>
                    clear HX HY M1K
                    go_wp2_with fail
                    refine CA.out.mono ?_
                    rintro en w9 ⟨rfl, hw9⟩
                    subst hw9
                    go_wp2_with fail
                    refine CB.out.mono ?_
                    rintro en w9 ⟨rfl, hw9⟩
                    subst hw9
                    go_wp2_with fail
                    refine CJ.out.mono ?_
                    rintro en w9 ⟨rfl, hw9⟩
                    subst hw9
                    go_wp2_with fail
                    refine CJ.out.mono ?_
                    rintro en w9 ⟨rfl, hw9⟩
                    subst hw9
                    go_wp2
                    go_roundw
                    case rel => exact ⟨k + 1, by omega, by go_num, HB11.out⟩
                    case measure => simp [intOf]; omega
        · have CV := kept (live_any S g fs A6 _ c6 jj _ (HPk.out _ hbr) rfl HJL.out.1 (HO6.out.next hbr) (by omega))
          rw [MLL.out] at CV
          have HB := kept hbr
          have HO6r := kept (HO6.out.next hbr)
          clear hbr M1 M2 M3 MLL
          go_wp2_with fail
          refine CL.out.mono ?_
          rintro en w7 ⟨rfl, hw7⟩
          subst hw7
          go_wp2_with fail
          refine CV.out.mono ?_
          rintro en w8 ⟨A8, c8, rfl, ho8, -, hb8⟩
          have CE := kept (eq_any _ _ A8 A6 _ _ c8 c6 jj jj _ rfl rfl ho8.rd (HO6r.out.next hb8) (by omega))
          rw [decide_eq_true rfl] at CE
          have HB8 := kept (bnx HBk.out (HB.out.trans (hb8.mono HB.out.size)))
          clear ho8 hb8 CV
          go_wp2_with fail
          refine CE.out.mono ?_
          rintro en w9 ⟨rfl, q, rfl⟩
          go_wp2_with fail
          refine (CW.out _).mono ?_
          rintro en w10 ⟨rfl, hb10⟩
          have HB10 := kept (bnx (HB8.out.trans (below_draw _ _ q)) hb10)
          clear hb10
          go_wp2
          go_ret
          exact ⟨rfl, HB10.out⟩
end Go.Proofs.Ytpckfnafcmifpaa.Past
