/- Layer 24 (journal): the chapter's example. -/
import Derived.Test.YtdlghabpnpbebaaDoorJrnOpenB
import Derived.Test.YtdlghabpnpbebaaDoorJrnGood
import Derived.Test.YtdlghabpnpbebaaDoorWalSame
import Derived.Lib.SlBytesConst
namespace Go.Proofs.YtdlghabpnpbebaaDoor.Jrn
open Go.RowKit Go.Proofs.YtdlghabpnpbebaaDoor.Mem Go.Proofs.YtdlghabpnpbebaaDoor.Num Go.Proofs.YtdlghabpnpbebaaDoor.Wal Go.Proofs.YtdlghabpnpbebaaDoor.Disk Go.Proofs.YtdlghabpnpbebaaDoor.Crc

/-- a journal all of whose memory is new since w0 -/
def JW (w0 w : World) (S : Nat → Prop) (g gj : Nat) (j : JS) : Prop := JrnAt w S g gj j ∧ Below w0.heap.size w0 w ∧ ∀ k, JG S gj k → w0.heap.size ≤ k
theorem JW.step {w0 w w' : World} {S S' : Nat → Prop} {g gj : Nat} {j j' : JS} (h : JW w0 w S g gj j) (hJ : JrnAt w' S' g gj j') (hG : Goes (JG S gj) w (JG S' gj) w') : JW w0 w' S' g gj j' :=
  ⟨hJ, h.2.1.trans (hG.below h.2.1.size h.2.2), hG.base h.2.1.size h.2.2⟩
theorem JW.next {w0 w w' : World} {S : Nat → Prop} {g gj : Nat} {j : JS} (h : JW w0 w S g gj j) (hb : Below w.heap.size w w') : JW w0 w' S g gj j := h.step (h.1.next hb) (goes_below hb)
theorem JW.tab {w0 w : World} {S : Nat → Prop} {g gj : Nat} {j : JS} (h : JW w0 w S g gj j) (hT : Tab w0) : Tab w := hT.next h.2.1
/-! the example's journal, call by call -/
def j1 : JS := (openM (newD 1000)).1
def j2 : JS := (addM j1 [97]).1
def j3 : JS := (ckM j2 [115]).1
def j4 : JS := (addM j3 [98]).1
theorem hd_le (g : Nat) (s : List Nat) : (headN g s).length ≤ s.length + 22 := by
  unfold headN
  have := recB_le (numB g ++ s)
  have h2 := numB_length g
  have h3 := Shift.lenB_le g
  rw [List.length_append] at this
  omega
theorem jb_le (g : Nat) (s : List Nat) (r : List (List Nat)) : (JB g s r).length ≤ s.length + 22 + (recsB r).length := by
  have := hd_le g s
  unfold JB
  rw [List.length_append]
  omega
theorem ex_all : (openM (newD 1000)).2 = 0 ∧ (addM j1 [97]).2 = 0 ∧ (ckM j2 [115]).2 = 0 ∧ (addM j3 [98]).2 = 0 ∧ (openM j4.d).2 = 0 ∧ (openM j4.d).1.gen = 2 ∧ (pick j4.d).2.snap = [115] ∧ (pick j4.d).2.recs = [[98]] ∧ (pick (newD 1000)).2 = zeroF := by
  have hr : roomN 1000 = 1000 := by decide
  have h1l := hd_le 1 []
  simp only [List.length_nil] at h1l
  have hn : (headN 1 []).length ≤ roomN 1000 := by omega
  obtain ⟨g1, c1, e1, n1, m1⟩ := first_good hn
  have p1 := (open_first hn).2.2.2.1
  have b1 := jb_le j1.gen [] []
  have q1 := recB_le [97]
  simp only [List.length_nil, List.length_cons, recsB, List.flatMap_nil] at b1 q1
  have s2 := add_steps (j := j1) g1 [97] (by show _ ≤ (openM (newD 1000)).1.d.room; omega) (by show (openM (newD 1000)).1.d.room ≤ _; omega)
  obtain ⟨e2, c2, g2, n2⟩ := s2.calm' c1
  have m2 : j2.d.room = 1000 := s2.room.trans (m1.trans hr)
  have n2' : j2.gen = 1 := n2.trans n1
  have b2 := jb_le j2.gen [] ([] ++ [[97]])
  have q2 := hd_le (j2.gen + 1) [115]
  simp only [List.length_nil, List.length_cons, recsB, List.flatMap_nil, List.nil_append, List.flatMap_cons, List.length_append] at b2 q2
  have s3 := ck_steps (j := j2) g2 [115] (by rw [n2']; decide) (by simp only [List.nil_append]; omega) (by omega)
  obtain ⟨e3, c3, g3, n3⟩ := s3.calm' c2
  have m3 : j3.d.room = 1000 := s3.room.trans m2
  have n3' : j3.gen = 2 := n3.trans (by rw [n2'])
  have b3 := jb_le j3.gen [115] []
  have q3 := recB_le [98]
  simp only [List.length_nil, List.length_cons, recsB, List.flatMap_nil] at b3 q3
  have s4 := add_steps (j := j3) g3 [98] (by omega) (by omega)
  obtain ⟨e4, c4, g4, n4⟩ := s4.calm' c3
  have n4' : j4.gen = 2 := n4.trans n3'
  have b4 := jb_le j4.gen [115] ([] ++ [[98]])
  simp only [List.length_nil, List.length_cons, recsB, List.flatMap_nil, List.nil_append, List.flatMap_cons, List.length_append] at b4
  have g4' : Good j4 [115] [[98]] := g4
  have o5 := open_same (d := j4.d) ⟨g4'.pos, g4'.lt⟩ (by omega) g4'.has
  refine ⟨e1, e2, e3, e4, ?_, ?_, ?_, ?_, ?_⟩
  · rw [o5.1]
  · rw [o5.1]; exact n4'
  · rw [o5.2]
  · rw [o5.2]
  · rw [p1]
theorem one_all {a : Nat} (ha : a < 256) : AllB [a] := fun x hx => by rcases List.mem_singleton.1 hx with rfl; exact ha
theorem add_lit {w0 w : World} {S : Nat → Prop} {g gj : Nat} {j : JS} (h : JW w0 w S g gj j) (hT : Tab w0) {a : Nat} (ha : a < 256) (fr : Nat × Nat) :
    Calls Tryd.prog 11 #[.pointer (some ⟨gj, 0, none⟩), .slice (some ⟨w.heap.size, 0, none⟩) 1 1] (w.alloc (.cells #[.int .u8 (a : Int)] 5 fr)) fun e w' => e = .returned (.int .i64 ((addM j [a]).2 : Int)) ∧ ∃ S', JW w0 w' S' g gj (addM j [a]).1 := by
  have hB : Below w.heap.size w (w.alloc (.cells #[.int .u8 (a : Int)] 5 fr)) := (Below.refl _ _).alloc (Nat.le_refl _) _
  have h' := h.next hB
  refine (add_any S g gj j _ 1 1 [a] _ rfl (h'.tab hT) h'.1 (one_all ha) ((Rd.marked w [.int .u8 (a : Int)] 5 fr).more (by simp)) (by simp)).mono ?_
  rintro e w' ⟨he, S', hJ, hG⟩
  exact ⟨he, S', h'.step hJ hG⟩
theorem ck_lit {w0 w : World} {S : Nat → Prop} {g gj : Nat} {j : JS} (h : JW w0 w S g gj j) (hT : Tab w0) {a : Nat} (ha : a < 256) (fr : Nat × Nat) :
    Calls Tryd.prog 12 #[.pointer (some ⟨gj, 0, none⟩), .slice (some ⟨w.heap.size, 0, none⟩) 1 1] (w.alloc (.cells #[.int .u8 (a : Int)] 5 fr)) fun e w' => e = .returned (.int .i64 ((ckM j [a]).2 : Int)) ∧ ∃ S', JW w0 w' S' g gj (ckM j [a]).1 := by
  have hB : Below w.heap.size w (w.alloc (.cells #[.int .u8 (a : Int)] 5 fr)) := (Below.refl _ _).alloc (Nat.le_refl _) _
  have h' := h.next hB
  have h4 : 0 < w0.heap.size := hT.1
  refine (ck_any S g gj j _ 1 1 [a] _ rfl (h'.tab hT) h'.1 (one_all ha) w0.heap.size h'.2.1.size (fun k hk => h'.2.2 k (.inl hk)) h4 ((Rd.marked w [.int .u8 (a : Int)] 5 fr).more (by simp)) ?_ (by simp)).mono ?_
  · intro x hx _ hs
    obtain rfl := Option.some.inj hx
    have := h.1.1.2.2.1 _ hs
    simp at this
  rintro e w' ⟨he, S', hJ, hG⟩
  exact ⟨he, S', h'.step hJ hG⟩
set_option maxHeartbeats 2000000 in
set_option maxRecDepth 100000 in
theorem works_any (w : World) (hT : Tab w) : Calls Tryd.prog 15 #[] w fun e w' => e = .returned (.bool true) ∧ Below w.heap.size w w' := by
  have kc := fun (w : World) (C : Array Value) (n c : Nat) => Lib.run_convert_bytes_const (P := Tryd.prog) w 22 5 C n c Tryd.underlying22 Tryd.underlying5
  have HX := kept ex_all
  have C1 := kept (new_any 1000 w)
  go_enter Tryd.func15, Tryd.ntmps15
  go_wp2_with fail
  refine C1.out.mono ?_
  rintro e w1 ⟨rfl, hd, hb⟩
  have HB1 := kept hb
  have C2 := kept (open_any _ _ _ w1 hd (hT.next hb) w.heap.size hb.size (fun k hk => by omega) hT.1)
  clear hb hd C1
  go_wp2_with fail
  refine C2.out.mono ?_
  rintro e w2 ⟨S2, hG2, -, ⟨-, gj, A2, c2, X2, cX2, ps2, rfl, hgj, hJ2, hbo2, hF2, hc2⟩ | ⟨he, -⟩⟩
  case inr => exact absurd HX.out.1 he
  rw [HX.out.2.2.2.2.2.2.2.2] at hbo2
  obtain rfl : ps2 = [] := List.map_eq_nil_iff.1 hbo2
  have hsn : (pick (newD 1000)).2.snap.length = 0 := by rw [HX.out.2.2.2.2.2.2.2.2]; rfl
  rw [hsn]
  have J2 : JW w w2 S2 w.heap.size gj j1 := ⟨hJ2, HB1.out.trans (hG2.below HB1.out.size (fun k hk => by omega)), fun k hk => hk.elim (fun h => (hG2.base HB1.out.size (fun k hk => by omega)) k h) (fun e => by have := HB1.out.size; omega)⟩
  have hwr : w.heap.size ≤ w2.heap.size := J2.2.1.size
  have C3 := kept (add_lit J2 hT (a := 97) (by decide) (1, 2))
  clear hG2 hgj hJ2 hbo2 hF2 hc2 C2 hsn
  go_wp2_with fail
  refine C3.out.mono ?_
  rintro e w3 ⟨rfl, S3, J3⟩
  rw [show (addM j1 [97]).2 = 0 from HX.out.2.1]
  have C4 := kept (ck_lit (j := j2) J3 hT (a := 115) (by decide) (1, 2))
  clear J2 J3 C3
  go_wp2_with fail
  refine C4.out.mono ?_
  rintro e w4 ⟨rfl, S4, J4⟩
  rw [show (ckM j2 [115]).2 = 0 from HX.out.2.2.1]
  have C5 := kept (add_lit (j := j3) J4 hT (a := 98) (by decide) (1, 2))
  clear J4 C4
  go_wp2_with fail
  refine C5.out.mono ?_
  rintro e w5 ⟨rfl, S5, J5⟩
  rw [show (addM j3 [98]).2 = 0 from HX.out.2.2.2.1]
  have h4 : 0 < w.heap.size := hT.1
  have C6 := kept (open_any S5 w.heap.size j4.d w5 J5.1.1 (J5.tab hT) w.heap.size J5.2.1.size (fun k hk => J5.2.2 k (.inl hk)) h4)
  have HB5 := kept J5.2.1
  have HS5 := kept (fun k hk => J5.2.2 k (.inl hk))
  clear J5 C5 h4
  go_wp2_with fail
  refine C6.out.mono ?_
  rintro e w6 ⟨S6, hG6, -, ⟨-, gj6, A6, c6, X6, cX6, ps6, rfl, hgj6, hJ6, hbo6, hF6, hc6⟩ | ⟨he, -⟩⟩
  case inr => exact absurd HX.out.2.2.2.2.1 he
  have hsn : (pick j4.d).2.snap.length = 1 := by rw [HX.out.2.2.2.2.2.2.1]; rfl
  rw [hsn]
  have hb6 : Below w.heap.size w w6 := HB5.out.trans (hG6.below HB5.out.size HS5.out)
  have hrd := hF6.1
  rw [HX.out.2.2.2.2.2.2.1] at hrd
  have hrs := run_str w6 _ A6 1 c6 [115] rfl hrd
  have hst : strB [115] = ⟨#[115]⟩ := rfl
  rw [hst] at hrs
  have hbo : bodies ps6 = [[98]] := hbo6.trans HX.out.2.2.2.2.2.2.2.1
  have hn6 : ps6.length = 1 := by have := congrArg List.length hbo; simpa [bodies] using this
  rw [hn6]
  have hba : Below w6.heap.size w6 (w6.alloc (.cells #[.int .u8 98] 5 (1, 2))) := (Below.refl _ _).alloc (Nat.le_refl _) _
  have hbb : Below w6.heap.size w6 ((w6.alloc (.cells #[.int .u8 98] 5 (1, 2))).alloc (.cells #[.slice (some ⟨w6.heap.size, 0, none⟩) 1 1] 22)) := hba.alloc (by simp) _
  have hrY : RdParts ((w6.alloc (.cells #[.int .u8 98] 5 (1, 2))).alloc (.cells #[.slice (some ⟨w6.heap.size, 0, none⟩) 1 1] 22)) ((w6.alloc (.cells #[.int .u8 98] 5 (1, 2))).alloc (.cells #[.slice (some ⟨w6.heap.size, 0, none⟩) 1 1] 22)).heap.size (some ⟨w6.heap.size + 1, 0, none⟩) [⟨some ⟨w6.heap.size, 0, none⟩, [98], 1⟩] := by
    refine ⟨Rd.newAt _ [.slice (some ⟨w6.heap.size, 0, none⟩) 1 1] 22 (by simp) (by simp), ?_⟩
    intro p hp
    obtain rfl := List.mem_singleton.1 hp
    exact ⟨Rd.next (w := w6.alloc (.cells #[.int .u8 98] 5 (1, 2))) ((Rd.marked w6 [.int .u8 98] 5 (1, 2)).more (by simp)) ((Below.refl _ _).alloc (Nat.le_refl _) _), one_all (by decide), (by show (1 : Nat) ≤ _; omega)⟩
  have C7 := kept (rsame_any X6 (some ⟨w6.heap.size + 1, 0, none⟩) 1 1 cX6 1 ps6 [⟨some ⟨w6.heap.size, 0, none⟩, [98], 1⟩] _ hn6.symm rfl (hF6.2.1.next hbb) hrY (by omega) (by show (1 : Nat) ≤ _; omega))
  have hdec : decide (bodies ps6 = bodies [(⟨some ⟨w6.heap.size, 0, none⟩, [98], 1⟩ : Part)]) = true := by rw [hbo]; rfl
  rw [hdec] at C7
  have CG := kept (fun (W : World) (hb : Below w6.heap.size w6 W) => gen_any S6 w.heap.size gj6 (openM j4.d).1 W (hJ6.next hb))
  rw [HX.out.2.2.2.2.2.1] at CG
  have HBF := kept (And.intro hb6 hbb)
  clear hF6 hrd hst hbo6 hbo hba hbb hrY hJ6 hG6 hgj6 hc6 hsn hb6 hdec hn6
  go_wp2_with fail
  refine C7.out.mono ?_
  rintro e w7 ⟨rfl, q, rfl⟩
  have hbq : Below w6.heap.size w6 (((w6.alloc (.cells #[.int .u8 98] 5 (1, 2))).alloc (.cells #[.slice (some ⟨w6.heap.size, 0, none⟩) 1 1] 22)).drewN q) := HBF.out.2.trans ⟨rfl, rfl, rfl, Nat.le_refl _, fun _ _ => rfl⟩
  have CG1 := kept (CG.out _ hbq)
  have HE := kept (HBF.out.1.trans (hbq.mono HBF.out.1.size))
  clear C7 CG hbq
  go_wp2_with fail
  refine CG1.out.mono ?_
  rintro e w8 ⟨rfl, rfl⟩
  go_wp2_with fail
  go_ret
  exact ⟨rfl, HE.out⟩
end Go.Proofs.YtdlghabpnpbebaaDoor.Jrn
