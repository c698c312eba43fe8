/- Layer 4: what is called on nil; the law PackNil. -/
import Derived.Test.YtijdkbejlaebhaaPackLaws
namespace Go.Proofs.Ytijdkbejlaebhaa.Pack
open Go.RowKit Go.Proofs.Ytijdkbejlaebhaa.Mem Go.Proofs.Ytijdkbejlaebhaa.Num Go.Proofs.Ytijdkbejlaebhaa.Shift

theorem put_nil (X : Option Addr) (m c : Nat) (w : World) :
    Calls Try.prog 140 #[.pointer none, .slice X m c] w fun e w' => e = .returned (.tuple #[]) ∧ w = w' := by
  go_enter Try.func140, Try.ntmps140
  go_wp2
  go_end0
  exact ⟨rfl, rfl⟩
theorem wnum_nil (v : Nat) (w : World) (hv : v < 18446744073709551616) :
    Calls Try.prog 88 #[.pointer none, .int .u64 (v : Int)] w fun e w' => e = .returned (.tuple #[]) ∧ Below w.heap.size w w' := by
  have C1 := kept (append_any none 0 0 [] v w rfl hv Rd.nil (by simp))
  go_enter Try.func88, Try.ntmps88
  go_wp2_with fail
  refine C1.out.mono ?_
  rintro e w1 ⟨A1, c1, rfl, hown, hc1, hb⟩
  go_wp2_with fail
  refine (put_nil _ _ _ _).mono ?_
  rintro e w' ⟨rfl, rfl⟩
  go_wp2
  go_end0
  exact ⟨rfl, hb⟩
theorem wbyte_nil (x : Nat) (w : World) :
    Calls Try.prog 90 #[.pointer none, .int .u8 (x : Int)] w fun e w' => e = .returned (.tuple #[]) ∧ Below w.heap.size w w' := by
  go_enter Try.func90, Try.ntmps90
  go_wp2_with fail
  refine (put_nil _ _ _ _).mono ?_
  rintro e w' ⟨rfl, rfl⟩
  go_wp2
  go_end0
  exact ⟨rfl, (Below.refl _ _).alloc (Nat.le_refl _) _⟩
theorem wflag_nil (w : World) :
    Calls Try.prog 91 #[.pointer none, .bool true] w fun e w' => e = .returned (.tuple #[]) ∧ Below w.heap.size w w' := by
  go_enter Try.func91, Try.ntmps91
  go_wp2_with fail
  refine (put_nil _ _ _ _).mono ?_
  rintro e w' ⟨rfl, rfl⟩
  go_wp2
  refine bodyPost_ret (results_none rfl _ _ _) rfl ?_
  exact ⟨rfl, (Below.refl _ _).alloc (Nat.le_refl _) _⟩
theorem wtext_nil (s : ByteArray) (w : World) (hs : s.size ≤ 9223372036854775807) :
    Calls Try.prog 93 #[.pointer none, .string s] w fun e w' => e = .returned (.tuple #[]) ∧ Below w.heap.size w w' := by
  have C1 := kept (wnum_nil s.size w (by omega))
  go_enter Try.func93, Try.ntmps93
  go_wp2_with fail
  refine C1.out.mono ?_
  rintro e w1 ⟨rfl, hb1⟩
  obtain ⟨c2, w2, hrun, hr2, hb2, _⟩ := str_bytes w1 s
  have HB := kept (below_next hb1 hb2)
  clear hr2 hb2 hb1
  go_wp2_with fail
  refine (put_nil _ _ _ _).mono ?_
  rintro e w' ⟨rfl, rfl⟩
  go_wp2
  go_end0
  exact ⟨rfl, HB.out⟩
theorem wbytes_nil (w : World) :
    Calls Try.prog 96 #[.pointer none] w fun e w' => e = .returned (.slice none 0 0) ∧ w = w' := by
  go_enter Try.func96, Try.ntmps96
  go_wp2
  go_ret
  exact ⟨rfl, rfl⟩
theorem err_nil (w : World) :
    Calls Try.prog 86 #[.pointer none] w fun e w' => e = .returned (.int .i64 1) ∧ w = w' := by
  go_enter Try.func86, Try.ntmps86
  go_wp2
  go_ret
  exact ⟨rfl, rfl⟩
theorem left_nil (w : World) :
    Calls Try.prog 84 #[.pointer none] w fun e w' => e = .returned (.int .i64 0) ∧ w = w' := by
  go_enter Try.func84, Try.ntmps84
  go_wp2
  go_ret
  exact ⟨rfl, rfl⟩
theorem fail_nil (w : World) :
    Calls Try.prog 80 #[.pointer none, .int .i64 4] w fun e w' => e = .returned (.tuple #[]) ∧ w = w' := by
  go_enter Try.func80, Try.ntmps80
  go_wp2
  go_end0
  exact ⟨rfl, rfl⟩
theorem num_nil (w : World) :
    Calls Try.prog 70 #[.pointer none] w fun e w' => e = .returned (.int .u64 0) ∧ w = w' := by
  go_enter Try.func70, Try.ntmps70
  go_wp2_with fail
  refine (err_nil _).mono ?_
  rintro e w' ⟨rfl, rfl⟩
  go_wp2
  go_ret
  exact ⟨rfl, rfl⟩
theorem upto_nil (v : Nat) (w : World) :
    Calls Try.prog 72 #[.pointer none, .int .u64 (v : Int)] w fun e w' => e = .returned (.int .u64 0) ∧ w = w' := by
  go_enter Try.func72, Try.ntmps72
  go_wp2_with fail
  refine (num_nil _).mono ?_
  rintro e w' ⟨rfl, rfl⟩
  go_wp2
  go_ret
  exact ⟨rfl, rfl⟩
theorem byte_nil (w : World) :
    Calls Try.prog 74 #[.pointer none] w fun e w' => e = .returned (.int .u8 0) ∧ w = w' := by
  go_enter Try.func74, Try.ntmps74
  go_wp2_with fail
  refine (err_nil _).mono ?_
  rintro e w' ⟨rfl, rfl⟩
  go_wp2
  go_ret
  exact ⟨rfl, rfl⟩
theorem flag_nil (w : World) :
    Calls Try.prog 76 #[.pointer none] w fun e w' => e = .returned (.bool false) ∧ w = w' := by
  go_enter Try.func76, Try.ntmps76
  go_wp2_with fail
  refine (byte_nil _).mono ?_
  rintro e w' ⟨rfl, rfl⟩
  go_wp2
  go_ret
  exact ⟨rfl, rfl⟩
theorem text_nil (w : World) :
    Calls Try.prog 78 #[.pointer none, .int .i64 5] w fun e w' => e = .returned (.string ⟨#[]⟩) ∧ w = w' := by
  go_enter Try.func78, Try.ntmps78
  go_wp2_with fail
  refine (num_nil _).mono ?_
  rintro e w' ⟨rfl, rfl⟩
  go_wp2_with fail
  refine (err_nil _).mono ?_
  rintro e w' ⟨rfl, rfl⟩
  go_wp2
  go_ret
  exact ⟨rfl, rfl⟩
theorem end_nil (w : World) :
    Calls Try.prog 82 #[.pointer none] w fun e w' => e = .returned (.int .i64 1) ∧ w = w' := by
  go_enter Try.func82, Try.ntmps82
  go_wp2_with fail
  refine (left_nil _).mono ?_
  rintro e w' ⟨rfl, rfl⟩
  go_wp2_with fail
  refine (err_nil _).mono ?_
  rintro e w' ⟨rfl, rfl⟩
  go_wp2
  go_ret
  exact ⟨rfl, rfl⟩
theorem wrap8 (x : Nat) : ∃ y : Nat, y < 256 ∧ IntKind.u8.wrap ((x : Int) + 1) = (y : Int) := by
  refine ⟨(x + 1) % 256, Nat.mod_lt _ (by decide), ?_⟩
  rw [IntKind.wrap_u8]; omega
theorem BB_set (l : List Nat) (k x : Nat) : (BB l).set k (.int .u8 (x : Int)) = BB (l.set k x) := by
  unfold BB
  rw [List.map_set]
set_option maxRecDepth 100000 in
set_option maxHeartbeats 4000000 in
theorem nil_law (s : ByteArray) (v : Nat) (w : World) (hs : s.size ≤ 9223372036854775807) (hv : v < 18446744073709551616) :
    Calls Try.prog 14 #[.string s, .int .u64 (v : Int)] w fun e w' => e = .returned (.bool true) ∧ Below w.heap.size w w' := by
  have hl8 := lenB_le v
  have hnl := numB_length v
  go_enter Try.func14, Try.ntmps14
  go_wp2_with fail
  refine (wnum_nil v _ hv).mono ?_
  rintro e w1 ⟨rfl, hb1⟩
  go_wp2_with fail
  refine (wbyte_nil 1 _).mono ?_
  rintro e w2 ⟨rfl, hb2⟩
  have hb2 := below_next hb1 hb2
  go_wp2_with fail
  refine (wflag_nil _).mono ?_
  rintro e w3 ⟨rfl, hb3⟩
  have hb3 := below_next hb2 hb3
  go_wp2_with fail
  refine (wtext_nil s _ hs).mono ?_
  rintro e w4 ⟨rfl, hb4⟩
  have hb4 := below_next hb3 hb4
  clear hb1 hb2 hb3
  go_wp2_with fail
  refine (fail_nil _).mono ?_
  rintro e w' ⟨rfl, rfl⟩
  go_wp2_with fail
  refine (wbytes_nil _).mono ?_
  rintro e w' ⟨rfl, rfl⟩
  go_wp2_with fail
  refine (num_nil _).mono ?_
  rintro e w' ⟨rfl, rfl⟩
  go_wp2_with fail
  refine (upto_nil v _).mono ?_
  rintro e w' ⟨rfl, rfl⟩
  go_wp2_with fail
  refine (byte_nil _).mono ?_
  rintro e w' ⟨rfl, rfl⟩
  go_wp2_with fail
  refine (flag_nil _).mono ?_
  rintro e w' ⟨rfl, rfl⟩
  go_wp2_with fail
  refine (text_nil _).mono ?_
  rintro e w' ⟨rfl, rfl⟩
  go_wp2_with fail
  refine (left_nil _).mono ?_
  rintro e w' ⟨rfl, rfl⟩
  go_wp2_with fail
  refine (err_nil _).mono ?_
  rintro e w' ⟨rfl, rfl⟩
  go_wp2_with fail
  refine (end_nil _).mono ?_
  rintro e w' ⟨rfl, rfl⟩
  have kp := Blk.new w4 [.slice none 0 0, .int .i64 0] 129
  have hp : Rdr (w4.alloc (.cells #[.slice none 0 0, .int .i64 0] 129)) (fun k => k = w4.heap.size) w4.heap.size ⟨[], 0⟩ :=
    ⟨RS.new nil_all (by simp), rfl, fun k hk => by subst hk; simp, none, 0, kp, Rd.nil, by simp, by simp, fun x hx => by cases hx⟩
  have hb5 := below_new hb4 (.cells #[.slice none 0 0, .int .i64 0] 129)
  have hs5 := hb4.size
  clear hb4 kp
  go_wp2_with fail
  refine (left_any _ _ _ _ hp).mono ?_
  rintro e w' ⟨rfl, rfl⟩
  go_wp2_with fail
  refine (end_any _ _ _ _ hp).mono ?_
  rintro e w6 ⟨rfl, hp6, hu6⟩
  have hb6 := hb5.trans (hu6.below hb5.size (fun i _ e => by omega))
  rw [show (RS.endR ⟨[], 0⟩).bad = 0 from rfl]
  rw [show RS.endR ⟨[], 0⟩ = ⟨[], 0⟩ from rfl] at hp6
  clear hp hb5 hu6
  go_wp2_with fail
  refine (byte_any _ _ _ _ hp6).mono ?_
  rintro e w7 ⟨rfl, hp7, hu7⟩
  have hb7 := hb6.trans (hu7.below hb6.size (fun i _ e => by omega))
  rw [show (RS.byteV ⟨[], 0⟩) = 0 from rfl]
  rw [show RS.byteR ⟨[], 0⟩ = ⟨[], 2⟩ from rfl] at hp7
  clear hp6 hb6 hu7
  go_wp2_with fail
  refine (rerr_any _ _ _ _ hp7).mono ?_
  rintro e w' ⟨rfl, rfl⟩
  have h8 := Wtr.new w7
  have hb8 := below_new hb7 (.cells #[.slice none 0 0] 106)
  have hs8 := hb7.size
  clear hp7 hb7 hs5
  go_wp2_with fail
  refine (wnum_any _ _ _ v _ h8 hv (by simp)).mono ?_
  rintro e w9 ⟨rfl, S9, h9, hg9⟩
  rw [List.nil_append] at h9
  have hb9 : Below w.heap.size w w9 := hb8.trans (hg9.below hb8.size (fun i hi => by omega))
  clear h8 hb8 hg9
  go_wp2_with fail
  refine (wbytes_any _ _ _ _ h9 (by omega)).mono ?_
  rintro e w10 ⟨A, c, rfl, own, hc10, hb10⟩
  have h10 := h9.next hb10
  have hS := h9.under
  have hb11 := below_next hb9 hb10
  have hall := numB_all v
  have hsz := hb10.size
  generalize hnb : numB v = nb at *
  have HNB := kept hnb
  clear hnb
  obtain ⟨B0, hB0⟩ : ∃ B0, w9.heap.size = B0 := ⟨_, rfl⟩
  rw [hB0] at own hS hsz
  have hbB : w.heap.size ≤ B0 := by rw [← hB0]; exact hb9.size
  have HNL := kept hnl
  have HA := kept hall
  have h64 : nb.length ≤ 9 := by omega
  clear hb10 hb9 h9 hB0 hnl hall
  obtain ⟨N, hN⟩ : ∃ N, nb.length = N := ⟨_, rfl⟩
  rw [hN] at own hc10 h64
  rw [hN]
  have HN := kept hN
  clear hN
  go_wp2_with fail
  go_loopw [86] (fun i wr => ∃ (k : Nat) (r : List Nat), k ≤ N ∧ i = .int .i64 (k : Int) ∧ r.length = N ∧ AllB r ∧ Own wr B0 5 (.slice A N c) (BB r) ∧ Wtr wr S9 w7.heap.size nb ∧ Below w.heap.size w wr) (fun i _ => N - (intOf i).toNat)
  case atStart => exact ⟨0, nb, Nat.zero_le _, rfl, HN.out, HA.out, own, h10, hb11⟩
  case round =>
    obtain ⟨k, r, hk, rfl, hrl, hra, hown, hw, hb⟩ := hrel
    by_cases hlt : k < N
    · have hx := hra (r.getD k 0) (by have : r.getD k 0 = r[k] := by simp [List.getD, show k < r.length by omega]
                                      rw [this]; exact List.getElem_mem _)
      obtain ⟨g, hA, hg1, hg2, hcell, hfr, hst⟩ := hown.spot (BB_get r k (by omega))
      obtain rfl := hA
      obtain ⟨y, hy, hwr⟩ := wrap8 (r.getD k 0)
      obtain ⟨s1, s2⟩ := hst (.int .u8 (y : Int))
      rw [BB_set] at s1
      have hu : Upd (fun k => B0 ≤ k) wr (wr.setCell ⟨g, k, none⟩ (.int .u8 (y : Int))) := (Upd.refl (fun k => B0 ≤ k) wr).setCell (p := ⟨g, k, none⟩) (.inl hg1) _
      have hw2 := hw.upd hu (fun i hi => by have := hS i hi; show ¬ B0 ≤ i; omega)
      have hb2 := hb.setCell (p := ⟨g, k, none⟩) (show w.heap.size ≤ g by omega) (.int .u8 (y : Int))
      have hal : AllB (r.set k y) := fun z hz => by
        rcases List.mem_or_eq_of_mem_set hz with h | h
        · exact hra z h
        · rw [h]; exact hy
      have HF := kept (show ∃ r' : List Nat, r'.length = N ∧ AllB r' ∧ Own (wr.setCell ⟨g, k, none⟩ (.int .u8 (y : Int))) B0 5 (.slice (some ⟨g, 0, none⟩) N c) (BB r') ∧ Wtr (wr.setCell ⟨g, k, none⟩ (.int .u8 (y : Int))) S9 w7.heap.size nb ∧ Below w.heap.size w (wr.setCell ⟨g, k, none⟩ (.int .u8 (y : Int))) from ⟨_, by rw [List.length_set]; exact hrl, hal, s1, hw2, hb2⟩)
      generalize r.getD k 0 = x at *
      clear s1 s2 hu hw2 hb2 hal hst hown hw hra hrl
      go_wp2
      go_roundw
      case rel =>
        obtain ⟨r', q1, q2, q3, q4, q5⟩ := HF.out
        exact ⟨k + 1, r', by omega, by go_num, q1, q2, q3, q4, q5⟩
      case measure => simp [intOf]; omega
    · clear hown hra
      go_wp2_with fail
      refine (wbytes_any _ _ _ _ hw (by have := HN.out; omega)).mono ?_
      rintro e w11 ⟨A2, c2, rfl, own2, hc2, hb2⟩
      have hb12 := below_next hb hb2
      go_wp2_with fail
      refine (rappend_any none 0 0 [] v _ rfl hv Rd.nil (by simp)).mono ?_
      rintro e w12 ⟨A3, c3, rfl, own3, hc3, hb3⟩
      have hb13 := below_next hb12 hb3
      rw [List.nil_append, HNB.out] at own3
      have r2 := own2.rd.next hb3
      have r3 := own3.rd
      have C9 := kept (equal_any w12 _ _ A2 A3 nb.length nb.length c2 c3 nb nb rfl rfl HA.out HA.out r2 r3)
      rw [decide_eq_true rfl] at C9
      rw [List.nil_append, HNB.out]
      clear r2 r3 own2 own3 hb2 hb3 hw hb hb12
      go_wp2_with fail
      refine C9.out.mono ?_
      rintro e w' ⟨rfl, rfl⟩
      go_wp2_with fail
      refine (works_any _).mono ?_
      rintro e w13 ⟨rfl, hb4⟩
      go_wp2
      go_ret
      exact ⟨rfl, below_next hb13 hb4⟩
end Go.Proofs.Ytijdkbejlaebhaa.Pack
