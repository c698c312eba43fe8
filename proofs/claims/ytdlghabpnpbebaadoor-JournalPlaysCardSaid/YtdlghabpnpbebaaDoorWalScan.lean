/- Layer 23 (wal): the walk of wal.Scan. -/
import Derived.Test.YtdlghabpnpbebaaDoorWalOne
import Derived.Test.YtdlghabpnpbebaaDoorParts
namespace Go.Proofs.YtdlghabpnpbebaaDoor.Wal
open Go.RowKit Go.Proofs.YtdlghabpnpbebaaDoor.Mem Go.Proofs.YtdlghabpnpbebaaDoor.Num Go.Proofs.YtdlghabpnpbebaaDoor.Crc Go.Proofs.YtdlghabpnpbebaaDoor.Shift

def bodies (ps : List Part) : List (List Nat) := ps.map Part.l
/-- a scan gives records of its own, and where they end -/
def ScanG (w : World) (b : List Nat) (en : Ending) (w' : World) : Prop :=
  ∃ X c ps e, en = .returned (.tuple #[.slice X (List.length ps) c, .int .i64 ((e : Nat) : Int)]) ∧ Scans b (bodies ps) e ∧ OwnParts w' w.heap.size X c ps ∧ Below w.heap.size w w'
theorem scans_here {b : List Nat} {l : List (List Nat)} {e : Nat} (h : b = recsB l ++ b.drop e) (he : e ≤ b.length) (hn : oneM (b.drop e) = none) : Scans b l e := by
  refine ⟨b.drop e, h, ?_, hn⟩
  have := congrArg List.length h
  rw [List.length_append, List.length_drop] at this
  omega
theorem scans_step {b r : List Nat} {l : List (List Nat)} {e : Nat} (h : b = recsB l ++ b.drop e) (h1 : oneM (b.drop e) = some r) : b = recsB (l ++ [r]) ++ b.drop (e + (recB r).length) ∧ e + (recB r).length ≤ b.length := by
  obtain ⟨t, ht⟩ := one_some h1
  have hd : b.drop (e + (recB r).length) = t := by rw [← List.drop_drop, ← ht, List.drop_left]
  rw [hd, recsB_snoc, List.append_assoc, ht]
  refine ⟨h, ?_⟩
  have := congrArg List.length ht
  rw [List.length_append, List.length_drop] at this
  have := recB_ge r
  omega
theorem recs_count {b : List Nat} {l : List (List Nat)} {e : Nat} (h : b = recsB l ++ b.drop e) (_ : e ≤ b.length) : l.length * 5 ≤ b.length := by
  have h1 := congrArg List.length h
  rw [List.length_append] at h1
  have : l.length * 5 ≤ (recsB l).length := by
    clear h h1
    unfold recsB
    induction l with
    | nil => simp
    | cons r l ih =>
      have := recB_ge r
      rw [List.flatMap_cons, List.length_append, List.length_cons]
      omega
  omega
set_option maxRecDepth 100000 in
set_option maxHeartbeats 2000000 in
theorem scan_any (A : Option Addr) (n c : Nat) (l : List Nat) (w : World) (hn : n = l.length) (hT : Tab w) (hl : AllB l) (hle : l.length ≤ c) (hc : c ≤ 9223372036854775807) (hr : Rd w w.heap.size A (BB l)) (hsz : l.length ≤ 17592186044000) :
    Calls Tryd.prog 60 #[.slice A n c] w (ScanG w l) := by
  subst hn
  have HT := kept (fun (W : World) (h : Below w.heap.size w W) => hT.next h)
  have HR := kept (fun (W : World) (h : Below w.heap.size w W) => hr.next h)
  clear hT hr
  go_enter Tryd.func60, Tryd.ntmps60
  go_wp2
  go_loopw [4, 5] (fun v i wr => ∃ (X : Option Addr) (cc : Nat) (ps : List Part) (e : Nat), v = .slice X ps.length cc ∧ i = .int .i64 (e : Int) ∧ e ≤ l.length ∧ Kept (l = recsB (bodies ps) ++ l.drop e) ∧ OwnParts wr w.heap.size X cc ps ∧ Below w.heap.size w wr) (fun _ i _ => l.length - (intOf i).toNat)
  case atStart => exact ⟨none, 0, [], 0, rfl, rfl, Nat.zero_le _, ⟨by simp [bodies, recsB]⟩, OwnParts.nil _ _, Below.refl _ _⟩
  case round =>
    obtain ⟨X, cc, ps, e, rfl, rfl, he, hE, hown, hb⟩ := hrel
    have hrd := (HR.out wr hb).drop e c l.length he hle (BB_length l)
    rw [BB_drop] at hrd
    have hld : (l.drop e).length = l.length - e := List.length_drop
    have hald : AllB (l.drop e) := fun x hx => hl x (List.mem_of_mem_drop hx)
    have C := kept (one_any (if c = e then A else A.map (·.add e)) (l.drop e).length (c - e) (l.drop e) wr rfl (HT.out wr hb) hald (by omega) (by omega) hrd (by omega))
    rw [hld] at C
    have hlen8 : ps.length * 5 ≤ l.length := by have := recs_count hE.out he; unfold bodies at this; rwa [List.length_map] at this
    have HO := kept hown
    have HB := kept hb
    have HLD := kept hld
    have HHE := kept he
    clear hrd hld hown hb
    by_cases hce : c = e
    · have hnone : oneM (l.drop e) = none := by rw [List.drop_eq_nil_of_le (by omega)]; exact one_nil
      rw [if_pos hce, hnone] at C
      have HS := kept (scans_here hE.out he hnone)
      clear hnone hE
      subst hce
      rw [Nat.sub_self, show l.length - c = 0 from by omega] at C
      go_wp2_with fail
      with_reducible refine C.out.mono ?_
      rintro e w2 ⟨h1, _⟩
      obtain ⟨rfl, hb2⟩ := h1 rfl
      have HF := kept (And.intro (HO.out.next hb2) (HB.out.trans (hb2.mono HB.out.size)))
      clear h1 hb2
      go_wp2
      go_ret2
      exact ⟨X, cc, ps, _, rfl, HS.out, HF.out.1, HF.out.2⟩
    · rw [if_neg hce] at C
      rcases hone : oneM (l.drop e) with _ | r
      · rw [hone] at C
        have HS := kept (scans_here hE.out he hone)
        clear hone hE
        go_wp2_with fail
        with_reducible refine C.out.mono ?_
        rintro e w2 ⟨h1, _⟩
        obtain ⟨rfl, hb2⟩ := h1 rfl
        have HF := kept (And.intro (HO.out.next hb2) (HB.out.trans (hb2.mono HB.out.size)))
        clear h1 hb2
        go_wp2
        go_ret2
        exact ⟨X, cc, ps, _, rfl, HS.out, HF.out.1, HF.out.2⟩
      · rw [hone] at C
        obtain ⟨hst, hst2⟩ := scans_step hE.out hone
        have hr5 := recB_ge r
        have hra : AllB r := by
          obtain ⟨t, ht⟩ := one_some hone
          exact fun x hx => hald x (by rw [← ht]; exact List.mem_append_left _ (List.mem_append_left _ (List.mem_append_right _ hx)))
        have HST := kept hst
        clear hone hE hst hald
        go_wp2_with fail
        with_reducible refine C.out.mono ?_
        rintro e w2 ⟨_, h2⟩
        obtain ⟨A2, c2, rfl, hown2, hb2⟩ := h2 r rfl
        have hb3 := HB.out.trans (hb2.mono HB.out.size)
        have ho3 := (HO.out.next hb2).next ((Below.refl w2.heap.size w2).alloc (Nat.le_refl _) (.cells #[.slice A2 r.length c2] 22))
        have hp3 := (hown2.mono HB.out.size).alloc (.cells #[.slice A2 r.length c2] 22)
        have hr3 := Rd.new w2 [.slice A2 r.length c2] 22
        have hs2 := hb3.size
        have hb4 := kept (hb3.alloc hs2 (.cells #[.slice A2 r.length c2] 22))
        obtain ⟨p, hpp⟩ : ∃ p : Part, p = ⟨A2, r, c2⟩ := ⟨_, rfl⟩
        have hp3 : Own (w2.alloc (.cells #[.slice A2 r.length c2] 22)) w.heap.size 5 p.val (BB p.l) := by rw [hpp]; exact hp3
        have hr3 : Rd (w2.alloc (.cells #[.slice A2 r.length c2] 22)) (w2.heap.size + 1) (some ⟨w2.heap.size, 0, none⟩) [p.val] := by rw [hpp]; exact hr3
        have hpa : AllB p.l := by rw [hpp]; exact hra
        have hpl : p.l.length ≤ 140737488355328 := by rw [hpp]; show r.length ≤ _; omega
        have HP := kept hpp
        clear hb2 hown2 hpp h2 hb3 hra
        go_wp2_with (at_builtin; refine wpl_appP rfl (.tmp 19) (.tmp 21) rfl w.heap.size X cc ps rfl ho3 p hp3 hpa hpl _ _ _ rfl hr3 (by omega) (by simp; omega) ?_; intro A3 c3 w3 ps3 hps3 hown3 hb5)
        have HB3 := kept (hb4.out.trans hb5)
        have HE3 : Kept (l = recsB (bodies ps3) ++ l.drop (e + (recB r).length)) := ⟨by
          have : bodies ps3 = bodies ps ++ [r] := by rw [hps3.out, HP.out]; simp [bodies]
          rw [this]
          exact HST.out⟩
        clear hb5 hps3 ho3 hp3 hr3
        go_roundw
        case rel => exact ⟨A3, c3, ps3, e + (recB r).length, rfl, by go_num, hst2, HE3, hown3, HB3.out⟩
        case measure => simp [intOf]; omega
end Go.Proofs.YtdlghabpnpbebaaDoor.Wal
