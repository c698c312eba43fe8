/- Layers 7 and 13: events are the same, where neither has kills. -/
import Derived.Test.YtfkfpanhbanljaaGreatSetE
import Derived.BigQuiet
import Derived.Deep.QuietTactic
namespace Go.Proofs.YtfkfpanhbanljaaGreat.Past
open Go.RowKit Go.Proofs.YtfkfpanhbanljaaGreat.Mem Go.Proofs.YtfkfpanhbanljaaGreat.Mask

set_option maxRecDepth 100000 in
theorem dsame_nil (w : World) : Calls Tryz.prog 25 #[.slice none 0 0, .slice none 0 0] w fun e w' => e = .returned (.bool true) ∧ w = w' := by
  go_enter Tryz.func25, Tryz.ntmps25
  go_wp2_with fail
  go_loopw [5] (fun i wr => i = .int .i64 0 ∧ wr = w) (fun _ _ => 0)
  case atStart => exact ⟨rfl, rfl⟩
  case round =>
    obtain ⟨rfl, rfl⟩ := hrel
    go_wp2_with fail
    go_ret
    exact ⟨rfl, rfl⟩
set_option maxRecDepth 100000 in
theorem esame_any (e : EvM) (w : World) (h : e.kA = none ∧ e.kn = 0 ∧ e.kc = 0) : Calls Tryz.prog 11 #[e.val, e.val] w fun en w' => en = .returned (.bool true) ∧ Below w.heap.size w w' := by
  obtain ⟨dev, ne, kind, cid, field, text, kA, kn, kc⟩ := e
  obtain ⟨e1, e2, e3⟩ := h
  dsimp only at e1 e2 e3
  subst e1 e2 e3
  have CD := kept (fun W => dsame_nil W)
  have hb : Below w.heap.size w ((w.alloc (.cells #[.int .u16 (dev : Int), .int .u64 (ne : Int), .int .u8 (kind : Int), .int .u64 (cid : Int), .int .u8 (field : Int), .string text, .slice none 0 0] 38)).alloc (.cells #[.int .u16 (dev : Int), .int .u64 (ne : Int), .int .u8 (kind : Int), .int .u64 (cid : Int), .int .u8 (field : Int), .string text, .slice none 0 0] 38)) := ((Below.refl _ _).alloc (Nat.le_refl _) _).alloc (by simp) _
  have HB := kept hb
  clear hb
  show Calls Tryz.prog 11 #[.agg #[.int .u16 (dev : Int), .int .u64 (ne : Int), .int .u8 (kind : Int), .int .u64 (cid : Int), .int .u8 (field : Int), .string text, .slice none 0 0], .agg #[.int .u16 (dev : Int), .int .u64 (ne : Int), .int .u8 (kind : Int), .int .u64 (cid : Int), .int .u8 (field : Int), .string text, .slice none 0 0]] w _
  go_enter Tryz.func11, Tryz.ntmps11
  go_wp2_with fail
  refine (CD.out _).mono ?_
  rintro en w1 ⟨rfl, rfl⟩
  go_wp2_with fail
  go_ret
  exact ⟨rfl, HB.out⟩
end Go.Proofs.YtfkfpanhbanljaaGreat.Past
