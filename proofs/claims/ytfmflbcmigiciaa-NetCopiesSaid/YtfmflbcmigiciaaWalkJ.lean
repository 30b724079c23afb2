/- Chapter 05: Drop, Deliver where there is one. -/
import Derived.Test.YtfmflbcmigiciaaWalkI
namespace Go.Proofs.Ytfmflbcmigiciaa
open Go.RowKit

theorem drop_yes (G n c k base : Nat) (A : Option Addr) (N : Int) (cut : Nat → Nat → Bool) (rs : List Raw) (w : World) (h : Blk w G 56 (netA (.slice A n c) 64 N cut)) (hrs : rs.length = n) (hn : n ≤ 1000) (hk : k < n) (ho : w.ownsRow base 33 3 (.slice A n c) n (rs.flatMap Raw.cs)) :
    Calls Try.prog 15 #[.pointer (some ⟨G, 0, none⟩), .int .i64 k] w fun e w' => e = .returned (.int .i64 0) ∧ Far (fun x => x = G) w w' ∧ ∃ A' c', Blk w' G 56 (netA (.slice A' (n - 1) c') 64 N cut) ∧ w'.ownsRow w.heap.size 33 3 (.slice A' (n - 1) c') (n - 1) ((rs.take k ++ rs.drop (k + 1)).flatMap Raw.cs) := by
  have C := Lib.hid (has_any G n c A 64 N k cut w h)
  rw [show hasB n k = true from decide_eq_true (by omega)] at C
  have T := Lib.hid (take_any G n c k base A N cut rs w h hrs hn hk ho)
  have gl := h.lt
  clear h ho hrs
  go_enter Try.func15, Try.ntmps15
  go_wp2_with fail
  refine C.out.mono ?_
  rintro e w1 ⟨rfl, rfl⟩
  go_wp2_with fail
  refine T.out.mono ?_
  rintro e w2 ⟨⟨v, rfl⟩, hf, hx⟩
  have HF := Lib.hid hf
  have HX := Lib.hid hx
  clear hf hx C T
  go_wp2_with fail
  go_ret
  exact ⟨rfl, HF.out, HX.out⟩
end Go.Proofs.Ytfmflbcmigiciaa
