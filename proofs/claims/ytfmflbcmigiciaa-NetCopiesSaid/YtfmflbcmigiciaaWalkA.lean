/- Chapter 05: what reads a net; cutting and healing. -/
import Derived.Test.YtfmflbcmigiciaaNet
import Derived.BigQuiet
namespace Go.Proofs.Ytfmflbcmigiciaa
open Go.RowKit

theorem nn_blk {w : World} {G : Nat} {sl : Value} {most N : Int} {cut : Nat → Nat → Bool} (h : Blk w G 56 (netA sl most N cut)) : NN w (.pointer (some ⟨G, 0, none⟩)) N := .inr ⟨G, rfl, h.lt, (h.cell 2).trans (netA_lo _ _ _ _).2.2⟩
theorem cut_blk {w : World} {G : Nat} {sl : Value} {most N : Int} {cut : Nat → Nat → Bool} (h : Blk w G 56 (netA sl most N cut)) : Cut w G cut :=
  ⟨h.lt, fun a b ha hb => by
    have := (h.cell (3 + (a * 16 + b))).trans (netA_hi sl most N cut (a * 16 + b) (by omega))
    rw [show (a * 16 + b) / 16 = a by omega, show (a * 16 + b) % 16 = b by omega] at this
    rw [Nat.add_assoc]; exact this⟩

theorem open_any (G : Nat) (sl : Value) (most N a b : Int) (cut : Nat → Nat → Bool) (w : World) (h : Blk w G 56 (netA sl most N cut)) (hN : N ≤ 15) : Calls Try.prog 26 #[.pointer (some ⟨G, 0, none⟩), .int .i64 a, .int .i64 b] w fun e w' => e = .returned (.bool (openB N cut a b)) ∧ w = w' := by
  cases h2 : twoB N a b with
  | false =>
    refine (open_no _ N a b w (nn_blk h) h2).mono fun e w' hh => ⟨?_, hh.2⟩
    rw [hh.1]; simp [openB, h2]
  | true =>
    have h3 : 1 ≤ a ∧ a ≤ N ∧ 1 ≤ b ∧ b ≤ N ∧ a ≠ b := of_decide_eq_true h2
    obtain ⟨x, rfl⟩ : ∃ x : Nat, a = x := ⟨a.toNat, by omega⟩
    obtain ⟨y, rfl⟩ : ∃ y : Nat, b = y := ⟨b.toNat, by omega⟩
    refine (open_yes G N x y cut w (nn_blk h) h2 hN (cut_blk h)).mono fun e w' hh => ⟨?_, hh.2⟩
    rw [hh.1]; simp [openB, h2]

theorem len_nil (w : World) : Calls Try.prog 11 #[.pointer none] w fun e w' => e = .returned (.int .i64 0) ∧ w = w' := by
  go_enter Try.func11, Try.ntmps11
  go_wp2_with fail
  go_ret
  exact ⟨rfl, rfl⟩
theorem len_any (G n c : Nat) (A : Option Addr) (most N : Int) (cut : Nat → Nat → Bool) (w : World) (h : Blk w G 56 (netA (.slice A n c) most N cut)) : Calls Try.prog 11 #[.pointer (some ⟨G, 0, none⟩)] w fun e w' => e = .returned (.int .i64 n) ∧ w = w' := by
  have g0 := (h.cell 0).trans (netA_lo _ _ _ _).1
  have gl := h.lt
  have H := Lib.hid h
  clear h
  go_enter Try.func11, Try.ntmps11
  go_wp2_with fail
  go_ret
  exact ⟨rfl, rfl⟩

def hasB (n : Nat) (i : Int) : Bool := decide (0 ≤ i ∧ i < n)
theorem has_any (G n c : Nat) (A : Option Addr) (most N i : Int) (cut : Nat → Nat → Bool) (w : World) (h : Blk w G 56 (netA (.slice A n c) most N cut)) : Calls Try.prog 32 #[.pointer (some ⟨G, 0, none⟩), .int .i64 i] w fun e w' => e = .returned (.bool (hasB n i)) ∧ w = w' := by
  have g0 := (h.cell 0).trans (netA_lo _ _ _ _).1
  have gl := h.lt
  have H := Lib.hid h
  clear h
  by_cases h1 : 0 ≤ i
  · by_cases h2 : i < n
    · have d2 : decide (i < (n : Int)) = true := decide_eq_true h2
      go_enter Try.func32, Try.ntmps32
      go_wp2_with fail
      go_ret
      exact ⟨ret_bool (by first | exact (decide_eq_true ⟨h1, h2⟩).symm | (rw [show hasB n i = true from decide_eq_true ⟨h1, h2⟩]; simp [*])), rfl⟩
    · have d2 : decide (i < (n : Int)) = false := decide_eq_false h2
      go_enter Try.func32, Try.ntmps32
      go_wp2_with fail
      go_ret
      exact ⟨ret_bool (decide_eq_false (by omega)).symm, rfl⟩
  · go_enter Try.func32, Try.ntmps32
    go_wp2_with fail
    go_ret
    exact ⟨ret_bool (decide_eq_false (by omega)).symm, rfl⟩

theorem link_no (p : Value) (N a b : Int) (v : Bool) (w : World) (h : NN w p N) (h2 : twoB N a b = false) : Calls Try.prog 34 #[p, .int .i64 a, .int .i64 b, .bool v] w fun e w' => e = .returned (.int .i64 1) ∧ w = w' := by
  have C := Lib.hid (two_any p N a b w h)
  rw [h2] at C
  clear h h2
  go_enter Try.func34, Try.ntmps34
  go_wp2_with fail
  refine C.out.mono ?_
  rintro e w1 ⟨rfl, rfl⟩
  go_wp2_with fail
  go_ret
  exact ⟨rfl, rfl⟩

set_option maxHeartbeats 1000000 in
theorem link_yes (G : Nat) (sl : Value) (most N : Int) (a b : Nat) (v : Bool) (cut : Nat → Nat → Bool) (w : World) (h : Blk w G 56 (netA sl most N cut)) (hN : N ≤ 15) (h2 : twoB N a b = true) : Calls Try.prog 34 #[.pointer (some ⟨G, 0, none⟩), .int .i64 a, .int .i64 b, .bool v] w fun e w' => e = .returned (.int .i64 0) ∧ Far (fun k => k = G) w w' ∧ Blk w' G 56 (netA sl most N (setCut (setCut cut a b v) b a v)) := by
  have C := Lib.hid (two_any _ N a b w (nn_blk h))
  rw [h2] at C
  have h3 : 1 ≤ (a : Int) ∧ (a : Int) ≤ N ∧ 1 ≤ (b : Int) ∧ (b : Int) ≤ N ∧ (a : Int) ≠ b := of_decide_eq_true h2
  obtain ⟨ha1, ha2, hb1, hb2, hab⟩ := h3
  have ha : a < 16 := by omega
  have hb : b < 16 := by omega
  have gl := h.lt
  have gf := h.frozen
  have c1 := (cut_blk h).cell a b ha hb
  have c2 := (cut_blk h).cell b a hb ha
  have H := Lib.hid h
  clear h h2
  go_enter Try.func34, Try.ntmps34
  go_wp2_with fail
  refine C.out.mono ?_
  rintro e w1 ⟨rfl, rfl⟩
  go_wp2_with fail
  go_region
  go_wp2_with fail
  go_ret
  have e1 : 3 + (a * 16 + b) = 3 + a * 16 + b := by omega
  have e2 : 3 + (b * 16 + a) = 3 + b * 16 + a := by omega
  have h3 := (H.out.set_ (3 + (a * 16 + b)) (.bool v)).set_ (3 + (b * 16 + a)) (.bool v)
  rw [netA_setCut _ _ _ _ a b v ha hb, netA_setCut _ _ _ _ b a v hb ha, e1, e2] at h3
  exact ⟨rfl, (((Far.refl (fun k => k = G) w).setCell (p := ⟨G, 3 + a * 16 + b, none⟩) (.inl rfl) _).setCell (p := ⟨G, 3 + b * 16 + a, none⟩) (.inl rfl) _).drew, h3.drew⟩

/-- What cutting (v) or healing (not v) makes of the links. -/
def cutP (N : Int) (cut : Nat → Nat → Bool) (a b : Int) (v : Bool) : Nat → Nat → Bool := if twoB N a b then setCut (setCut cut a.toNat b.toNat v) b.toNat a.toNat v else cut
theorem link_any (G : Nat) (sl : Value) (most N a b : Int) (v : Bool) (cut : Nat → Nat → Bool) (w : World) (h : Blk w G 56 (netA sl most N cut)) (hN : N ≤ 15) : Calls Try.prog 34 #[.pointer (some ⟨G, 0, none⟩), .int .i64 a, .int .i64 b, .bool v] w fun e w' => e = .returned (.int .i64 (if twoB N a b then 0 else 1)) ∧ Far (fun k => k = G) w w' ∧ Blk w' G 56 (netA sl most N (cutP N cut a b v)) := by
  cases h2 : twoB N a b with
  | false =>
    refine (link_no _ N a b v w (nn_blk h) h2).mono fun e w' hh => ?_
    obtain ⟨rfl, rfl⟩ := hh
    exact ⟨rfl, Far.refl _ _, by unfold cutP; rw [h2]; exact h⟩
  | true =>
    have h3 : 1 ≤ a ∧ a ≤ N ∧ 1 ≤ b ∧ b ≤ N ∧ a ≠ b := of_decide_eq_true h2
    obtain ⟨x, rfl⟩ : ∃ x : Nat, a = x := ⟨a.toNat, by omega⟩
    obtain ⟨y, rfl⟩ : ∃ y : Nat, b = y := ⟨b.toNat, by omega⟩
    refine (link_yes G sl most N x y v cut w h hN h2).mono fun e w' hh => ?_
    obtain ⟨rfl, h4, h5⟩ := hh
    exact ⟨rfl, h4, by unfold cutP; rw [h2]; exact h5⟩
theorem link_nil (a b : Int) (v : Bool) (w : World) : Calls Try.prog 34 #[.pointer none, .int .i64 a, .int .i64 b, .bool v] w fun e w' => e = .returned (.int .i64 1) ∧ w = w' :=
  link_no _ 0 a b v w (.inl ⟨rfl, rfl⟩) (decide_eq_false (by omega))
theorem cut_nil (a b : Int) (w : World) : Calls Try.prog 18 #[.pointer none, .int .i64 a, .int .i64 b] w fun e w' => e = .returned (.int .i64 1) ∧ w = w' := by
  go_enter Try.func18, Try.ntmps18
  go_wp2_with fail
  refine (link_nil a b true _).mono ?_
  rintro e w1 ⟨rfl, rfl⟩
  go_wp2_with fail
  go_ret
  exact ⟨rfl, rfl⟩
theorem heal_nil (a b : Int) (w : World) : Calls Try.prog 19 #[.pointer none, .int .i64 a, .int .i64 b] w fun e w' => e = .returned (.int .i64 1) ∧ w = w' := by
  go_enter Try.func19, Try.ntmps19
  go_wp2_with fail
  refine (link_nil a b false _).mono ?_
  rintro e w1 ⟨rfl, rfl⟩
  go_wp2_with fail
  go_ret
  exact ⟨rfl, rfl⟩
theorem cut_any (G : Nat) (sl : Value) (most N a b : Int) (cut : Nat → Nat → Bool) (w : World) (h : Blk w G 56 (netA sl most N cut)) (hN : N ≤ 15) : Calls Try.prog 18 #[.pointer (some ⟨G, 0, none⟩), .int .i64 a, .int .i64 b] w fun e w' => e = .returned (.int .i64 (if twoB N a b then 0 else 1)) ∧ Far (fun k => k = G) w w' ∧ Blk w' G 56 (netA sl most N (cutP N cut a b true)) := by
  have C := Lib.hid (link_any G sl most N a b true cut w h hN)
  obtain ⟨en, hen⟩ : ∃ en : Int, (if twoB N a b then (0 : Int) else 1) = en := ⟨_, rfl⟩
  rw [hen] at C ⊢
  clear h hen
  go_enter Try.func18, Try.ntmps18
  go_wp2_with fail
  refine C.out.mono ?_
  rintro e w1 ⟨rfl, hf, hb⟩
  have HF := Lib.hid hf
  have HB := Lib.hid hb
  clear hf hb C
  go_wp2_with fail
  go_ret
  exact ⟨rfl, HF.out, HB.out⟩
theorem heal_any (G : Nat) (sl : Value) (most N a b : Int) (cut : Nat → Nat → Bool) (w : World) (h : Blk w G 56 (netA sl most N cut)) (hN : N ≤ 15) : Calls Try.prog 19 #[.pointer (some ⟨G, 0, none⟩), .int .i64 a, .int .i64 b] w fun e w' => e = .returned (.int .i64 (if twoB N a b then 0 else 1)) ∧ Far (fun k => k = G) w w' ∧ Blk w' G 56 (netA sl most N (cutP N cut a b false)) := by
  have C := Lib.hid (link_any G sl most N a b false cut w h hN)
  obtain ⟨en, hen⟩ : ∃ en : Int, (if twoB N a b then (0 : Int) else 1) = en := ⟨_, rfl⟩
  rw [hen] at C ⊢
  clear h hen
  go_enter Try.func19, Try.ntmps19
  go_wp2_with fail
  refine C.out.mono ?_
  rintro e w1 ⟨rfl, hf, hb⟩
  have HF := Lib.hid hf
  have HB := Lib.hid hb
  clear hf hb C
  go_wp2_with fail
  go_ret
  exact ⟨rfl, HF.out, HB.out⟩
end Go.Proofs.Ytfmflbcmigiciaa
