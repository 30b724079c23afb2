/- Chapter 05: bytes cloned, a message in memory of its own. -/
import Derived.Test.YtfmflbcmigiciaaWalkA
namespace Go.Proofs.Ytfmflbcmigiciaa
open Go.RowKit

theorem info5 : (Try.prog.info? 5).map (fun i => (i.zero, i.size, i.bytes)) = some (some (.int .u8 0), 1, 1) := by kernel_rfl
theorem info33 : (Try.prog.info? 33).map (fun i => (i.zero, i.size, i.bytes)) = some (some (.agg #[.int .i64 0, .int .i64 0, .slice none 0 0]), 3, 40) := by kernel_rfl
theorem info_parts {t : TypeId} {z : Value} {s b : Nat} (h : (Try.prog.info? t).map (fun i => (i.zero, i.size, i.bytes)) = some (some z, s, b)) : ∃ i, Try.prog.info? t = some i ∧ i.zero = some z ∧ i.size = s ∧ i.bytes = b := by
  cases hi : Try.prog.info? t with
  | none => rw [hi] at h; cases h
  | some i =>
    rw [hi] at h
    simp only [Option.map_some, Option.some.injEq, Prod.mk.injEq] at h
    exact ⟨i, rfl, h.1, h.2.1, h.2.2⟩
/-- A row of bytes in memory. -/
abbrev BR (w : World) (B : Nat) (A : Option Addr) (l : List Int) : Prop := Reads w B 1 A l.length (l.map (.int .u8))
theorem u8_one (l : List Int) : ∀ u ∈ l.map (Value.int .u8), u.oneCell' = true := by
  intro u hu
  obtain ⟨b, _, rfl⟩ := List.mem_map.1 hu
  rfl

/-- Bytes in memory of the call's own; nil stays nil. -/
theorem clone_any (l : List Int) (A : Option Addr) (c : Nat) (B : Nat) (w : World) (h : BR w B A l) (hB : B ≤ w.heap.size) (hl : l.length ≤ 1000000000) :
    Calls Try.prog 29 #[.slice A l.length c] w fun e w' => ∃ A' c', e = .returned (.slice A' l.length c') ∧ Below w.heap.size w w' ∧ l.length ≤ c' ∧ c' ≤ maxLen ∧ w'.ownsRow w.heap.size 5 1 (.slice A' l.length c') l.length (l.map (.int .u8)) := by
  have h := h.more hB
  clear hB
  obtain ⟨i0, hi, hz0, hz1, hz2⟩ := info_parts info5
  rcases A with _ | ad
  · have h0 : l = [] := by
      rcases Nat.eq_zero_or_pos l.length with h0 | h0
      · exact List.eq_nil_of_length_eq_zero h0
      · obtain ⟨ad, h, _⟩ := h.2 h0
        cases h
    subst h0
    clear h
    have hE : ∀ W, (binOp .eql 24 (.slice none 0 c) (.slice none 0 0)).run Try.prog W = .ok (.bool true) W := fun _ => rfl
    go_enter Try.func29, Try.ntmps29
    go_wp2
    go_ret
    exact ⟨none, 0, rfl, Below.refl _ _, Nat.le_refl _, Nat.zero_le _, rfl, .inl ⟨rfl, rfl⟩⟩
  · have H := Lib.hid h
    clear h
    have hE : ∀ W, (binOp .eql 24 (.slice (some ad) l.length c) (.slice none 0 0)).run Try.prog W = .ok (.bool false) W := fun _ => rfl
    go_enter Try.func29, Try.ntmps29
    go_wp2_with (at_builtin; go_loud (refine wpList_append_lit _ rfl (.tmp 5) (.tmp 6) 24 rfl 5 i0 _ 1 1 Try.underlying24 hi hz0 hz1 hz2 rfl (by decide) w.heap.size w.heap.size rfl (Blk.new _ 5 #[]) (Nat.le_refl _) w.heap.size (some ad) l.length c (l.map (.int .u8)) rfl (H.out.alloc (Nat.le_refl _) _) (u8_one l) (by simp only [maxLen]; omega) (by omega) ?_))
    intro A' c' w1 hc1 hc2 hown hb
    have HO := Lib.hid hown
    have hb1 : Below w.heap.size w w1 := ((Below.refl _ _).alloc (Nat.le_refl _) _).trans (hb.mono (by simp))
    clear hown hb
    go_wp2_with fail
    go_ret
    exact ⟨A', c', rfl, hb1, hc1, hc2, HO.out⟩

/-- A message in memory of its own. -/
theorem own_any (f t : Int) (l : List Int) (A : Option Addr) (c : Nat) (B : Nat) (w : World) (h : BR w B A l) (hB : B ≤ w.heap.size) (hl : l.length ≤ 1000000000) :
    Calls Try.prog 33 #[.agg #[.int .i64 f, .int .i64 t, .slice A l.length c]] w fun e w' => ∃ A' c', e = .returned (.agg #[.int .i64 f, .int .i64 t, .slice A' l.length c']) ∧ Below w.heap.size w w' ∧ l.length ≤ c' ∧ c' ≤ maxLen ∧ w'.ownsRow w.heap.size 5 1 (.slice A' l.length c') l.length (l.map (.int .u8)) := by
  have h := h.more hB
  have H := Lib.hid h
  clear hB h
  obtain ⟨W0, hW0⟩ : ∃ W0, W0 = (w.alloc (.cells #[.int .i64 f, .int .i64 t, .slice A l.length c] 33)).alloc (.cells #[.int .i64 0, .int .i64 0, .slice none 0 0] 33) := ⟨_, rfl⟩
  have hb0 : Below w.heap.size w W0 := by rw [hW0]; exact ((Below.refl _ _).alloc (Nat.le_refl _) _).alloc (by simp) _
  have hM : Blk W0 w.heap.size 33 #[.int .i64 f, .int .i64 t, .slice A l.length c] := by rw [hW0]; exact (Blk.new _ _ _).alloc _
  have hR : Blk W0 (w.heap.size + 1) 33 #[.int .i64 0, .int .i64 0, .slice none 0 0] := by
    rw [hW0]
    have h1 := Blk.new (w.alloc (.cells #[.int .i64 f, .int .i64 t, .slice A l.length c] 33)) 33 #[.int .i64 0, .int .i64 0, .slice none 0 0]
    rwa [World.size_alloc] at h1
  have HM := Lib.hid hM
  have HR := Lib.hid hR
  have m2 := hM.cell 2
  have ml := hM.lt
  have rl := hR.lt
  clear hM hR
  go_enter Try.func33, Try.ntmps33
  go_wp2_with fail
  rw [← hW0]
  refine (clone_any l A c W0.heap.size W0 ((H.out.below hb0).more hb0.size) (Nat.le_refl _) hl).mono ?_
  rintro e w1 ⟨A', c', rfl, hb1, hc1, hc2, hown⟩
  have hM1 := HM.out.below hb1 ml
  have hR1 := HR.out.below hb1 rl
  have hb01 := hb0.trans (hb1.mono hb0.size)
  obtain ⟨m0, m1, m2'⟩ : w1.cell? ⟨w.heap.size, 0, none⟩ = some (.int .i64 f) ∧ w1.cell? ⟨w.heap.size, 1, none⟩ = some (.int .i64 t) ∧ w1.cell? ⟨w.heap.size, 2, none⟩ = some (.slice A l.length c) := ⟨hM1.cell 0, hM1.cell 1, hM1.cell 2⟩
  obtain ⟨r0, r1, r2⟩ : w1.cell? ⟨w.heap.size + 1, 0, none⟩ = some (.int .i64 0) ∧ w1.cell? ⟨w.heap.size + 1, 1, none⟩ = some (.int .i64 0) ∧ w1.cell? ⟨w.heap.size + 1, 2, none⟩ = some (.slice none 0 0) := ⟨hR1.cell 0, hR1.cell 1, hR1.cell 2⟩
  have mf := hM1.frozen
  have rf := hR1.frozen
  have ml1 := hM1.lt
  have rl1 := hR1.lt
  have HO := Lib.hid hown
  have hs0 : W0.heap.size = w.heap.size + 1 + 1 := by rw [hW0]; simp
  clear hM1 hR1 hown hW0 hb1 m2
  go_wp2_with fail
  refine bodyPost_ret (v := .agg #[.int .i64 f, .int .i64 t, .slice A' l.length c']) (by simp [results, Try.results33, go_sem, r0, r1, r2]) rfl ?_
  have o1 := ownsRow_setCell_below HO.out (a := ⟨w.heap.size, 2, none⟩) (by show w.heap.size < W0.heap.size; omega) (.slice A' l.length c')
  have o2 := ownsRow_setCell_below (ownsRow_setCell_below (ownsRow_setCell_below o1 (a := ⟨w.heap.size + 1, 0, none⟩) (by show w.heap.size + 1 < W0.heap.size; omega) (.int .i64 f)) (a := ⟨w.heap.size + 1, 1, none⟩) (by show w.heap.size + 1 < W0.heap.size; omega) (.int .i64 t)) (a := ⟨w.heap.size + 1, 2, none⟩) (by show w.heap.size + 1 < W0.heap.size; omega) (.slice A' l.length c')
  obtain ⟨q1, q2⟩ := o2
  refine ⟨A', c', rfl, ?_, hc1, hc2, q1, ?_⟩
  · exact (((hb01.setCell (p := ⟨w.heap.size, 2, none⟩) (Nat.le_refl _) _).setCell (p := ⟨w.heap.size + 1, 0, none⟩) (Nat.le_succ _) _).setCell (p := ⟨w.heap.size + 1, 1, none⟩) (Nat.le_succ _) _).setCell (p := ⟨w.heap.size + 1, 2, none⟩) (Nat.le_succ _) _
  · rcases q2 with q2 | ⟨g, cap, cur, e1, e2, e3⟩
    · exact .inl q2
    · exact .inr ⟨g, cap, cur, e1, by omega, e3⟩
end Go.Proofs.Ytfmflbcmigiciaa
