/- Chapter 05: the document's net: a message out. -/
import Derived.Test.YtfmflbcmigiciaaRefB
namespace Go.Proofs.Ytfmflbcmigiciaa
open Go.RowKit

theorem reads_take {w : World} {B s n : Nat} {A : Option Addr} {xs : List Value} (h : Reads w B s A n xs) {k : Nat} (hk : k ≤ n) : Reads w B s A k (xs.take (k * s)) := by
  refine ⟨?_, fun h0 => ?_⟩
  · have := h.1
    rw [List.length_take, this]
    exact Nat.min_eq_left (Nat.mul_le_mul_right s hk)
  · obtain ⟨ad, e, hb, hc⟩ := h.2 (by omega)
    refine ⟨ad, e, hb, fun j u hu => hc j u ?_⟩
    rw [List.getElem?_take] at hu
    split at hu
    · exact hu
    · cases hu
theorem reads_drop {w : World} {B s n b o : Nat} {xs : List Value} (h : Reads w B s (some ⟨b, o, none⟩) n xs) {k : Nat} (hk : k ≤ n) : Reads w B s (some ⟨b, o + k * s, none⟩) (n - k) (xs.drop (k * s)) := by
  refine ⟨?_, fun h0 => ?_⟩
  · have := h.1
    rw [List.length_drop, this, Nat.sub_mul]
  · obtain ⟨ad, e, hb, hc⟩ := h.2 (by omega)
    cases e
    refine ⟨_, rfl, hb, fun j u hu => ?_⟩
    rw [List.getElem?_drop] at hu
    have := hc _ u hu
    rw [Addr.add_lit] at this ⊢
    rw [Nat.add_assoc]; exact this

set_option maxHeartbeats 2000000 in
theorem rout_any {w : World} {R : Nat → Prop} {M : Nat} {N : Int} {cut : Nat → Nat → Bool} {bag : List Msg} {K : Nat} (h : RefAt w R M N cut bag K) (k : Nat) (hk : k < bag.length) :
    Calls Try.prog 50 #[.pointer (some ⟨M, 0, none⟩), .int .i64 k] w fun e w' => (∃ v, e = .returned v) ∧ Ref1 w w' R M N cut (bag.eraseIdx k) K := by
  have HH := Lib.hid h
  have hle := h.len
  obtain ⟨Ab, cb, Ac, cc, rs, cl, h1, h2, h3, h4, h5, h6, h7, h8⟩ := h.ex
  have m1 := h1.cell 1
  have ml := h1.lt
  have hrl := h3.1
  have hmr : MR w w.heap.size Ab rs := by unfold MR; rw [h3.1]; exact h2.1
  obtain ⟨b, o, f', t', rA', n', c', rfl, hBb, _, _, _, _⟩ := raw_elem hmr (show k < rs.length by rw [h3.1]; exact hk)
  unfold maxLen at h8
  have hp1 := reads_take h2.1 (show k ≤ bag.length by omega)
  rw [flat_take rs k (by omega)] at hp1
  have hp2 := reads_drop h2.1 (show k + 1 ≤ bag.length by omega)
  rw [flat_drop rs (k + 1) (by omega)] at hp2
  have HP1 := Lib.hid hp1
  have HP2 := Lib.hid hp2
  have H1 := Lib.hid h1
  have H3 := Lib.hid h3
  obtain ⟨i0, hi, hz0, hz1, hz2⟩ := info_parts info33
  obtain ⟨off, hoff⟩ : ∃ off, off = if cb = k + 1 then o else o + (k + 1) * 3 := ⟨_, rfl⟩
  have hp3 : Reads w w.heap.size 3 (some ⟨b, off, none⟩) (bag.length - (k + 1)) ((rs.drop (k + 1)).flatMap Raw.cs) := by
    by_cases hce : cb = k + 1
    · have h0 : bag.length - (k + 1) = 0 := by omega
      rw [h0]
      have hd : rs.drop (k + 1) = [] := List.drop_of_length_le (by omega)
      rw [hd]
      exact ⟨rfl, fun h => by omega⟩
    · rw [hoff, if_neg hce]; exact hp2
  have HP3 := Lib.hid hp3
  have HOFF := Lib.hid hoff
  have e1 : (0 : Int) ≤ k := by omega
  have e2 : (k : Int) ≤ cb := by omega
  have e3 : (k : Int) ≤ bag.length := by omega
  have e4 : (k : Int) + 1 ≤ bag.length := by omega
  have e5 : (bag.length : Int) ≤ cb := by omega
  have e6 : k + 1 ≤ bag.length := by omega
  clear h h1 h2 h3 h4 h5 h6 hmr hp1 hp2 hp3 hoff
  go_enter Try.func50, Try.ntmps50
  go_wp2_with (at_builtin; refine wpList_append_any _ rfl (.tmp 5) (.tmp 11) 39 rfl w.heap.size 33 i0 _ 3 40 Try.underlying39 hi hz0 hz1 hz2 rfl (by decide) (.slice (some ⟨w.heap.size, 0, none⟩) 0 0) 0 [] rfl (World.ownsRow_made w #[] 0 (Nat.le_refl _) (Nat.zero_le _) rfl) w.heap.size (some ⟨b, o, none⟩) k cb ((rs.take k).flatMap Raw.cs) rfl (HP1.out.alloc (Nat.le_refl _) _) (raw_one _) ?c1 ?c2 ?c3 ?_)
  case c1 => simp only [maxLen]; omega
  case c2 => omega
  case c3 => simp
  intro v1 w1 hown hg hat
  obtain ⟨hb1, hlt1, A1, c1, rfl, hc1, hc2, _, ho1⟩ := lit_post hown hg
  have hM1 := H1.out.below hb1 ml
  have n1 := hM1.cell 1
  have nl := hM1.lt
  have HM1 := Lib.hid hM1
  have HO1 := Lib.hid ho1
  have HQ3 := Lib.hid ((HP3.out.below hb1).more hb1.size)
  clear hown hg hat hM1 ho1 m1
  by_cases hce : cb = k + 1
  · have hr0 : Reads w1 w1.heap.size 3 (some ⟨b, o, none⟩) (bag.length - (k + 1)) ((rs.drop (k + 1)).flatMap Raw.cs) := by
      have ho := HOFF.out
      rw [if_pos hce] at ho
      rw [← ho]; exact HQ3.out
    have HR0 := Lib.hid hr0
    clear hr0
    go_wp2_with (at_builtin; refine wpList_append_any _ rfl (.tmp 14) (.tmp 21) 39 rfl w.heap.size 33 i0 _ 3 40 Try.underlying39 hi hz0 hz1 hz2 rfl (by decide) (.slice A1 k c1) k ((rs.take k).flatMap Raw.cs) rfl HO1.out _ (some ⟨b, o, none⟩) (bag.length - (k + 1)) 0 ((rs.drop (k + 1)).flatMap Raw.cs) rfl HR0.out (raw_one _) ?c1 ?c2 ?c3 ?_)
    case c1 => simp only [maxLen]; omega
    case c2 => omega
    case c3 => exact hb1.size
    intro v2 w2 hown2 hg2 hat2
    obtain ⟨A2, c2, rfl, -, -⟩ := own_form hown2
    have hb2 := hb1.grown hg2 hb1.size (fun x ex => (HO1.out.lt x ex).1)
    have hM2 := H1.out.below hb2 ml
    have n1 := hM2.cell 1
    have nl := hM2.lt
    have nf := hM2.frozen
    have hlen : k + (bag.length - (k + 1)) = (bag.eraseIdx k).length := by rw [List.length_eraseIdx, if_pos hk]; omega
    rw [hlen, ← List.flatMap_append] at hown2
    have hms := (H3.out.upd (Upd.of_below HH.out.lt hb2)).erase k
    have HF := Lib.hid (ref_setbag HH.out hb2 (Y := fun _ => False) (fun _ h => h.elim) (hms.moreR fun _ h => .inl h) hown2 (by rw [List.length_eraseIdx, if_pos hk]; omega))
    rw [hlen]
    clear hM2 hown2 hg2 hat2 hb2 hlen hms
    go_wp2_with fail
    go_end0
    exact ⟨⟨_, rfl⟩, HF.out⟩
  · have hr0 : Reads w1 w1.heap.size 3 (some ⟨b, o + (k + 1) * 3, none⟩) (bag.length - (k + 1)) ((rs.drop (k + 1)).flatMap Raw.cs) := by
      have ho := HOFF.out
      rw [if_neg hce] at ho
      rw [← ho]; exact HQ3.out
    have HR0 := Lib.hid hr0
    clear hr0
    go_wp2_with (at_builtin; refine wpList_append_any _ rfl (.tmp 14) (.tmp 21) 39 rfl w.heap.size 33 i0 _ 3 40 Try.underlying39 hi hz0 hz1 hz2 rfl (by decide) (.slice A1 k c1) k ((rs.take k).flatMap Raw.cs) rfl HO1.out _ (some ⟨b, o + (k + 1) * 3, none⟩) (bag.length - (k + 1)) (cb - (k + 1)) ((rs.drop (k + 1)).flatMap Raw.cs) rfl HR0.out (raw_one _) ?c1 ?c2 ?c3 ?_)
    case c1 => simp only [maxLen]; omega
    case c2 => omega
    case c3 => exact hb1.size
    intro v2 w2 hown2 hg2 hat2
    obtain ⟨A2, c2, rfl, -, -⟩ := own_form hown2
    have hb2 := hb1.grown hg2 hb1.size (fun x ex => (HO1.out.lt x ex).1)
    have hM2 := H1.out.below hb2 ml
    have n1 := hM2.cell 1
    have nl := hM2.lt
    have nf := hM2.frozen
    have hlen : k + (bag.length - (k + 1)) = (bag.eraseIdx k).length := by rw [List.length_eraseIdx, if_pos hk]; omega
    rw [hlen, ← List.flatMap_append] at hown2
    have hms := (H3.out.upd (Upd.of_below HH.out.lt hb2)).erase k
    have HF := Lib.hid (ref_setbag HH.out hb2 (Y := fun _ => False) (fun _ h => h.elim) (hms.moreR fun _ h => .inl h) hown2 (by rw [List.length_eraseIdx, if_pos hk]; omega))
    rw [hlen]
    clear hM2 hown2 hg2 hat2 hb2 hlen hms
    go_wp2_with fail
    go_end0
    exact ⟨⟨_, rfl⟩, HF.out⟩
end Go.Proofs.Ytfmflbcmigiciaa
