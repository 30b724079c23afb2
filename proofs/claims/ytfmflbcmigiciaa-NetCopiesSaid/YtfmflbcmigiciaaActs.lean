/- Chapter 05: what each call of the net does, told by its messages. -/
import Derived.Test.YtfmflbcmigiciaaState
namespace Go.Proofs.Ytfmflbcmigiciaa
open Go.RowKit

variable {w : World} {R : Nat → Prop} {G : Nat} {A : Option Addr} {N : Int} {cut : Nat → Nat → Bool} {bag : List Msg}
def gp (G : Nat) : Value := .pointer (some ⟨G, 0, none⟩)

theorem c_nodes (h : NetAt w R G A N cut bag) : Calls Try.prog 25 #[gp G] w fun e w' => e = .returned (.int .i64 N) ∧ w = w' := by
  obtain ⟨c, rs, h1, h2, h3⟩ := h.ex
  exact nodes_any _ N w (nn_blk h1)
theorem c_open (h : NetAt w R G A N cut bag) (a b : Int) : Calls Try.prog 26 #[gp G, .int .i64 a, .int .i64 b] w fun e w' => e = .returned (.bool (openB N cut a b)) ∧ w = w' := by
  obtain ⟨c, rs, h1, h2, h3⟩ := h.ex
  exact open_any G _ 64 N a b cut w h1 h.hi
theorem c_len (h : NetAt w R G A N cut bag) : Calls Try.prog 11 #[gp G] w fun e w' => e = .returned (.int .i64 bag.length) ∧ w = w' := by
  obtain ⟨c, rs, h1, h2, h3⟩ := h.ex
  exact len_any G _ c A 64 N cut w h1
theorem c_find (h : NetAt w R G A N cut bag) (a i : Int) : Calls Try.prog 24 #[gp G, .int .i64 a, .int .i64 i] w fun e w' => e = .returned (findV (findP N cut (bag.map fun m => (m.f, m.t)) a i)) ∧ Below w.heap.size w w' := by
  obtain ⟨c, rs, h1, h2, h3⟩ := h.ex
  have hl := h.len
  have h31 := h3.1
  rw [← h3.pairs]
  rw [← h31] at h1 h2
  exact find_any G c A 64 N a i cut rs w h1 (Reads.of_own h2) (by omega) h.hi
/-- At: the message, in memory of its own, and its error. -/
def atR (bag : List Msg) (i : Int) : Msg × Int := match atP bag i with
  | none => (m0, 4)
  | some m => (m, 0)
theorem c_at (h : NetAt w R G A N cut bag) (i : Int) : Calls Try.prog 16 #[gp G, .int .i64 i] w fun e w' => ∃ A' c', e = .returned (.tuple #[msgV (atR bag i).1 A' c', .int .i64 (atR bag i).2]) ∧ Below w.heap.size w w' ∧ Own w' w.heap.size (atR bag i).1 A' c' := by
  obtain ⟨c, rs, h1, h2, h3⟩ := h.ex
  unfold atR
  cases ha : atP bag i with
  | none =>
    refine (at_no G _ c A 64 N i cut w h1 (atP_has ha)).mono ?_
    rintro e w' ⟨rfl, hb⟩
    exact ⟨none, 0, rfl, hb, own_m0 _ _⟩
  | some m =>
    obtain ⟨k, rfl, hk, hkm⟩ := atP_some ha
    obtain ⟨rA, rc, hr, hrd, hle⟩ := h3.get hkm
    refine (at_yes G _ c k A 64 N cut rs m.f m.t rA rc m.bs w h1 h3.1 (by unfold MR; rw [h3.1]; exact Reads.of_own h2) hr hrd.reads hle).mono ?_
    rintro e w' ⟨A', c', rfl, hb, hc1, hc2, ho⟩
    exact ⟨A', c', rfl, hb, hc1, hc2, ho⟩
theorem c_deliver (h : NetAt w R G A N cut bag) (i : Int) : Calls Try.prog 12 #[gp G, .int .i64 i] w fun e w' => ∃ A' c', e = .returned (.tuple #[msgV (delP N cut bag i).1 A' c', .int .i64 (delP N cut bag i).2.1]) ∧ Own w' w.heap.size (delP N cut bag i).1 A' c' ∧ Net1 w w' R G A N cut (delP N cut bag i).2.2 := by
  obtain ⟨c, rs, h1, h2, h3⟩ := h.ex
  unfold delP
  have hlen := h.len
  cases ha : atP bag i with
  | none =>
    refine (deliver_none _ i w (noAt_net h1 (atP_has ha))).mono ?_
    rintro e w' ⟨rfl, hb⟩
    exact ⟨none, 0, rfl, own_m0 _ _, Net1.same h hb⟩
  | some m =>
    obtain ⟨k, rfl, hk, hkm⟩ := atP_some ha
    obtain ⟨rA, rc, hr, hrd, hle⟩ := h3.get hkm
    simp only []
    cases ho : openB N cut m.f m.t with
    | false =>
      refine (deliver_down G _ c k A N cut rs m.f m.t rA rc m.bs w h1 h3.1 (by unfold MR; rw [h3.1]; exact Reads.of_own h2) hr hrd.reads hle h.hi ho).mono ?_
      rintro e w' ⟨rfl, hb⟩
      exact ⟨none, 0, rfl, own_m0 _ _, Net1.same h hb⟩
    | true =>
      refine (deliver_yes G _ c k 0 A N cut rs m.f m.t rA rc m.bs w h1 h3.1 (by omega) h2 hr hrd.reads hle h.hi ho).mono ?_
      rintro e w' ⟨A', c', rfl, hc1, hc2, hown, hf, A2, c2, h5, h6⟩
      refine ⟨A', c', rfl, ⟨hc1, hc2, hown⟩, R, A2, ?_, ?_, ?_⟩
      · exact ⟨hf.mono fun _ e => .inl e, h.off, fun _ h => h, fun _ h => .inl h, fun k hk => Nat.lt_of_lt_of_le (h.lt k hk) hf.size⟩
      · have hu : Upd (fun x => x = G) R R w w' := ⟨hf, fun k e => h.off k (.inl e), fun _ h => h, fun _ h => .inl h, fun k hk => Nat.lt_of_lt_of_le (h.lt k hk) hf.size⟩
        have hlen2 : (bag.eraseIdx k).length = bag.length - 1 := by rw [List.length_eraseIdx, if_pos hk]
        refine ⟨⟨c2, rs.take k ++ rs.drop (k + 1), ?_, ?_, ?_⟩, h.lo, h.hi, ?_, fun x hx hR => ?_, hu.lt⟩
        · simp only [Int.toNat_natCast, if_true]; rw [hlen2]; exact h5
        · simp only [Int.toNat_natCast, if_true]; rw [hlen2]; exact own_low h6 (Nat.zero_le _)
        · simp only [Int.toNat_natCast, if_true]; exact (h3.erase k).upd hu
        · simp only [Int.toNat_natCast, if_true]; omega
        · rcases hx with rfl | ⟨ad, rfl, rfl⟩
          · exact h.off _ (.inl rfl) hR
          · have := (h6.lt ad.block rfl).1; have := h.lt _ hR; omega
      · rintro x (rfl | ⟨ad, rfl, rfl⟩)
        · exact .inl (.inl rfl)
        · exact .inr (h6.lt ad.block rfl).1
theorem c_drop (h : NetAt w R G A N cut bag) (i : Int) : Calls Try.prog 15 #[gp G, .int .i64 i] w fun e w' => e = .returned (.int .i64 (dropP bag i).1) ∧ Net1 w w' R G A N cut (dropP bag i).2 := by
  obtain ⟨c, rs, h1, h2, h3⟩ := h.ex
  unfold dropP
  have hlen := h.len
  cases ha : atP bag i with
  | none =>
    refine (drop_no G _ c A 64 N i cut w h1 (atP_has ha)).mono ?_
    rintro e w' ⟨rfl, rfl⟩
    exact ⟨rfl, Net1.same h (Below.refl _ _)⟩
  | some m =>
    obtain ⟨k, rfl, hk, hkm⟩ := atP_some ha
    refine (drop_yes G _ c k 0 A N cut rs w h1 h3.1 (by omega) hk h2).mono ?_
    rintro e w' ⟨rfl, hf, A2, c2, h5, h6⟩
    refine ⟨rfl, R, A2, ?_, ?_, ?_⟩
    · exact ⟨hf.mono fun _ e => .inl e, h.off, fun _ h => h, fun _ h => .inl h, fun k hk => Nat.lt_of_lt_of_le (h.lt k hk) hf.size⟩
    · have hu : Upd (fun x => x = G) R R w w' := ⟨hf, fun k e => h.off k (.inl e), fun _ h => h, fun _ h => .inl h, fun k hk => Nat.lt_of_lt_of_le (h.lt k hk) hf.size⟩
      have hlen2 : (bag.eraseIdx k).length = bag.length - 1 := by rw [List.length_eraseIdx, if_pos hk]
      refine ⟨⟨c2, rs.take k ++ rs.drop (k + 1), ?_, ?_, ?_⟩, h.lo, h.hi, ?_, fun x hx hR => ?_, hu.lt⟩
      · simp only [Int.toNat_natCast]; rw [hlen2]; exact h5
      · simp only [Int.toNat_natCast]; rw [hlen2]; exact own_low h6 (Nat.zero_le _)
      · simp only [Int.toNat_natCast]; exact (h3.erase k).upd hu
      · simp only [Int.toNat_natCast]; omega
      · rcases hx with rfl | ⟨ad, rfl, rfl⟩
        · exact h.off _ (.inl rfl) hR
        · have := (h6.lt ad.block rfl).1; have := h.lt _ hR; omega
    · rintro x (rfl | ⟨ad, rfl, rfl⟩)
      · exact .inl (.inl rfl)
      · exact .inr (h6.lt ad.block rfl).1
theorem link_net (h : NetAt w R G A N cut bag) (a b : Int) (v : Bool) {w' : World} (hf : Far (fun k => k = G) w w') (hb : ∀ sl, Blk w G 56 (netA sl 64 N cut) → Blk w' G 56 (netA sl 64 N (cutP N cut a b v))) : Net1 w w' R G A N (cutP N cut a b v) bag := by
  obtain ⟨c, rs, h1, h2, h3⟩ := h.ex
  have hu : Upd (fun x => x = G) R R w w' := ⟨hf, fun k e => h.off k (.inl e), fun _ h => h, fun _ h => .inl h, fun k hk => Nat.lt_of_lt_of_le (h.lt k hk) hf.size⟩
  refine ⟨R, A, hu.widen (fun _ e => .inl e) h.off, ⟨⟨c, rs, hb _ h1, own_far h2 hf fun k e hk => ?_, h3.upd hu⟩, h.lo, h.hi, h.len, h.off, hu.lt⟩, fun _ hk => .inl hk⟩
  subst hk
  exact own_blk_ne h2 h1 (by decide) e
theorem c_cut (h : NetAt w R G A N cut bag) (a b : Int) : Calls Try.prog 18 #[gp G, .int .i64 a, .int .i64 b] w fun e w' => e = .returned (.int .i64 (if twoB N a b then 0 else 1)) ∧ Net1 w w' R G A N (cutP N cut a b true) bag := by
  obtain ⟨c, rs, h1, h2, h3⟩ := h.ex
  refine (cut_any G _ 64 N a b cut w h1 h.hi).mono ?_
  rintro e w' ⟨rfl, hf, hb⟩
  refine ⟨rfl, link_net h a b true hf fun sl hs => ?_⟩
  have := (hs.cell 0).symm.trans (h1.cell 0)
  rw [(netA_lo _ _ _ _).1, (netA_lo _ _ _ _).1] at this
  rw [Option.some.inj this]; exact hb
theorem c_heal (h : NetAt w R G A N cut bag) (a b : Int) : Calls Try.prog 19 #[gp G, .int .i64 a, .int .i64 b] w fun e w' => e = .returned (.int .i64 (if twoB N a b then 0 else 1)) ∧ Net1 w w' R G A N (cutP N cut a b false) bag := by
  obtain ⟨c, rs, h1, h2, h3⟩ := h.ex
  refine (heal_any G _ 64 N a b cut w h1 h.hi).mono ?_
  rintro e w' ⟨rfl, hf, hb⟩
  refine ⟨rfl, link_net h a b false hf fun sl hs => ?_⟩
  have := (hs.cell 0).symm.trans (h1.cell 0)
  rw [(netA_lo _ _ _ _).1, (netA_lo _ _ _ _).1] at this
  rw [Option.some.inj this]; exact hb
/-- A message put behind the others: what is left. -/
theorem put_net {w' : World} (h : NetAt w R G A N cut bag) {rs : List Raw} (h3 : MsgsAt R w rs bag) (hn : bag.length < 64) (m : Msg) (hle : m.bs.length ≤ 1000000000) {A' Am : Option Addr} {c' cm : Nat}
    (hf : Far (wr G A) w w') (hb : Blk w' G 56 (netA (.slice A' (bag.length + 1) c') 64 N cut)) (ho : w'.ownsRow 0 33 3 (.slice A' (bag.length + 1) c') (bag.length + 1) ((rs ++ [(⟨m.f, m.t, Am, m.bs.length, cm⟩ : Raw)]).flatMap Raw.cs)) (hw : ∀ k, wr G A' k → wr G A k ∨ w.heap.size ≤ k)
    (hm : w'.ownsRow w.heap.size 5 1 (.slice Am m.bs.length cm) m.bs.length (m.bs.map (.int .u8))) : Net1 w w' R G A N cut (bag ++ [m]) := by
  have hu : Upd (wr G A) R (fun k => R k ∨ (Value.slice Am m.bs.length cm).ownBlock = some k) w w' :=
    (show Upd (wr G A) R R w w' from ⟨hf, h.off, fun _ h => h, fun _ h => .inl h, fun k hk => Nat.lt_of_lt_of_le (h.lt k hk) hf.size⟩).more _ (fun k e => (hm.lt k e).1) (fun k e => (hm.lt k e).2)
  refine ⟨_, A', hu, ⟨⟨c', rs ++ [(⟨m.f, m.t, Am, m.bs.length, cm⟩ : Raw)], ?_, ?_, ?_⟩, h.lo, h.hi, ?_, fun k hk hR => ?_, hu.lt⟩, hw⟩
  · simp only [List.length_append, List.length_cons, List.length_nil]; exact hb
  · simp only [List.length_append, List.length_cons, List.length_nil]; exact ho
  · exact (h3.upd hu).snoc ⟨rfl, rfl, rfl, hle, rd_own hm fun k e => .inr e⟩
  · simp only [List.length_append, List.length_cons, List.length_nil]; omega
  · rcases hR with hR | hR
    · rcases hw k hk with h4 | h4
      · exact h.off k h4 hR
      · have := h.lt k hR; omega
    · rcases hk with rfl | ⟨ad, rfl, rfl⟩
      · exact own_blk_ne hm hb (by decide) hR
      · exact own_own_ne hm ho (by decide) hR rfl
theorem c_send (h : NetAt w R G A N cut bag) (a b : Int) (bs : List Int) (Ab : Option Addr) (cb : Nat) (hb : BR w w.heap.size Ab bs) : Calls Try.prog 10 #[gp G, .int .i64 a, .int .i64 b, .slice Ab bs.length cb] w fun e w' => e = .returned (.int .i64 (sendP N cut bag a b bs).1) ∧ Net1 w w' R G A N cut (sendP N cut bag a b bs).2 := by
  obtain ⟨c, rs, h1, h2, h3⟩ := h.ex
  unfold sendP
  cases h4 : twoB N a b with
  | false =>
    refine (send_arg _ N a b Ab _ cb w (nn_blk h1) h4).mono ?_
    rintro e w' ⟨rfl, rfl⟩
    exact ⟨rfl, Net1.same h (Below.refl _ _)⟩
  | true =>
    by_cases h5 : 16384 < bs.length
    · refine (send_long _ N a b Ab _ cb w (nn_blk h1) h4 h5).mono ?_
      rintro e w' ⟨rfl, rfl⟩
      simp only [if_pos h5]
      exact ⟨rfl, Net1.same h (Below.refl _ _)⟩
    · cases h6 : openB N cut a b with
      | false =>
        refine (send_down G _ 64 N a b cut Ab _ cb w h1 h.hi h4 (by omega) h6).mono ?_
        rintro e w' ⟨rfl, rfl⟩
        simp only [if_neg h5]
        exact ⟨rfl, Net1.same h (Below.refl _ _)⟩
      | true =>
        by_cases h7 : 64 ≤ bag.length
        · refine (send_full G _ c 0 A N a b cut rs bs Ab cb w h1 h.hi h2 hb (by omega) h6 h7).mono ?_
          rintro e w' ⟨rfl, hbw⟩
          simp only [if_neg h5, if_pos h7]
          exact ⟨rfl, Net1.same h hbw⟩
        · refine (send_ok G _ c 0 A N a b cut rs bs Ab cb w h1 h.hi (Nat.zero_le _) h2 hb (by omega) h6 (by omega)).mono ?_
          rintro e w' ⟨rfl, hf, A', c', Am, cm, hb9, ho9, hw9, hm9⟩
          simp only [if_neg h5, if_neg h7]
          exact ⟨rfl, put_net h h3 (by omega) ⟨a, b, bs⟩ (by simp only []; omega) hf hb9 ho9 hw9 hm9⟩
end Go.Proofs.Ytfmflbcmigiciaa
