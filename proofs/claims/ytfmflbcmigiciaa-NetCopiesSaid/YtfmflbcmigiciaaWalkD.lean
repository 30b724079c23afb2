/- Chapter 05: put, Send. -/
import Derived.Test.YtfmflbcmigiciaaWalkC
import Derived.Deep.RegionLaw
namespace Go.Proofs.Ytfmflbcmigiciaa
open Go.RowKit

theorem put_no (G n c : Nat) (A : Option Addr) (N : Int) (cut : Nat → Nat → Bool) (x : Raw) (w : World) (h : Blk w G 56 (netA (.slice A n c) 64 N cut)) (hn : 64 ≤ n) :
    Calls Try.prog 28 #[.pointer (some ⟨G, 0, none⟩), .agg #[.int .i64 x.f, .int .i64 x.t, .slice x.A x.n x.c]] w fun e w' => e = .returned (.bool false) ∧ Below w.heap.size w w' := by
  have hb0 : Below w.heap.size w (w.alloc (.cells #[.int .i64 x.f, .int .i64 x.t, .slice x.A x.n x.c] 33)) := (Below.refl _ _).alloc (Nat.le_refl _) _
  have hG := h.below hb0 h.lt
  have g0 := (h.cell 0).trans (netA_lo _ _ _ _).1
  have g1 := (h.cell 1).trans (netA_lo _ _ _ _).2.1
  have gl := h.lt
  have d1 : decide ((64 : Int) ≤ n) = true := decide_eq_true (by omega)
  clear h hG
  go_enter Try.func28, Try.ntmps28
  go_wp2_with fail
  go_quiet (fail)
  go_wp2_with fail
  go_ret
  exact ⟨rfl, below_drewN hb0 _⟩

theorem own_below0 {B : Nat} {e : TypeId} {k : Nat} {v : Value} {n : Nat} {xs : List Value} {w w' : World} (h : w.ownsRow B e k v n xs) (hb : Below w.heap.size w w') : w'.ownsRow B e k v n xs := own_far (S := fun _ => False) h (Far.of_below hb) (fun _ _ => id)
def putSp (H G n c : Nat) (A : Option Addr) (x : Raw) : List (Tmp × Rg.Spec) :=
  [(15, .is (.pointer (some ⟨G, 0, none⟩))), (16, .is (.pointer (some ⟨G, 0, none⟩))), (17, .is (.pointer (some ⟨G, 0, none⟩))), (18, .is (.pointer (some ⟨G, 0, none⟩))), (19, .is (.slice A n c)), (20, .is (.agg #[.int .i64 x.f, .int .i64 x.t, .slice x.A x.n x.c])), (21, .blk H (fun g => .slice (some ⟨g, 0, none⟩) 1 1) 33 #[.int .i64 x.f, .int .i64 x.t, .slice x.A x.n x.c])]

/-- Which blocks a net's own acts write: its own and its row's. -/
def wr (G : Nat) (A : Option Addr) (k : Nat) : Prop := k = G ∨ ∃ ad, A = some ad ∧ ad.block = k

theorem put_fin {G n c base c9 : Nat} {A A9 : Option Addr} {N : Int} {cut : Nat → Nat → Bool} {rs : List Raw} {x : Raw} {w W1 w9 : World} (hb1 : Below w.heap.size w W1) (hG1 : Blk W1 G 56 (netA (.slice A n c) 64 N cut)) (hne : some G ≠ (Value.slice A n c).ownBlock)
    (hgr : W1.drew.grownBy w9 (Value.slice A n c).ownBlock) (hown : w9.ownsRow base 33 3 (.slice A9 (n + 1) c9) (n + 1) (rs.flatMap Raw.cs ++ x.cs)) (hat : (Value.slice A9 (n + 1) c9).ownBlock = (Value.slice A n c).ownBlock ∨ (Value.slice A9 (n + 1) c9).ownBlock = some W1.drew.heap.size) :
    Far (wr G A) w (w9.setCell ⟨G, 0, none⟩ (.slice A9 (n + 1) c9)) ∧ ∃ A' c', Blk (w9.setCell ⟨G, 0, none⟩ (.slice A9 (n + 1) c9)) G 56 (netA (.slice A' (n + 1) c') 64 N cut) ∧ (w9.setCell ⟨G, 0, none⟩ (.slice A9 (n + 1) c9)).ownsRow base 33 3 (.slice A' (n + 1) c') (n + 1) ((rs ++ [x]).flatMap Raw.cs) ∧ ∀ k, wr G A' k → wr G A k ∨ w.heap.size ≤ k := by
  have hG9 := hG1.drew.grown hgr hne
  have hs : w.heap.size ≤ W1.drew.heap.size := hb1.size
  have F1 : Far (wr G A) w W1.drew := (Far.of_below hb1).drew
  have F2 : Far (wr G A) W1.drew w9 := Far.grown hgr fun k e => by
    cases A with
    | none => cases e
    | some ad => simp only [Value.ownBlock, Option.some.injEq] at e; exact .inr ⟨ad, rfl, e⟩
  refine ⟨(F1.trans F2 fun _ _ h => h).setCell (p := ⟨G, 0, none⟩) (.inl (.inl rfl)) _, A9, c9, ?_, ?_, ?_⟩
  · have := hG9.set_ 0 (.slice A9 (n + 1) c9)
    rwa [netA_set0] at this
  · rw [List.flatMap_append, List.flatMap_singleton]
    refine own_far hown ((Far.refl (fun k => k = G) w9).setCell (p := ⟨G, 0, none⟩) (.inl rfl) _) fun k e hk => ?_
    subst hk
    exact own_blk_ne hown hG9 (by decide) e
  · rintro k (hk | ⟨ad, rfl, hk⟩)
    · exact .inl (.inl hk)
    · rcases hat with hat | hat
      · cases A with
        | none => cases hat
        | some ad2 =>
          simp only [Value.ownBlock, Option.some.injEq] at hat
          exact .inl (.inr ⟨ad2, rfl, by omega⟩)
      · simp only [Value.ownBlock, Option.some.injEq] at hat
        exact .inr (by omega)

set_option maxHeartbeats 1000000 in
theorem put_yes (G n c base : Nat) (A : Option Addr) (N : Int) (cut : Nat → Nat → Bool) (rs : List Raw) (x : Raw) (w : World) (h : Blk w G 56 (netA (.slice A n c) 64 N cut)) (hn : n < 64) (hbase : base ≤ w.heap.size) (ho : w.ownsRow base 33 3 (.slice A n c) n (rs.flatMap Raw.cs)) :
    Calls Try.prog 28 #[.pointer (some ⟨G, 0, none⟩), .agg #[.int .i64 x.f, .int .i64 x.t, .slice x.A x.n x.c]] w fun e w' => e = .returned (.bool true) ∧ Far (wr G A) w w' ∧ ∃ A' c', Blk w' G 56 (netA (.slice A' (n + 1) c') 64 N cut) ∧ w'.ownsRow base 33 3 (.slice A' (n + 1) c') (n + 1) ((rs ++ [x]).flatMap Raw.cs) ∧ ∀ k, wr G A' k → wr G A k ∨ w.heap.size ≤ k := by
  obtain ⟨i0, hi, hz0, hz1, hz2⟩ := info_parts info33
  obtain ⟨W0, hW0⟩ : ∃ W0, W0 = w.alloc (.cells #[.int .i64 x.f, .int .i64 x.t, .slice x.A x.n x.c] 33) := ⟨_, rfl⟩
  have hb0 : Below w.heap.size w W0 := by rw [hW0]; exact (Below.refl _ _).alloc (Nat.le_refl _) _
  have hM : Blk W0 w.heap.size 33 #[.int .i64 x.f, .int .i64 x.t, .slice x.A x.n x.c] := by rw [hW0]; exact Blk.new _ _ _
  have hG := h.below hb0 h.lt
  have hO := own_below0 ho hb0
  have g0 := (hG.cell 0).trans (netA_lo _ _ _ _).1
  have g1 := (hG.cell 1).trans (netA_lo _ _ _ _).2.1
  have gl := hG.lt
  have d1 : decide ((64 : Int) ≤ n) = false := decide_eq_false (by omega)
  have HG := Lib.hid hG
  have HO := Lib.hid hO
  have HM := Lib.hid hM
  have hGl := h.lt
  clear h ho hG hO hM
  go_enter Try.func28, Try.ntmps28
  go_wp2_with fail
  rw [← hW0]
  have hs0 : W0.heap.size = w.heap.size + 1 := by rw [hW0]; simp
  clear hW0
  go_quiet (fail)
  go_wp2_with fail
  generalize hwd : W0.drewN nq = wd
  have hbd : Below W0.heap.size W0 wd := by rw [← hwd]; exact below_drewN (Below.refl _ _) nq
  have hsd : wd.heap.size = W0.heap.size := by rw [← hwd]; rfl
  have HGd := Lib.hid (HG.out.below hbd gl)
  have HOd := Lib.hid (own_below0 HO.out hbd)
  have HMd := Lib.hid (HM.out.below hbd HM.out.lt)
  have hbwd := hb0.trans (hbd.mono hb0.size)
  clear hwd g0 g1 d1 HG HO HM
  obtain ⟨W1, hW1⟩ : ∃ W1, W1 = wd.alloc (.cells #[.int .i64 x.f, .int .i64 x.t, .slice x.A x.n x.c] 33) := ⟨_, rfl⟩
  have hb1 : Below wd.heap.size wd W1 := by rw [hW1]; exact (Below.refl _ _).alloc (Nat.le_refl _) _
  have hgd := HGd.out
  have g0 := (hgd.cell 0).trans (netA_lo _ _ _ _).1
  have gl := hgd.lt
  obtain ⟨m0, m1, m2⟩ := blk_cell3 HMd.out
  have ml := HMd.out.lt
  have HO1 := Lib.hid (own_below0 HOd.out hb1)
  have hx1 : ∀ u ∈ x.cs, u.oneCell' = true := by
    intro u hu
    simp only [Raw.cs, List.mem_cons, List.not_mem_nil, or_false] at hu
    rcases hu with rfl | rfl | rfl <;> rfl
  have HR1 : Hid (Reads W1 W1.heap.size 3 (some ⟨wd.heap.size, 0, none⟩) 1 x.cs) := Lib.hid (by rw [hW1]; exact Reads.of_blk (Blk.new _ 33 #[.int .i64 x.f, .int .i64 x.t, .slice x.A x.n x.c]) rfl rfl)
  have HG1 := Lib.hid (hgd.below hb1 gl)
  have HX1 := Lib.hid hx1
  have hne : some G ≠ (Value.slice A n c).ownBlock := fun e => own_blk_ne HO1.out HG1.out (by decide) e.symm
  have HNE := Lib.hid hne
  have hstore : ∀ w9 : World, W1.drew.grownBy w9 (Value.slice A n c).ownBlock → w9.cell? ⟨G, 0, none⟩ = some (.slice A n c) ∧ G < w9.heap.size ∧ ∀ i, w9.frozen? ⟨G, i, none⟩ = false := fun w9 hg9 => by
    have hG9 := HG1.out.drew.grown hg9 HNE.out
    exact ⟨(hG9.cell 0).trans (netA_lo _ _ _ _).1, hG9.lt, hG9.frozen⟩
  have HS := Lib.hid hstore
  have hs1 : base ≤ W1.heap.size := by have := hb1.size; omega
  have HW1 := Lib.hid hW1
  have HB1 := Lib.hid (hb1.mono hbwd.size)
  have h40 : (n + 1) * 40 ≤ 140737488355328 := by omega
  have h63 : n + 1 ≤ maxLen := by simp only [maxLen]; omega
  have HSS := Lib.hid (show wd.heap.size = w.heap.size + 1 by omega)
  have hmw : w.heap.size < wd.heap.size := by omega
  clear hgd hx1 hW1 hb1 hsd hs0 hne hstore
  go_region_law (rw [← HW1.out]; refine step_append_any _ rfl (.tmp 19) (.tmp 21) 39 rfl base 33 i0 _ 3 40 Try.underlying39 hi hz0 hz1 hz2 rfl (by decide) (.slice A n c) n (rs.flatMap Raw.cs) rfl HO1.out _ (some ⟨wd.heap.size, 0, none⟩) 1 1 x.cs rfl HR1.out HX1.out h63 h40 hs1 ?_; intro v' w9 hown9 hgr9 hat9; obtain ⟨z0, zl, zf⟩ := HS.out _ hgr9; obtain ⟨A9, c9, rfl, hc91, hc92⟩ := own_form hown9)
  all_goals
    have HF := Lib.hid (put_fin (hbwd.trans (Hid.out HB1)) HG1.out HNE.out (by assumption) (by assumption) (by assumption))
    clear hown9 hat9
    go_wp2_with fail
    go_ret
    exact ⟨rfl, HF.out⟩
end Go.Proofs.Ytfmflbcmigiciaa
