/- Chapter 14: the write set of an entry. -/
import Derived.Test.YtcmidhecmhbeoaaWalkD
namespace Go.Proofs.Ytcmidhecmhbeoaa
open Go.RowKit

/-- A row of places of a call's own, handed back. -/
def Gives (w : World) (l : List Pl) (e : Ending) (w' : World) : Prop :=
  ∃ A' c', e = .returned (.slice A' l.length c') ∧ Below w.heap.size w w' ∧ l.length ≤ c' ∧ c' ≤ maxLen ∧ w'.ownsRow w.heap.size 37 2 (.slice A' l.length c') l.length (l.flatMap Pl.cs)
theorem gives_nil {w w' : World} (h : Below w.heap.size w w') : Gives w [] (.returned (.slice none 0 0)) w' := ⟨none, 0, rfl, h, Nat.le_refl _, Nat.zero_le _, rfl, .inl ⟨rfl, rfl⟩⟩

theorem own_low {w : World} {base base' : Nat} {e : TypeId} {size n : Nat} {v : Value} {xs : List Value} (h : w.ownsRow base e size v n xs) (hb : base' ≤ base) : w.ownsRow base' e size v n xs := by
  obtain ⟨h1, h2⟩ := h
  refine ⟨h1, ?_⟩
  rcases h2 with h2 | ⟨g, cap, cur, a, b, c⟩
  · exact .inl h2
  · exact .inr ⟨g, cap, cur, a, Nat.le_trans hb b, c⟩

set_option maxHeartbeats 2000000 in
theorem set_any (first n W : Int) (l : List Pl) (A : Option Addr) (c g o k1 : Nat) (w : World) (hf : FC w g o first A l.length c) (hp : PR w w.heap.size A l) (hg : g < w.heap.size) (hl : l.length ≤ 100000)
    (hn0 : 0 ≤ first) (hn1 : n ≤ 18446744073709551615) :
    Calls Try.prog 18 #[.slice (some ⟨g, o, none⟩) 1 k1, .int .i64 W, .int .u64 n] w fun e w' => Gives w (setP first l W n) e w' := by
  have HP := Lib.hid hp
  have HF := Lib.hid hf
  clear hp hf
  by_cases hfn : first ≤ n
  · by_cases hW : 1 ≤ W ∧ W ≤ l.length
    · obtain ⟨hW1, hW2⟩ := hW
      have hset : setP first l W n = round l ((n - first) % l.length).toNat W.toNat := by unfold setP; rw [if_neg (by omega)]
      rw [hset]
      clear hset
      go_enter Try.func18, Try.ntmps18
      go_wp2_with fail
      refine (frag_yes first n l A c g o k1 w HF.out HP.out hg hl hfn).mono ?_
      rintro e w1 ⟨A', c', rfl, hb1, hc1, hc2, hp1⟩
      go_wp2_with fail
      have hb2 := hb1.alloc hb1.size (.cells #[.int .u64 first, .slice A' l.length c'] 25)
      have hk := Blk.new w1 25 #[.int .u64 first, .slice A' l.length c']
      have hp2 : PR (w1.alloc (.cells #[.int .u64 first, .slice A' l.length c'] 25)) w1.heap.size A' l := hp1.alloc (Nat.le_refl _) _
      generalize w1.alloc (.cells #[.int .u64 first, .slice A' l.length c'] 25) = W1 at hb2 hk hp2 ⊢
      have hgl := hk.lt
      clear hb1 hp1 HP HF
      refine Seg.region [(11, true), (2, false)] (by kernel_rfl) (by kernel_rfl) ?_
      intro ι _ f hf hx
      simp only [List.take_succ_cons, List.take_zero, List.drop_succ_cons, List.drop_zero]
      have hf := fun i => below_of_drew (hf i)
      have c0 : ∀ i, (f i).cell? ⟨w1.heap.size, 0, none⟩ = some (.int .u64 first) := fun i => (hk.below (hf i) hgl).cell 0
      have c1 : ∀ i, (f i).cell? ⟨w1.heap.size, 1, none⟩ = some (.slice A' l.length c') := fun i => (hk.below (hf i) hgl).cell 1
      have HF := Lib.hid hf
      have HB := Lib.hid (fun i => hb2.trans ((hf i).mono hb2.size))
      clear hf hk hb2
      repeat (go_big_quiet_step ((fail)))
      refine wpQuiet_nil ?_
      intro i
      have hBi := HB.out i
      simp only [Seg.Walk]
      have hpi : PR (f i) w1.heap.size A' l := hp2.below ((HF.out i).mono (Nat.le_of_lt hgl))
      have hsi := Nat.le_trans (Nat.le_of_lt hgl) (HF.out i).size
      clear HF HB hf c0 c1 hp2
      generalize f i = Wi at hBi hpi hsi ⊢
      go_wp2_with fail
      have hk0 : (((n - first) % (l.length : Int)).toNat : Int) = (n - first) % (l.length : Int) := Int.toNat_of_nonneg (Int.emod_nonneg _ (by omega))
      have hk1 : (n - first) % (l.length : Int) < l.length := Int.emod_lt_of_pos _ (by omega)
      have hW0 : ((W.toNat : Nat) : Int) = W := Int.toNat_of_nonneg (by omega)
      have hwr : wrap64 ((n - first) % (l.length : Int)) = ((n - first) % (l.length : Int)).toNat := by rw [hk0]; (unfold wrap64; omega)
      rw [hwr]
      have hC := from_any l A' c' ((n - first) % (l.length : Int)).toNat W.toNat _ _ hpi hsi (.inl (by omega)) (by omega) (by omega) hl
      rw [hW0] at hC
      refine hC.mono ?_
      rintro e w5 ⟨A5, c5, rfl, hb5, h51, h52, ho5⟩
      clear hC
      have hb6 := hBi.trans (hb5.mono hBi.size)
      go_wp2_with fail
      simp only [Seg.thenK]
      go_wp2_with fail
      go_ret
      have ho6 := own_low ho5 hBi.size
      have hrl := round_len l ((n - first) % (l.length : Int)).toNat W.toNat
      refine ⟨A5, c5, ?_, hb6, ?_, h52, ?_⟩
      · rw [hrl]; rfl
      · rw [hrl]; exact h51
      · rw [hrl]; exact ho6
    · have hset : setP first l W n = [] := by unfold setP; rw [if_pos (by omega)]
      rw [hset]
      clear hset
      by_cases hW1 : W < 1
      · go_enter Try.func18, Try.ntmps18
        go_wp2_with fail
        refine (frag_yes first n l A c g o k1 w HF.out HP.out hg hl hfn).mono ?_
        rintro e w1 ⟨A', c', rfl, hb1, hc1, hc2, hp1⟩
        clear hp1
        go_wp2_with fail
        go_ret
        exact gives_nil (hb1.alloc hb1.size _)
      · have hW2 : (l.length : Int) < W := by omega
        go_enter Try.func18, Try.ntmps18
        go_wp2_with fail
        refine (frag_yes first n l A c g o k1 w HF.out HP.out hg hl hfn).mono ?_
        rintro e w1 ⟨A', c', rfl, hb1, hc1, hc2, hp1⟩
        clear hp1
        go_wp2_with fail
        go_ret
        exact gives_nil (hb1.alloc hb1.size _)
  · have hset : setP first l W n = [] := by unfold setP; rw [if_pos (by omega)]
    rw [hset]
    clear hset
    go_enter Try.func18, Try.ntmps18
    go_wp2_with fail
    refine (frag_no first n l A c g o k1 w HF.out hg (by omega)).mono ?_
    rintro e w1 ⟨rfl, hb1⟩
    go_wp2_with fail
    go_ret
    exact gives_nil (hb1.alloc hb1.size _)
end Go.Proofs.Ytcmidhecmhbeoaa
