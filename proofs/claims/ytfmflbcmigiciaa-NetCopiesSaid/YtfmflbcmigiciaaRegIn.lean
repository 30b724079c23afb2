/- General: a region that draws its order, inside a round. -/
import Derived.Test.YtfmflbcmigiciaaStands
namespace Go.Proofs.Ytfmflbcmigiciaa
open Go.RowKit Go.Shelf

theorem rowsIn_wide' {P : Program} {n : Nat} {row : String} {args : Array Value} {w : World} {R : Value → World → Prop} (h : Rows P row args w R) : RowsIn Fence.wide n P row args w R :=
  fun c cs _ => let ⟨v, w', r, s⟩ := h c cs; ⟨v, w', r, stepsIn_wide.2 s⟩
theorem liftOp {P : Program} {l n : Nat} {o : Oper} {a : Act} {w : World} {K : Act → World → Prop} {Q : Exit → Act → World → Prop} (hd : ∀ c, o.op ≠ .defer c) (h : o.wp P a w K Q) : o.wpIn (Fence.wide.inRound l) n P a w K Q := by
  unfold Oper.wp at h
  refine ⟨fun f _ => trivial, ?_⟩
  rw [Oper.semAt_eq _ _ _ hd]
  generalize (execOp a.eval o).run P w = r at h ⊢
  cases r with
  | ok x w' =>
    cases x <;> simp only [Oper.upon, Oper.uponIn] at h ⊢ <;>
      first
        | exact h
        | exact ⟨fun h => (by cases h), CallsIn.inRound l (callsIn_wide.2 h)⟩
        | exact ⟨fun h => (by cases h), rowsIn_wide' h⟩
  | halt x w' => cases x <;> simp only [Oper.upon, Oper.uponIn] at h ⊢ <;> exact h
theorem liftWpOp {P : Program} {ops : Array Oper} {l n : Nat} {Q : Exit → Act → World → Prop} (hd : ∀ (j : Nat) (o : Oper), ops[j]? = some o → ∀ c, o.op ≠ .defer c) (hl : ¬ LetsOut Q) {i : Nat} {K : Act → World → Prop} {a : Act} {w : World}
    (h : wpOp P ops Q i K a w) : wpOpIn (Fence.wide.inRound l) n P ops Q i K a w := by
  unfold wpOp at h
  unfold wpOpIn
  cases ho : ops[i]? with
  | none => rw [ho] at h; exact h
  | some o =>
    rw [ho] at h
    simp only at h ⊢
    split
    · rename_i hw
      rw [if_pos hw] at h
      exact h.elim (liftOp (hd i o ho)) (fun h => absurd h.2 hl)
    · rename_i hw
      rw [if_neg hw] at h
      exact ⟨fun f _ => trivial, h⟩
theorem liftAny {P : Program} {ops : Array Oper} {l n : Nat} {Q : Exit → Act → World → Prop} (hd : ∀ (j : Nat) (o : Oper), ops[j]? = some o → ∀ c, o.op ≠ .defer c) (hl : ¬ LetsOut Q) : ∀ (fuel : Nat) (listed : Array Bool) (a : Act) (w : World),
    wpAny P .any ops Q fuel listed a w → wpAnyIn (Fence.wide.inRound l) n P .any ops Q fuel listed a w
  | 0, _, _, _, h => h
  | fuel + 1, _, _, _, h => ⟨h.1, fun i hi => wpOpIn_mono (fun a w => liftAny hd hl fuel _ a w) (liftWpOp hd hl (h.2 i hi))⟩
theorem regionIn_of_any {P : Program} {id : Nat} {l : List Oper} {ll rn : Nat} {Q : Exit → Act → World → Prop} {a : Act} {w : World} (hm : P.follows .mixedOrders = true) (hdf : (l.all fun o => match o.op with | .defer _ => false | _ => true) = true) (hlq : ¬ LetsOut Q)
    (h : wpAny P .any l.toArray Q l.toArray.size (Array.replicate l.toArray.size false) a { w with drawn := w.drawn + 1 }) : (Code.region id l.toArray true).wpIn (Fence.wide.inRound ll) rn P Q a w :=
  wpIn_region_any hm (liftAny (fun j o ho c hc => by
    have := List.all_eq_true.1 hdf o (List.mem_of_getElem? (by simpa using ho))
    rw [hc] at this
    cases this) hlq _ _ _ _ h)

namespace Rg
section
variable {P : Program} {ops : Array Oper}
/-- **A region that draws its order: a head of n operations in whatever order, and a tail in one forced order.** -/
theorem anyRegion {Q : Exit → Act → World → Prop} {a : Act} {w : World} {l : List Oper} (n : Nat) (specs : List (Tmp × Spec))
    (hB : (Seg.backB l.toArray && okB l.toArray (specs.map (·.1)) n && Seg.boundB l.toArray n && decide (n ≤ l.length) &&
      ((List.range (l.length - n)).all fun j => decide (Region.ready .any l.toArray (Seg.pre l.toArray.size (n + j)).toArray = [n + j]))) = true)
    (H : ∀ o ∈ l.take n, Step P l.toArray Q specs a w o)
    (hQ : ∀ vals w', Below w.heap.size w w' → (∀ o ∈ l.take n, ∀ d, o.dst = some d → S specs d (vals d) w') → wpList P l.toArray Q (l.drop n) (fr specs a vals) w') : wpAny P .any l.toArray Q l.toArray.size (Array.replicate l.toArray.size false) a { w with drawn := w.drawn + 1 } := by
  simp only [Bool.and_eq_true, decide_eq_true_eq] at hB
  obtain ⟨⟨⟨⟨hb, hok⟩, hbd⟩, hn⟩, hseq⟩ := hB
  have hmem : ∀ j o, j < n → l.toArray[j]? = some o → o ∈ l.take n := fun j o hj ho => by
    have : (l.take n)[j]? = some o := by rw [List.getElem?_take_of_lt hj]; simpa using ho
    exact List.mem_of_getElem? this
  have hfr : fr specs a (fun t => a.tmps.getD t undef) = a := by
    have h1 := foldl_tmps (fun t => a.tmps.getD t undef) (specs.map (·.1)) a
    have e1 : (fr specs a (fun t => a.tmps.getD t undef)).tmps = a.tmps := by
      apply Array.ext_getElem?
      intro t
      unfold fr
      rw [h1.2.2 t]
      split
      · rename_i h
        simp [h.2]
      · rfl
    have e2 : (fr specs a (fun t => a.tmps.getD t undef)).defers = a.defers := h1.1
    cases h3 : fr specs a (fun t => a.tmps.getD t undef)
    rw [h3] at e1 e2
    cases a
    simp only at e1 e2
    rw [e1, e2]
  have := phase (P := P) (ops := l.toArray) (Q := Q) (F := l.length - n) (a := a) (w := w) hb (by simpa using hn) hok hbd (fun j o hj ho => H o (hmem j o hj ho))
    (fun vals w' hB' hS => by
      have hlen : (l.drop n).length = l.length - n := by simp
      have hs := Seg.seq (P := P) (ops := l.toArray) (Q := Q) (K := fun a w => Q .normal a w) (F := 0) (l.drop n) n (fr specs a vals) w'
        (fun j o hj => by rw [List.getElem?_drop] at hj; simpa using hj) (by rw [hlen]; exact hseq)
        (fun a w hk => by
          refine ⟨?_, hk⟩
          apply List.eq_nil_iff_forall_not_mem.2
          intro i hi
          obtain ⟨h1, o, ho, _⟩ := mem_ready.1 hi
          have h2 := (Array.getElem?_eq_some_iff.1 ho).1
          rw [Seg.pre_get, if_pos h2] at h1
          rw [hlen] at h1
          simp at h1 h2
          omega)
        (by
          have := hQ vals w' hB' (fun o ho d hd => by
            obtain ⟨j, hj, he⟩ := List.mem_iff_getElem.1 ho
            have hjn : j < n := by simp at hj; omega
            refine hS j o d hjn ?_ hd
            rw [List.getElem_take] at he
            simp [← he])
          have e : Seg.thenK Q (fun a w => Q .normal a w) = Q := by
            funext e a w
            cases e <;> rfl
          rw [e]
          exact this)
      rw [hlen] at hs
      simpa using hs)
    n (Seg.pre n 0) (fun t => a.tmps.getD t undef) { w with drawn := w.drawn + 1 } (Seg.pre_len _ _) (by rw [Seg.pre_count _ _ (by omega)]; omega)
    (by
      intro j o _ hl
      exfalso
      have : (Seg.pre n 0 ++ List.replicate (l.toArray.size - n) false).toArray.getD j false = false := by
        by_cases hj : j < n
        · simp only [Array.getD_eq_getD_getElem?, List.getElem?_toArray]
          rw [List.getElem?_append_left (by rw [Seg.pre_len]; exact hj)]
          simp [Seg.pre, hj]
        · have e0 : (Seg.pre n 0)[j]? = none := List.getElem?_eq_none (by rw [Seg.pre_len]; omega)
          simp only [Array.getD_eq_getD_getElem?, List.getElem?_toArray]
          rw [List.getElem?_append_right (by rw [Seg.pre_len]; omega), List.getElem?_replicate]
          split <;> rfl
      rw [this] at hl; cases hl) (Below.refl _ _).drew
    (fun j o d hj hL => by
      exfalso
      simp [Seg.pre, hj] at hL)
  have e : (Seg.pre n 0 ++ List.replicate (l.toArray.size - n) false).toArray = Array.replicate l.toArray.size false := by
    apply Array.ext'
    simp only [Array.toList_replicate]
    refine List.eq_replicate_iff.2 ⟨by simp [Seg.pre]; omega, fun b hb => ?_⟩
    rcases List.mem_append.1 hb with h | h
    · simp [Seg.pre] at h; exact h.2
    · exact (List.mem_replicate.1 h).2
  rw [e, hfr, show n + (l.length - n) = l.toArray.size by simp; omega] at this
  exact this
end
end Rg
namespace Rs
open Rg
section
variable {P : Program} {ops : Array Oper}
theorem regionIn {id : Nat} {ll rn : Nat} {Q : Exit → Act → World → Prop} {a : Act} {w : World} {l : List Oper} (n : Nat) (specs : List (Tmp × Rg.Spec)) (D : List Tmp) (hD : specs.map (·.1) = D) (hN : D.Nodup) (hm : P.follows .mixedOrders = true) (hdf : (l.all fun o => match o.op with | .defer _ => false | _ => true) = true) (hlq : ¬ LetsOut Q)
    (hB : (Seg.backB l.toArray && okB l.toArray D n && Seg.boundB l.toArray n && decide (n ≤ l.length) &&
      ((List.range (l.length - n)).all fun j => decide (Region.ready .any l.toArray (Seg.pre l.toArray.size (n + j)).toArray = [n + j]))) = true)
    (hG : ((l.take n).all fun o => okG l.toArray D a.tmps.size o) = true)
    (H : ∀ vals W, Below w.heap.size w W → StepsL P l.toArray Q specs D a vals W (l.take n))
    (hQ : ∀ vals W, Below w.heap.size w W → looks specs vals W ((l.take n).filterMap (·.dst)) → wpList P l.toArray Q (l.drop n) (frm D a vals) W) : (Code.region id l.toArray true).wpIn (Fence.wide.inRound ll) rn P Q a w := by
  subst hD
  refine regionIn_of_any hm hdf hlq ?_
  refine Rg.anyRegion n specs hB (fun o ho => Rg.step_walk fun vals W hb hS => ?_) (fun vals W hb hS => ?_)
  · obtain ⟨h1, h2⟩ := stepsL_mem (H vals W hb) ho (looks_of _ (fun t ht => by
      have := List.mem_filter.1 ht
      exact hS t this.1 (by simpa using this.2)))
    refine ⟨wanted_of (List.all_eq_true.1 hG o ho) h1, fun K hK => h2 K (fun v w'' hb' hv => hK v w'' hb' (fun d hd => ?_))⟩
    rw [hd] at hv
    exact of_look hN hv
  · refine hQ vals W hb (looks_of _ (fun t ht => ?_))
    obtain ⟨o, ho, hd⟩ := List.mem_filterMap.1 ht
    exact hS o ho t hd
end
end Rs
end Go.Proofs.Ytfmflbcmigiciaa
