/- StripeFresh, plain: what a renewed fragment is. -/
import Derived.Test.YtcmidhecmhbeoaaRenA
import Derived.Test.YtcmidhecmhbeoaaPlainR
namespace Go.Proofs.Ytcmidhecmhbeoaa
open Go.RowKit

def NodesU (s : List Pl) : Prop := ∀ (i k : Nat) (x y : Pl), s[i]? = some x → s[k]? = some y → x.n = y.n → i = k
theorem nodesU_of {s : List Pl} (h : (s.map (·.n)).Nodup) : NodesU s := by
  intro i k x y hi hk he
  obtain ⟨h1, h2⟩ := List.getElem?_eq_some_iff.1 hi
  obtain ⟨h3, h4⟩ := List.getElem?_eq_some_iff.1 hk
  have hp := List.pairwise_iff_getElem.1 (List.pairwise_map.1 h : s.Pairwise (fun a b => a.n ≠ b.n))
  rcases Nat.lt_trichotomy i k with hh | hh | hh
  · exact absurd (by rw [h2, h4]; exact he) (hp i k h1 h3 hh)
  · exact hh
  · exact absurd (by rw [h2, h4]; exact he.symm) (hp k i h3 h1 hh)
theorem of_nodesU {s : List Pl} (h : NodesU s) : (s.map (·.n)).Nodup := by
  rw [List.nodup_iff_pairwise_ne, List.pairwise_iff_getElem]
  intro i j hi hj hij he
  simp only [List.length_map] at hi hj
  simp only [List.getElem_map] at he
  have := h i j _ _ (List.getElem?_eq_getElem hi) (List.getElem?_eq_getElem hj) he
  omega
theorem NodesU.nodup {s : List Pl} (h : NodesU s) : s.Nodup := nodup_of_nodes (of_nodesU h)
theorem idxP_nodup {s : List Pl} (h : s.Nodup) {j : Nat} {a : Pl} (hj : s[j]? = some a) : idxP s a = j := by
  refine idxP_at hj fun hm => ?_
  obtain ⟨i, hi⟩ := List.mem_iff_getElem?.1 hm
  rw [List.getElem?_take] at hi
  split at hi
  · have := get_inj h hi hj
    omega
  · cases hi
theorem swap_some {s r : List Pl} {j : Nat} {a y : Pl} (h : s.Nodup) (hj : s[j]? = some a) (hs : swapL s a y = some r) : r = s.set j y ∧ ∀ k, k ≠ j → (s[k]?).map (·.n) ≠ some y.n := by
  unfold swapL at hs
  rw [idxP_nodup h hj] at hs
  split at hs
  · cases hs
  · rename_i hc
    injection hs with hs
    refine ⟨by rw [← hs]; simp, fun k hk he => hc (.inr ?_)⟩
    unfold nodeB
    refine decide_eq_true ⟨k, ?_, by omega, he⟩
    cases hk2 : s[k]? with
    | none => rw [hk2] at he; cases he
    | some v => exact (List.getElem?_eq_some_iff.1 hk2).1
theorem swap_none {s : List Pl} {j : Nat} {a y : Pl} (h : s.Nodup) (hj : s[j]? = some a) (hs : swapL s a y = none) : ∃ k, k ≠ j ∧ (s[k]?).map (·.n) = some y.n := by
  unfold swapL at hs
  rw [idxP_nodup h hj] at hs
  split at hs
  · rename_i hc
    rcases hc with hc | hc
    · omega
    · unfold nodeB at hc
      obtain ⟨k, _, hk, he⟩ := of_decide_eq_true hc
      exact ⟨k, by omega, he⟩
  · cases hs
theorem nodesU_set {s : List Pl} {j : Nat} {y : Pl} (h : NodesU s) (hn : ∀ k, k ≠ j → (s[k]?).map (·.n) ≠ some y.n) : NodesU (s.set j y) := by
  intro i k x z hi hk he
  rw [List.getElem?_set] at hi hk
  by_cases h1 : j = i <;> by_cases h2 : j = k
  · omega
  · exfalso
    rw [if_pos h1] at hi
    rw [if_neg h2] at hk
    split at hi
    · injection hi with hi
      refine hn k (by omega) ?_
      rw [hk]; simp [hi, he]
    · cases hi
  · exfalso
    rw [if_neg h1] at hi
    rw [if_pos h2] at hk
    split at hk
    · injection hk with hk
      refine hn i (by omega) ?_
      rw [hi]; simp [hk, he]
    · cases hk
  · rw [if_neg h1] at hi
    rw [if_neg h2] at hk
    exact h i k x z hi hk he
theorem len_le_of_sub : ∀ (xs ys : List Int), xs.Nodup → (∀ x ∈ xs, x ∈ ys) → xs.length ≤ ys.length
  | [], _, _, _ => Nat.zero_le _
  | x :: xs, ys, hn, hs => by
    obtain ⟨h1, h2⟩ := List.nodup_cons.1 hn
    have hx : x ∈ ys := hs x (by simp)
    have ih := len_le_of_sub xs (ys.erase x) h2 fun z hz => (List.mem_erase_of_ne (fun e : z = x => h1 (by rw [← e]; exact hz))).2 (hs z (by simp [hz]))
    rw [List.length_erase_of_mem hx] at ih
    have := List.length_pos_of_mem hx
    simp only [List.length_cons]
    omega

structure P1 (l bad good : List Pl) (j : Nat) (s : List Pl × List Pl × Bool) : Prop where
  len : s.1.length = l.length
  nd : NodesU s.1
  rest : ∀ i, j ≤ i → s.1[i]? = l[i]?
  got : ∀ x ∈ s.1, x ∈ l ∨ x ∈ good
  keep : (keepL bad (l.take j)).Sublist (s.1.take j)
  bads : ∀ x ∈ s.1.take j, x ∈ bad → x ∈ s.2.1
  left : s.2.1.Sublist (s.1.take j)
  lbad : ∀ x ∈ s.2.1, x ∈ bad
  un : ∀ z ∈ s.2.1, ∀ y ∈ good, y.n ≠ z.n
  has : s.2.1 ≠ [] → ∀ y ∈ good, y.n ∈ s.1.map (·.n)

theorem P1.all {l bad good : List Pl} (hl : NodesU l) (hg : ∀ y ∈ good, y ∉ bad) (j : Nat) (hj : j ≤ l.length) : P1 l bad good j (st1 l bad good j) := by
  induction j with
  | zero =>
    rw [st1_zero]
    exact ⟨rfl, hl, fun i _ => rfl, fun x hx => .inl hx, by simp [keepL], by simp, by simp, by simp, by simp, by simp⟩
  | succ j ih =>
    obtain ⟨len, nd, rest, got, keep, bads, left, lbad, un, has⟩ := ih (by omega)
    have hx := List.getElem?_eq_getElem (show j < l.length by omega)
    generalize l[j] = x at hx
    rw [st1_succ hx]
    generalize st1 l bad good j = s at *
    have hsx : s.1[j]? = some x := (rest j (Nat.le_refl _)).trans hx
    have e1 := take_snoc? hx
    have e2 := take_snoc? hsx
    by_cases hb : x ∈ bad
    · have hkk : keepL bad (l.take (j + 1)) = keepL bad (l.take j) := by rw [e1, keepL_snoc, if_pos hb]
      cases hr : repL s.1 x good with
      | none =>
        rw [show ph1 bad good s x = (s.1, s.2.1 ++ [x], s.2.2) by unfold ph1; rw [if_pos hb, hr]]
        have hno : ∀ y ∈ good, ∃ k, k ≠ j ∧ (s.1[k]?).map (·.n) = some y.n := fun y hy => swap_none nd.nodup hsx (List.findSome?_eq_none_iff.1 hr y hy)
        refine ⟨len, nd, fun i hi => rest i (by omega), got, by rw [hkk, e2]; exact keep.trans (List.sublist_append_left _ _), ?_, ?_, ?_, ?_, ?_⟩
        · intro z hz hzb
          rw [e2] at hz
          rcases List.mem_append.1 hz with hz | hz
          · exact List.mem_append_left _ (bads z hz hzb)
          · exact List.mem_append_right _ hz
        · rw [e2]; exact left.append (List.Sublist.refl _)
        · intro z hz
          rcases List.mem_append.1 hz with hz | hz
          · exact lbad z hz
          · rw [List.mem_singleton.1 hz]; exact hb
        · intro z hz y hy
          rcases List.mem_append.1 hz with hz | hz
          · exact un z hz y hy
          · rw [List.mem_singleton.1 hz]
            intro he
            obtain ⟨k, hk, hkn⟩ := hno y hy
            cases hv : s.1[k]? with
            | none => rw [hv] at hkn; cases hkn
            | some v =>
              rw [hv] at hkn
              simp only [Option.map_some, Option.some.injEq] at hkn
              exact hk (nd k j v x hv hsx (hkn.trans he))
        · intro _ y hy
          obtain ⟨k, hk, hkn⟩ := hno y hy
          cases hv : s.1[k]? with
          | none => rw [hv] at hkn; cases hkn
          | some v =>
            rw [hv] at hkn
            simp only [Option.map_some, Option.some.injEq] at hkn
            exact List.mem_map.2 ⟨v, List.mem_of_getElem? hv, hkn⟩
      | some b =>
        rw [show ph1 bad good s x = (b, s.2.1, true) by unfold ph1; rw [if_pos hb, hr]]
        obtain ⟨y, hy, hsw⟩ := List.exists_of_findSome?_eq_some hr
        obtain ⟨rfl, hne⟩ := swap_some nd.nodup hsx hsw
        have hjl : j < s.1.length := by omega
        have hbj : (s.1.set j y)[j]? = some y := by rw [List.getElem?_set]; simp [hjl]
        have hbt : (s.1.set j y).take (j + 1) = s.1.take j ++ [y] := by rw [take_snoc? hbj, List.take_set_of_le (Nat.le_refl _)]
        refine ⟨by rw [List.length_set]; exact len, nodesU_set nd hne, ?_, ?_, ?_, ?_, ?_, lbad, un, ?_⟩
        · intro i hi
          show (s.1.set j y)[i]? = l[i]?
          rw [List.getElem?_set, if_neg (by omega)]
          exact rest i (by omega)
        · intro z hz
          rcases List.mem_or_eq_of_mem_set hz with hz | hz
          · exact got z hz
          · rw [hz]; exact .inr hy
        · show (keepL bad (l.take (j + 1))).Sublist ((s.1.set j y).take (j + 1))
          rw [hkk, hbt]; exact keep.trans (List.sublist_append_left _ _)
        · intro z hz hzb
          rw [show ((s.1.set j y, s.2.1, true) : List Pl × List Pl × Bool).1 = s.1.set j y from rfl, hbt] at hz
          rcases List.mem_append.1 hz with hz | hz
          · exact bads z hz hzb
          · rw [List.mem_singleton.1 hz] at hzb
            exact absurd hzb (hg y hy)
        · show s.2.1.Sublist ((s.1.set j y).take (j + 1))
          rw [hbt]; exact left.trans (List.sublist_append_left _ _)
        · intro hle y' hy'
          show y'.n ∈ (s.1.set j y).map (·.n)
          obtain ⟨v, hv, hvn⟩ := List.mem_map.1 (has hle y' hy')
          obtain ⟨k, hk⟩ := List.mem_iff_getElem?.1 hv
          by_cases hkj : j = k
          · subst hkj
            obtain ⟨u, hu, hun⟩ := List.mem_map.1 (has hle y hy)
            obtain ⟨k2, hk2⟩ := List.mem_iff_getElem?.1 hu
            have hk2j : k2 = j := Classical.byContradiction fun hn => hne k2 hn (by rw [hk2]; simp [hun])
            subst hk2j
            rw [hk2] at hk
            injection hk with hk
            refine List.mem_map.2 ⟨y, List.mem_of_getElem? hbj, ?_⟩
            rw [← hvn, ← hk]; exact hun.symm
          · refine List.mem_map.2 ⟨v, List.mem_of_getElem? (i := k) ?_, hvn⟩
            rw [List.getElem?_set, if_neg hkj]; exact hk
    · rw [show ph1 bad good s x = s by unfold ph1; rw [if_neg hb]]
      refine ⟨len, nd, fun i hi => rest i (by omega), got, ?_, ?_, ?_, lbad, un, has⟩
      · rw [e1, keepL_snoc, if_neg hb, e2]; exact keep.append (List.Sublist.refl _)
      · intro z hz hzb
        rw [e2] at hz
        rcases List.mem_append.1 hz with hz | hz
        · exact bads z hz hzb
        · rw [List.mem_singleton.1 hz] at hzb; exact absurd hzb hb
      · rw [e2]; exact left.trans (List.sublist_append_left _ _)
end Go.Proofs.Ytcmidhecmhbeoaa
