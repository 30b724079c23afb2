/- StripeFresh, plain: the second and the third phase, and the whole. -/
import Derived.Test.YtcmidhecmhbeoaaPlainF
import Derived.Test.YtcmidhecmhbeoaaWalkO
namespace Go.Proofs.Ytcmidhecmhbeoaa
open Go.RowKit

theorem ph2_erase {W : Int} {st : List Pl × Bool} {x : Pl} (h1 : W < st.1.length) (h2 : x ∈ st.1) : ph2 W st x = (st.1.erase x, true) := by
  rw [ph2_yes h1 h2, List.erase_eq_eraseIdx_of_idxOf (i := st.1.idxOf x) rfl, List.eraseIdx_eq_take_drop_succ]
theorem keepL_mem {bad l : List Pl} {x : Pl} : x ∈ keepL bad l ↔ x ∈ l ∧ x ∉ bad := by simp [keepL]

structure P2 (bad K : List Pl) (W : Int) (s : List Pl × List Pl × Bool) (k : Nat) (t : List Pl × Bool) : Prop where
  sub : t.1.Sublist s.1
  keep : K.Sublist t.1
  len : W ≤ t.1.length
  cond : (s.2.1.length : Int) + W ≤ s.1.length → t.1.length = s.1.length - k ∧ (∀ x ∈ t.1, x ∈ bad → x ∈ s.2.1.drop k) ∧ ∀ x ∈ s.2.1.drop k, x ∈ t.1

theorem P2.all {bad K : List Pl} {W : Int} {s : List Pl × List Pl × Bool} (hnd : s.1.Nodup) (hK : K.Sublist s.1) (hKb : ∀ x ∈ K, x ∉ bad) (hW : W ≤ s.1.length) (hbads : ∀ x ∈ s.1, x ∈ bad → x ∈ s.2.1) (hleft : s.2.1.Sublist s.1) (hlb : ∀ x ∈ s.2.1, x ∈ bad)
    (k : Nat) (hk : k ≤ s.2.1.length) : P2 bad K W s k (st2 W s k) := by
  have hlnd : s.2.1.Nodup := hnd.sublist hleft
  have hll := hleft.length_le
  induction k with
  | zero =>
    rw [st2_zero]
    exact ⟨List.Sublist.refl _, hK, hW, fun _ => ⟨by simp, fun x hx hb => by simpa using hbads x hx hb, fun x hx => hleft.subset (by simpa using hx)⟩⟩
  | succ k ih =>
    obtain ⟨sub, keep, len, cond⟩ := ih (by omega)
    have hkl : k < s.2.1.length := by omega
    have hx := List.getElem?_eq_getElem hkl
    have hdrop : s.2.1.drop k = s.2.1[k] :: s.2.1.drop (k + 1) := List.drop_eq_getElem_cons hkl
    have hxm : s.2.1[k] ∈ s.2.1 := List.getElem_mem hkl
    rw [st2_succ hx]
    generalize s.2.1[k] = x at *
    generalize st2 W s k = t at *
    have htn : t.1.Nodup := hnd.sublist sub
    have hxb := hlb x hxm
    by_cases hc : W < t.1.length ∧ x ∈ t.1
    · rw [ph2_erase hc.1 hc.2]
      have hel := List.length_erase_of_mem hc.2
      have hxK : x ∉ K := fun h => hKb x h hxb
      refine ⟨List.erase_sublist.trans sub, ?_, by show W ≤ ((t.1.erase x).length : Int); rw [hel]; omega, fun hh => ?_⟩
      · have := keep.erase x
        rwa [List.erase_of_not_mem hxK] at this
      · obtain ⟨c1, c2, c3⟩ := cond hh
        refine ⟨by show (t.1.erase x).length = _; rw [hel]; omega, fun z hz hzb => ?_, fun z hz => ?_⟩
        · have h1 := c2 z (List.mem_of_mem_erase hz) hzb
          rw [hdrop] at h1
          rcases List.mem_cons.1 h1 with h1 | h1
          · subst h1; exact absurd hz htn.not_mem_erase
          · exact h1
        · have hzx : z ≠ x := by
            intro e
            have h2 : (s.2.1.drop k).Nodup := hlnd.sublist (List.drop_sublist _ _)
            rw [hdrop] at h2
            exact (List.nodup_cons.1 h2).1 (e ▸ hz)
          exact (List.mem_erase_of_ne hzx).2 (c3 z (by rw [hdrop]; exact List.mem_cons_of_mem _ hz))
    · rw [ph2_no hc]
      refine ⟨sub, keep, len, fun hh => ?_⟩
      obtain ⟨c1, c2, c3⟩ := cond hh
      exact absurd ⟨by omega, c3 x (by rw [hdrop]; exact List.mem_cons_self)⟩ hc

structure P3 (K good b0 b : List Pl) (W : Int) : Prop where
  keep : K.Sublist b
  len : W ≤ b.length ∧ b.length ≤ 5
  nd : (b.map (·.n)).Nodup
  got : ∀ x ∈ b, x ∈ b0 ∨ x ∈ good
theorem P3.all {K good b0 : List Pl} {W e : Int} (h : P3 K good b0 b0 W) (k : Nat) (hk : k ≤ good.length) : P3 K good b0 (st3 e b0 good k) W := by
  induction k with
  | zero => exact h
  | succ k ih =>
    obtain ⟨keep, len, nd, got⟩ := ih (by omega)
    have hx := List.getElem?_eq_getElem (show k < good.length by omega)
    have hxm : good[k] ∈ good := List.getElem_mem _
    rw [st3_succ hx]
    generalize good[k] = x at *
    generalize st3 e b0 good k = b at *
    by_cases hc : (b.length : Int) < e ∧ b.length < 5 ∧ x.n ∉ b.map (·.n)
    · rw [ph3_yes hc]
      refine ⟨keep.trans (List.sublist_append_left _ _), by rw [List.length_append, List.length_singleton]; omega, ?_, fun z hz => ?_⟩
      · rw [List.map_append, List.nodup_append]
        refine ⟨nd, by simp, fun a ha c hcm => ?_⟩
        simp only [List.map_cons, List.map_nil, List.mem_singleton] at hcm
        rw [hcm]
        exact fun e => hc.2.2 (e ▸ ha)
      · rcases List.mem_append.1 hz with hz | hz
        · exact got z hz
        · rw [List.mem_singleton.1 hz]; exact .inr hxm
    · rw [ph3_no hc]
      exact ⟨keep, len, nd, got⟩

theorem renP_fresh {l bad kn b : List Pl} {W e : Int} (hl : mayL W l = true) (hk : mayL 0 kn = true) (h : renP l W e bad kn = some b) :
    mayL W b = true ∧ (keepL bad l).Sublist b ∧ (W ≤ (keepL bad kn).length → ∀ x ∈ b, x ∉ bad) := by
  unfold mayL at hl hk
  obtain ⟨hW, hl5, hlm, hln⟩ := of_decide_eq_true hl
  obtain ⟨_, _, hkm, hkn⟩ := of_decide_eq_true hk
  unfold renP at h
  simp only [] at h
  obtain ⟨good, hgd⟩ : ∃ g, keepL bad kn = g := ⟨_, rfl⟩
  have hgb : ∀ y ∈ good, y ∉ bad := fun y hy => (keepL_mem.1 (hgd ▸ hy)).2
  have hgm : ∀ y ∈ good, y ∈ kn := fun y hy => (keepL_mem.1 (hgd ▸ hy)).1
  have hgn : (good.map (·.n)).Nodup := by rw [← hgd]; exact hkn.sublist (List.filter_sublist.map _)
  rw [hgd] at h ⊢
  have p1 := P1.all (bad := bad) (good := good) (nodesU_of hln) hgb l.length (Nat.le_refl _)
  generalize st1 l bad good l.length = s at *
  have hst : s.1.take l.length = s.1 := List.take_of_length_le (by rw [p1.len]; exact Nat.le_refl _)
  have hlt : l.take l.length = l := List.take_of_length_le (Nat.le_refl _)
  have hkeep := p1.keep
  have hbads := p1.bads
  have hleft := p1.left
  rw [hst, hlt] at hkeep
  rw [hst] at hbads hleft
  have p2 := P2.all (W := W) p1.nd.nodup hkeep (fun x hx => (keepL_mem.1 hx).2) (by rw [p1.len]; exact hW) hbads hleft p1.lbad s.2.1.length (Nat.le_refl _)
  generalize st2 W s s.2.1.length = t at *
  split at h
  · injection h with h
    have htl := p2.sub.length_le
    have htn : (t.1.map (·.n)).Nodup := (of_nodesU p1.nd).sublist (p2.sub.map _)
    have hp1l := p1.len
    have p3 := P3.all (e := e) (⟨p2.keep, ⟨p2.len, by omega⟩, htn, fun x hx => .inl hx⟩ : P3 (keepL bad l) good t.1 t.1 W) good.length (Nat.le_refl _)
    rw [h] at p3
    refine ⟨?_, p3.keep, fun hg x hx hxb => ?_⟩
    · unfold mayL
      refine decide_eq_true ⟨p3.len.1, p3.len.2, fun x hx => ?_, p3.nd⟩
      rcases p3.got x hx with hx | hx
      · rcases p1.got x (p2.sub.subset hx) with hx | hx
        · exact hlm x hx
        · exact hkm x (hgm x hx)
      · exact hkm x (hgm x hx)
    · rcases p3.got x hx with hx | hx
      · have hc : (s.2.1.length : Int) + W ≤ s.1.length := by
          by_cases hle : s.2.1 = []
          · rw [hle, p1.len]; simpa using hW
          · have hn : (good.map (·.n) ++ s.2.1.map (·.n)).Nodup := by
              rw [List.nodup_append]
              refine ⟨hgn, (of_nodesU p1.nd).sublist (hleft.map _), fun a ha c hc he => ?_⟩
              obtain ⟨y, hy, rfl⟩ := List.mem_map.1 ha
              obtain ⟨z, hz, rfl⟩ := List.mem_map.1 hc
              exact p1.un z hz y hy he
            have := len_le_of_sub _ (s.1.map (·.n)) hn fun a ha => by
              rcases List.mem_append.1 ha with ha | ha
              · obtain ⟨y, hy, rfl⟩ := List.mem_map.1 ha
                exact p1.has hle y hy
              · exact (hleft.map _).subset ha
            simp only [List.length_append, List.length_map] at this
            omega
        have := (p2.cond hc).2.1 x hx hxb
        rw [List.drop_length] at this
        cases this
      · exact hgb x hx hxb
  · cases h
end Go.Proofs.Ytcmidhecmhbeoaa
