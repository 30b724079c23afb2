/- Chapter 14: a fragment's write sets, gone over; whether a fragment is covered. -/
import Derived.Test.YtcmidhecmhbeoaaWalkD
import Derived.Test.YtcmidhecmhbeoaaRf
namespace Go.Proofs.Ytcmidhecmhbeoaa
open Go.RowKit Go.Shelf

attribute [local go_sem] Oper.semAt_some

set_option maxRecDepth 100000 in
set_option maxHeartbeats 1000000 in
theorem sets1_any (n lp : Nat) (L : List Pl) (A : Option Addr) (c : Nat) (first : Int) (m bf bw : Nat) (J : Nat → World → Prop) (Jx : World → Prop) (hm0 : 0 < m) (hm1 : m ≤ L.length) (hL : L.length ≤ 100000)
    (hJc : ∀ k w, J k w → w.cell? ⟨bf, 0, none⟩ = some (.int .u64 first) ∧ w.cell? ⟨bf, 1, none⟩ = some (.slice A L.length c) ∧ w.cell? ⟨bw, 0, none⟩ = some (.int .i64 m) ∧ PR w w.heap.size A L)
    (hJb : ∀ k w w', J k w → Below w.heap.size w w' → J k w')
    (hY : ∀ k w A' c', J k w → k < L.length → m ≤ c' → c' ≤ maxLen → Reads w w.heap.size 2 A' m ((round L k m).flatMap Pl.cs) →
      YieldAt Fence.wide (n - 1) Try.prog lp #[.slice A' m c'] w fun e w' => (e = .returned (.bool true) ∧ J (k + 1) w') ∨ (e = .returned (.bool false) ∧ Jx w'))
    (w : World) (h0 : J 0 w) :
    CallsIn Fence.wide n Try.prog 55 #[.func (.yield lp) #[] #[], .pointer (some ⟨bf, 0, none⟩), .pointer (some ⟨bw, 0, none⟩)] w fun e w' => (∃ v, e = .returned v) ∧ (J L.length w' ∨ Jx w') := by
  refine callsIn_of_wp Try.func55 rfl trivial ?_ rfl
  simp only [Try.ntmps55, List.size_toArray, List.length_cons, List.length_nil, Nat.reduceAdd, Nat.reduceSub, Array.replicate_succ, Array.replicate_zero, List.push_toArray, List.append_toArray, List.nil_append, List.cons_append]
  obtain ⟨a0, a1, a2, hp⟩ := hJc 0 w h0
  clear hp
  gi_wp2
  clear a0 a1 a2
  gi_loopw [4, 8] (fun _ i wr => ∃ k : Nat, k ≤ L.length ∧ i = .int .i64 k ∧ J k wr) (fun _ i _ => L.length - (intOf i).toNat)
  case atStart => exact ⟨0, Nat.zero_le _, rfl, h0⟩
  case round =>
    obtain ⟨k, hk, rfl, hj⟩ := hrel
    obtain ⟨a0, a1, a2, hp⟩ := hJc k wr hj
    by_cases hlt : k < L.length
    · have HP := Lib.hid hp
      clear hp
      gi_wp2_with fail
      refine ⟨trivial, fun h => (by cases h), CallsIn.mono (callsIn_wide.2 (from_any L A c k m _ _ HP.out (Nat.le_refl _) (.inl (by omega)) (by omega) (by omega) hL)) ?_⟩
      rintro e w1 ⟨A', c', rfl, hb1, hc1, hc2, ho1⟩
      have hj1 := hJb k _ _ hj hb1
      obtain ⟨fn, tmps, assign, body, hy, hR⟩ := hY k w1 A' c' hj1 hlt hc1 hc2 (Reads.of_own ho1)
      have HR := Lib.hid hR
      have HO := Lib.hid ho1
      clear ho1 hR a0 a1 a2 hb1
      gi_wp2_with fail
      refine ⟨fun h => (by cases h), HR.out.mono ?_⟩
      rintro e w2 (⟨rfl, hj2⟩ | ⟨rfl, hx⟩)
      · gi_wp2_with fail
        go_roundw
        case rel => exact ⟨k + 1, by omega, by go_num, hj2⟩
        case measure => simp [intOf]; omega
      · gi_wp2_with fail
        refine bodyPost_ret (results_none rfl _ _ _) rfl ?_
        exact ⟨⟨_, rfl⟩, .inr hx⟩
    · have hkl : k = L.length := by omega
      subst hkl
      gi_wp2_with fail
      go_end0
      exact ⟨⟨_, rfl⟩, .inl hj⟩

set_option maxHeartbeats 400000 in
theorem sets_any (first : Int) (A : Option Addr) (k c : Nat) (m : Int) (w : World) :
    Calls Try.prog 47 #[.agg #[.int .u64 first, .slice A k c], .int .i64 m] w fun e w' => e = .returned (.func (.func 55) #[] #[.pointer (some ⟨w.heap.size, 0, none⟩), .pointer (some ⟨w.heap.size + 1, 0, none⟩)]) ∧
      w' = (w.alloc (.cells #[.int .u64 first, .slice A k c] 25)).alloc (.cells #[.int .i64 m] 3) := by
  go_enter Try.func47, Try.ntmps47
  go_wp2_with fail
  go_ret
  exact ⟨rfl, rfl⟩

/-- The memory of Covered ahead of its loop. -/
def coverW (w : World) (first : Int) (A : Option Addr) (k c : Nat) (m : Nat) (a : Int) (A2 : Option Addr) (k2 c2 : Nat) : World :=
  (((((((w.alloc (Obj.cells #[Value.int IntKind.u64 first, Value.slice A k c] 25)).alloc (Obj.cells #[Value.int IntKind.i64 m] 3)).alloc (Obj.cells #[Value.int IntKind.i64 a] 3)).alloc (Obj.cells #[Value.slice A2 k2 c2] 23)).alloc
    (Obj.cells #[Value.bool false] 4)).alloc (Obj.cells #[Value.int IntKind.u64 first, Value.slice A k c] 25)).alloc (Obj.cells #[Value.int IntKind.i64 m] 3))
theorem blk_newAt {w : World} {g : Nat} (h : w.heap.size = g) (t : TypeId) (cs : Array Value) : Blk (w.alloc (.cells cs t)) g t cs := h ▸ Blk.new w t cs
theorem coverW_facts (w : World) (first : Int) (A : Option Addr) (k c : Nat) (m : Nat) (a : Int) (A2 : Option Addr) (k2 c2 : Nat) :
    (coverW w first A k c m a A2 k2 c2).heap.size = w.heap.size + 1 + 1 + 1 + 1 + 1 + 1 + 1 ∧ Below w.heap.size w (coverW w first A k c m a A2 k2 c2) ∧
      Blk (coverW w first A k c m a A2 k2 c2) w.heap.size 25 #[.int .u64 first, .slice A k c] ∧ Blk (coverW w first A k c m a A2 k2 c2) (w.heap.size + 1) 3 #[.int .i64 m] ∧ Blk (coverW w first A k c m a A2 k2 c2) (w.heap.size + 1 + 1) 3 #[.int .i64 a] ∧
      Blk (coverW w first A k c m a A2 k2 c2) (w.heap.size + 1 + 1 + 1) 23 #[.slice A2 k2 c2] ∧ Blk (coverW w first A k c m a A2 k2 c2) (w.heap.size + 1 + 1 + 1 + 1) 4 #[.bool false] ∧
      Blk (coverW w first A k c m a A2 k2 c2) (w.heap.size + 1 + 1 + 1 + 1 + 1) 25 #[.int .u64 first, .slice A k c] ∧ Blk (coverW w first A k c m a A2 k2 c2) (w.heap.size + 1 + 1 + 1 + 1 + 1 + 1) 3 #[.int .i64 m] := by
  unfold coverW
  refine ⟨by simp, ?_, ?_, ?_, ?_, ?_, ?_, ?_, ?_⟩
  · exact (((((((Below.refl _ _).alloc (Nat.le_refl _) _).alloc (by simp) _).alloc (by simp; omega) _).alloc (by simp; omega) _).alloc (by simp; omega) _).alloc (by simp; omega) _).alloc (by simp; omega) _
  · exact ((((((Blk.new _ _ _).alloc _).alloc _).alloc _).alloc _).alloc _).alloc _
  · exact (((((blk_newAt (by simp) _ _).alloc _).alloc _).alloc _).alloc _).alloc _
  · exact ((((blk_newAt (by simp) _ _).alloc _).alloc _).alloc _).alloc _
  · exact (((blk_newAt (by simp) _ _).alloc _).alloc _).alloc _
  · exact ((blk_newAt (by simp) _ _).alloc _).alloc _
  · exact (blk_newAt (by simp) _ _).alloc _
  · exact blk_newAt (by simp) _ _

set_option maxHeartbeats 2000000 in
theorem covered_any (first W a : Int) (l fr : List Pl) (A A2 : Option Addr) (c cap2 : Nat) (B : Nat) (w : World) (h : PR w B A l) (h2 : PR w B A2 fr) (hB : B ≤ w.heap.size) (hl : l.length ≤ 100000) (hr : fr.length ≤ 100000)
    (hw1 : -1000000 ≤ W) (hw2 : W ≤ 1000000) (ha1 : -1000000 ≤ a) (ha2 : a ≤ 1000000) :
    Calls Try.prog 20 #[.agg #[.int .u64 first, .slice A l.length c], .int .i64 W, .int .i64 a, .slice A2 fr.length cap2] w fun e w' => e = .returned (.bool (coverB l W a fr)) ∧ Below w.heap.size w w' := by
  have h := h.more hB
  have h2 := h2.more hB
  clear hB
  by_cases hW : 1 ≤ W ∧ W ≤ l.length
  · obtain ⟨hW1, hW2⟩ := hW
    obtain ⟨m, rfl⟩ : ∃ m : Nat, W = m := ⟨W.toNat, by omega⟩
    have H := Lib.hid h
    have H2 := Lib.hid h2
    clear h h2
    have hd1 : decide ((m : Int) < 1) = false := decide_eq_false (by omega)
    have hd2 : decide (l.length < m) = false := decide_eq_false (by omega)
    refine (callsIn_wide (n := 3)).1 ?_
    refine callsIn_of_wp_marks Try.func20 rfl trivial ?_ rfl
    simp only [Try.ntmps20, List.size_toArray, List.length_cons, List.length_nil, Nat.reduceAdd, Nat.reduceSub, Array.replicate_succ, Array.replicate_zero, List.push_toArray, List.append_toArray, List.nil_append, List.cons_append]
    gi_wp2_with fail
    refine ⟨trivial, CallsIn.mono (callsIn_wide.2 (sets_any first A l.length c m _)) ?_⟩
    rintro e w1 ⟨rfl, rfl⟩
    clear hd1 hd2
    gi_wp2_with fail
    obtain ⟨W0, hW0⟩ : ∃ W0, W0 = coverW w first A l.length c m a A2 fr.length cap2 := ⟨_, rfl⟩
    have hF := coverW_facts w first A l.length c m a A2 fr.length cap2
    have hW0' := hW0
    unfold coverW at hW0'
    rw [← hW0] at hF
    rw [← hW0']
    clear hW0 hW0'
    refine Rf.range (by decide) rfl (enters_of Try.func55 (by kernel_rfl) rfl) ?_
    obtain ⟨hs0, hb0, k0, k1, k2, k3, k4, k5, k6⟩ := hF
    rw [hs0]
    intro fn r W1 hr hl1 hd1 hb1 hs1
    have HD1 := Lib.hid hd1
    have hb01 := hb0.trans (hb1.mono (by omega))
    have q0 := Lib.hid (k0.below hb1 (by omega))
    have q1 := Lib.hid (k1.below hb1 (by omega))
    have q2 := Lib.hid (k2.below hb1 (by omega))
    have q3 := Lib.hid (k3.below hb1 (by omega))
    have q4 := Lib.hid (k4.below hb1 (by omega))
    have q5 := Lib.hid (k5.below hb1 (by omega))
    have q6 := Lib.hid (k6.below hb1 (by omega))
    clear hs0 hb0 hb1 k0 k1 k2 k3 k4 k5 k6
    refine CallsIn.mono (sets1_any 2 _ l A c first m _ _ (fun k W => Below (w.heap.size + 8) W1 W ∧ w.heap.size + 8 < W.heap.size ∧ W.heap[w.heap.size + 8]? = some (r .ready none) ∧ ∀ j, j < k → missB (round l j m) m a fr = true)
      (fun W => Below w.heap.size w W ∧ W.heap[w.heap.size + 7]? = some (.deferred (some [])) ∧ W.heap[w.heap.size + 8]? = some (r .done (some .ret)) ∧ Blk W (w.heap.size + 4) 4 #[.bool false] ∧ coverB l m a fr = false)
      (by omega) (by omega) hl ?_ ?_ ?_ W1 ⟨Below.refl _ _, by omega, hl1, by omega⟩) ?_
    · rintro k W ⟨hb, hs, _, _⟩
      have kk5 := q5.out.below hb (by omega)
      have kk6 := q6.out.below hb (by omega)
      exact ⟨kk5.cell 0, kk5.cell 1, kk6.cell 0, (H.out.below (hb01.trans (hb.mono (by omega)))).more (by omega)⟩
    · rintro k W W' ⟨hb, hs, hl, hm⟩ hb'
      exact ⟨hb.trans (hb'.mono (by omega)), Nat.lt_of_lt_of_le hs hb'.size, (hb'.block _ hs).trans hl, hm⟩
    · rintro k W A' c' ⟨hb, hs, hl, hm⟩ hk hc1 hc2 hrd
      refine Rf.yieldAt hr hl rfl ?_
      intro K hK
      have HK := Lib.hid hK
      have hro : (r .ready none).isCells = false := by rw [hr]; rfl
      have hrd2 := reads_put hrd hl hro (r .busy none)
      clear hr hK hro hrd hl1 hd1
      gi_wp2_with fail
      refine HK.out _ ?_
      clear HK K
      have hs' : w.heap.size + 8 < W.heap.size := hs
      have hbp := below_put hb (l := w.heap.size + 8) (by omega) (r .busy none) hs
      have hl2 := World.putObj_heap_same (o := r .busy none) hs
      have hsz := World.putObj_size (w := W) (r := w.heap.size + 8) (o := r .busy none)
      rw [← hsz] at hrd2
      generalize W.putObj (w.heap.size + 8) (r .busy none) = V at hbp hl2 hsz hrd2 ⊢
      have p1 := (q1.out.below hbp (by omega)).cell 0
      have p2 := (q2.out.below hbp (by omega)).cell 0
      have p3 := (q3.out.below hbp (by omega)).cell 0
      have p4b := q4.out.below hbp (by omega)
      have p4 := p4b.cell 0
      have p4f := p4b.frozen 0
      have l4 := p4b.lt
      have hrl := round_len l k m
      have hfr := (H2.out.below (hb01.trans (hbp.mono (by omega)))).more (show w.heap.size ≤ V.heap.size by omega)
      have hrp : PR V V.heap.size A' (round l k m) := by unfold PR; rw [hrl]; exact hrd2
      have C := missing_any (round l k m) fr m a A' A2 c' cap2 _ V hrp hfr (Nat.le_refl _) (by omega) (by omega) hr hw1 hw2 ha1 ha2
      rw [hrl] at C
      have HC := Lib.hid C
      have HL2 := Lib.hid hl2
      have HM := Lib.hid hm
      have P4 := Lib.hid p4b
      clear C hl2 hrd2 hrp hfr hrl p4b hm hl
      gi_wp2_with fail
      refine ⟨trivial, CallsIn.mono (CallsIn.inRound _ (callsIn_wide.2 HC.out)) ?_⟩
      rintro e V1 ⟨rfl, hbv⟩
      have HL3 := Lib.hid ((hbv.block _ (show w.heap.size + 8 < V.heap.size by omega)).trans HL2.out)
      have hbp1 := hbp.trans (hbv.mono (by omega))
      have hsv := hbv.size
      have b4 := P4.out.below hbv l4
      have B4 := Lib.hid b4
      have c4 := b4.cell 0
      have f4 := b4.frozen 0
      have g4 := b4.lt
      clear p1 p2 p3 p4 p4f b4 hbv
      cases hmv : missB (round l k m) m a fr with
      | true =>
        have HV := Lib.hid hmv
        clear hmv
        gi_wp2_with fail
        refine ⟨HL3.out, .inl ⟨rfl, below_put hbp1 (by omega) _ (by omega), ?_, World.putObj_heap_same (by omega), fun j hj => ?_⟩⟩
        · rw [World.putObj_size]; omega
        · rcases Nat.lt_or_ge j k with hh | hh
          · exact HM.out j hh
          · rw [show j = k by omega]; exact HV.out
      | false =>
        have HV := Lib.hid hmv
        clear hmv
        gi_wp2_with fail
        have hb5 : Below w.heap.size w (V1.setCell ⟨w.heap.size + 1 + 1 + 1 + 1, 0, none⟩ (.bool false)) := (hb01.trans (hbp1.mono (by omega))).setCell (p := ⟨w.heap.size + 1 + 1 + 1 + 1, 0, none⟩) (by simp; omega) _
        refine ⟨?_, .inr ⟨rfl, ?_⟩⟩
        · exact (Below.heap_setCell V1 _ _ _ (by simp; omega)).trans HL3.out
        · have hb6 := B4.out.set_ 0 (.bool false)
          have hd6 : (V1.setCell ⟨w.heap.size + 1 + 1 + 1 + 1, 0, none⟩ (.bool false)).heap[w.heap.size + 7]? = some (.deferred (some [])) := (Below.heap_setCell V1 _ _ _ (by simp)).trans ((hbp1.block _ (by omega)).trans HD1.out)
          have hs6 := size_setCell V1 ⟨w.heap.size + 1 + 1 + 1 + 1, 0, none⟩ (.bool false)
          refine ⟨below_put hb5 (by omega) _ (by omega), (World.putObj_heap_other (by omega)).trans hd6, World.putObj_heap_same (by omega), (World.putObj_heap_other (by omega)).trans hb6, ?_⟩
          refine decide_eq_false fun h => ?_
          have := h.2.2 k hk
          rw [show ((m : Int).toNat) = m by simp, HV.out] at this
          cases this
    · rintro e W2 ⟨⟨v, rfl⟩, ⟨hb2, hs2, hl2, hm2⟩ | ⟨hb2, hd2, hl2, hk2, hc2⟩⟩
      · have HD2 := (hb2.block _ (show w.heap.size + 7 < w.heap.size + 8 by omega)).trans HD1.out
        refine ⟨⟨_, rfl⟩, .inl ⟨hl2, ?_⟩⟩
        have hb3 := below_put hb2 (l := w.heap.size + 8) (by omega) (r .exhausted none) hs2
        have hs3 := World.putObj_size (w := W2) (r := w.heap.size + 8) (o := r .exhausted none)
        have hd3 := (World.putObj_heap_other (w := W2) (o := r .exhausted none) (show w.heap.size + 7 ≠ w.heap.size + 8 by omega)).trans HD2
        generalize W2.putObj (w.heap.size + 8) (r .exhausted none) = W3 at hb3 hs3 hd3 ⊢
        have b4 := q4.out.below hb3 (by omega)
        have c4 := b4.cell 0
        have f4 := b4.frozen 0
        have g4 := b4.lt
        have B4 := Lib.hid b4
        have D3 := Lib.hid hd3
        have HM := Lib.hid hm2
        clear hr b4 hd3 hm2 HD2 hl2 hd1 hl1
        gi_wp2_with fail
        have b6 := B4.out.set_ 0 (.bool true)
        have d6 : (W3.setCell ⟨w.heap.size + 1 + 1 + 1 + 1, 0, none⟩ (.bool true)).heap[w.heap.size + 7]? = some (.deferred (some [])) := (Below.heap_setCell W3 _ _ _ (by simp)).trans D3.out
        have s6 := size_setCell W3 ⟨w.heap.size + 1 + 1 + 1 + 1, 0, none⟩ (.bool true)
        have hb6 : Below w.heap.size w (W3.setCell ⟨w.heap.size + 1 + 1 + 1 + 1, 0, none⟩ (.bool true)) := (hb01.trans (hb3.mono (by omega))).setCell (p := ⟨w.heap.size + 1 + 1 + 1 + 1, 0, none⟩) (by simp; omega) _
        refine ⟨by simp, .inl ⟨_, _, rfl, run_takeDeferred d6, ?_⟩⟩
        have c6 := (show Blk ((W3.setCell ⟨w.heap.size + 1 + 1 + 1 + 1, 0, none⟩ (.bool true)).putObj (w.heap.size + 7) (.deferred none)) (w.heap.size + 1 + 1 + 1 + 1) 4 #[.bool true] from (World.putObj_heap_other (by omega)).trans b6).cell 0
        refine ⟨.bool true, ?_, ?_, below_put hb6 (by omega) _ (by omega)⟩
        · simp at c6
          simp [results, Try.f20, go_sem, c6]
        · exact ret_bool (decide_eq_true ⟨by omega, by omega, fun k hk => HM.out k hk⟩).symm
      · refine ⟨⟨_, rfl⟩, .inr ⟨_, hl2, ?_⟩⟩
        clear hr
        have hz2 : w.heap.size + 8 < W2.heap.size := (Array.getElem?_eq_some_iff.1 hl2).1
        have hb3 := below_put hb2 (l := w.heap.size + 8) (by omega) (r .exhausted (some .ret)) hz2
        have hs3 := World.putObj_size (w := W2) (r := w.heap.size + 8) (o := r .exhausted (some .ret))
        have hd3 := (World.putObj_heap_other (w := W2) (o := r .exhausted (some .ret)) (show w.heap.size + 7 ≠ w.heap.size + 8 by omega)).trans hd2
        have b3 : Blk (W2.putObj (w.heap.size + 8) (r .exhausted (some .ret))) (w.heap.size + 4) 4 #[.bool false] := (World.putObj_heap_other (by omega)).trans hk2
        generalize W2.putObj (w.heap.size + 8) (r .exhausted (some .ret)) = W3 at hb3 hs3 hd3 b3 ⊢
        clear hl2 hl1 hd1 hd2 hk2
        gi_wp2_with fail
        refine ⟨by simp, .inl ⟨_, _, rfl, run_takeDeferred hd3, ?_⟩⟩
        have c6 := (show Blk (W3.putObj (w.heap.size + 7) (.deferred none)) (w.heap.size + 1 + 1 + 1 + 1) 4 #[.bool false] from (World.putObj_heap_other (by omega)).trans b3).cell 0
        refine ⟨.bool false, ?_, ?_, below_put hb3 (by omega) _ (by omega)⟩
        · simp at c6
          simp [results, Try.f20, go_sem, c6]
        · exact ret_bool hc2.symm
  · have hc : coverB l W a fr = false := decide_eq_false (fun h => hW ⟨h.1, h.2.1⟩)
    have HC := Lib.hid hc
    clear hc h h2
    have hbb : Below w.heap.size w (((((w.alloc (Obj.cells #[Value.int IntKind.u64 first, Value.slice A l.length c] 25)).alloc (Obj.cells #[Value.int IntKind.i64 W] 3)).alloc (Obj.cells #[Value.int IntKind.i64 a] 3)).alloc (Obj.cells #[Value.slice A2 fr.length cap2] 23)).alloc
        (Obj.cells #[Value.bool false] 4)) := (((((Below.refl _ _).alloc (Nat.le_refl _) _).alloc (by simp) _).alloc (by simp; omega) _).alloc (by simp; omega) _).alloc (by simp; omega) _
    go_enter Try.func20, Try.ntmps20
    by_cases h1 : W < 1
    · go_wp2_with fail
      refine bodyPost_ret (v := .bool false) (by simp [results, Try.f20, go_sem]) rfl ⟨?_, hbb⟩
      rw [HC.out]
    · have h3 : decide (W < 1) = false := decide_eq_false h1
      have h2 : (l.length : Int) < W := by omega
      go_wp2_with fail
      refine bodyPost_ret (v := .bool false) (by simp [results, Try.f20, go_sem]) rfl ⟨?_, hbb⟩
      rw [HC.out]
end Go.Proofs.Ytcmidhecmhbeoaa
