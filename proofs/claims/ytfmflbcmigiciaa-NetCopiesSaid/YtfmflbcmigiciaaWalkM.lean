/- Chapter 05: Find on a net. -/
import Derived.Test.YtfmflbcmigiciaaWalkL
namespace Go.Proofs.Ytfmflbcmigiciaa
open Go.RowKit Go.Shelf

attribute [local go_sem] Oper.semAt_some

/-- A round whose head makes memory. -/
theorem Rf.yieldAtW {P : Program} {n : Nat} {l : Nat} {args : Array Value} {W : World} {R : Ending → World → Prop} {fn : FuncId} {tmps : Array Value} {ps : Array Tmp} {asg body : Code} {D : Nat} {r : LoopState → Option Code → Obj} (hr : r = Rf.lp fn tmps ps asg body D)
    (hl : W.heap[l]? = some (r .ready none)) (hs : args.size = ps.size)
    (h : ∀ K : Act → World → Prop, (∀ a₁ W', W'.heap[l]? = some (r .ready none) → body.wpIn (Fence.wide.inRound l) n P (Rf.rq l r R) a₁ (W'.putObj l (r .busy none)) → K a₁ W') →
      asg.wpIn (Fence.wide.inRound l) n P (Exit.then K (fun _ _ _ => False)) { tmps := (ps.zip args).foldl (fun t (p, v) => t.setIfInBounds p v) tmps, defers := [] } W) :
    YieldAt Fence.wide n P l args W R := by
  subst hr
  refine ⟨fn, _, asg, body, run_yield hl hs, roundIn_of_wpIn trivial (h _ (fun a₁ W' hl' hb => ⟨_, run_beginRound hl' rfl, wpIn_mono hb ?_⟩))⟩
  rintro e a' W' h
  cases e with
  | normal => exact ⟨_, _, run_endRound none h.1, h.2⟩
  | ret => exact ⟨_, _, run_endRound (some .ret) h.1, h.2⟩
  | exit id => exact ⟨_, _, run_endRound (some (.exit id)) h.1, h.2⟩
  | goto t => exact h.elim
  | panic c => exact h.elim
  | outgrown => exact h.elim

/-- Is the thing of a number one tt someone over an open link? -/
def hitB (N : Int) (cut : Nat → Nat → Bool) (l : List (Int × Int)) (tt : Int) (j : Nat) : Bool := match l[j]? with
  | some (f, t) => decide (t = tt) && openB N cut f tt
  | none => false
def findP (N : Int) (cut : Nat → Nat → Bool) (l : List (Int × Int)) (tt from_ : Int) : Option Nat := (List.range l.length).find? fun j => decide (from_.toNat ≤ j) && hitB N cut l tt j
theorem findP_none {N : Int} {cut : Nat → Nat → Bool} {l : List (Int × Int)} {tt from_ : Int} (h : ∀ j, from_.toNat ≤ j → j < l.length → hitB N cut l tt j = false) : findP N cut l tt from_ = none := by
  unfold findP
  rw [List.find?_eq_none]
  intro j hj
  have hj := List.mem_range.1 hj
  by_cases h1 : from_.toNat ≤ j
  · simp [h j h1 hj]
  · simp [h1]
theorem findP_some {N : Int} {cut : Nat → Nat → Bool} {l : List (Int × Int)} {tt from_ : Int} {k : Nat} (hk : k < l.length) (hf : from_.toNat ≤ k) (hh : hitB N cut l tt k = true) (h : ∀ j, from_.toNat ≤ j → j < k → hitB N cut l tt j = false) : findP N cut l tt from_ = some k := by
  unfold findP
  rw [List.find?_range_eq_some]
  refine ⟨by simp [hf, hh], List.mem_range.2 hk, fun j hj => ?_⟩
  by_cases h1 : from_.toNat ≤ j
  · simp [h j h1 hj]
  · simp [h1]
def findV (r : Option Nat) : Value := match r with
  | some k => .tuple #[.int .i64 k, .bool true]
  | none => .tuple #[.int .i64 0, .bool false]

/-- The memory of Find ahead of its loop. -/
def findW (w : World) (G : Nat) (tt i : Int) : World :=
  (((((w.alloc (Obj.cells #[.pointer (some ⟨G, 0, none⟩)] 25)).alloc (Obj.cells #[.int .i64 tt] 3)).alloc (Obj.cells #[.int .i64 0] 3)).alloc (Obj.cells #[.bool false] 4)).alloc (Obj.cells #[.pointer (some ⟨G, 0, none⟩)] 76)).alloc (Obj.cells #[.int .i64 i] 3)
theorem blk_newAt {w : World} {g : Nat} (h : w.heap.size = g) (t : TypeId) (cs : Array Value) : Blk (w.alloc (.cells cs t)) g t cs := h ▸ Blk.new w t cs
theorem findW_facts (w : World) (G : Nat) (tt i : Int) :
    (findW w G tt i).heap.size = w.heap.size + 1 + 1 + 1 + 1 + 1 + 1 ∧ Below w.heap.size w (findW w G tt i) ∧
      Blk (findW w G tt i) w.heap.size 25 #[.pointer (some ⟨G, 0, none⟩)] ∧ Blk (findW w G tt i) (w.heap.size + 1) 3 #[.int .i64 tt] ∧ Blk (findW w G tt i) (w.heap.size + 1 + 1) 3 #[.int .i64 0] ∧ Blk (findW w G tt i) (w.heap.size + 1 + 1 + 1) 4 #[.bool false] ∧
      Blk (findW w G tt i) (w.heap.size + 1 + 1 + 1 + 1) 76 #[.pointer (some ⟨G, 0, none⟩)] ∧ Blk (findW w G tt i) (w.heap.size + 1 + 1 + 1 + 1 + 1) 3 #[.int .i64 i] := by
  unfold findW
  refine ⟨by simp, ?_, ?_, ?_, ?_, ?_, ?_, ?_⟩
  · exact ((((((Below.refl _ _).alloc (Nat.le_refl _) _).alloc (by simp) _).alloc (by simp; omega) _).alloc (by simp; omega) _).alloc (by simp; omega) _).alloc (by simp; omega) _
  · exact (((((Blk.new _ _ _).alloc _).alloc _).alloc _).alloc _).alloc _
  · exact ((((blk_newAt (by simp) _ _).alloc _).alloc _).alloc _).alloc _
  · exact (((blk_newAt (by simp) _ _).alloc _).alloc _).alloc _
  · exact ((blk_newAt (by simp) _ _).alloc _).alloc _
  · exact (blk_newAt (by simp) _ _).alloc _
  · exact blk_newAt (by simp) _ _

def ft (r : Raw) : Int × Int := (r.f, r.t)

set_option maxRecDepth 100000 in
set_option maxHeartbeats 2000000 in
theorem find_any (G c : Nat) (A : Option Addr) (most N tt i : Int) (cut : Nat → Nat → Bool) (rs : List Raw) (w : World) (h : Blk w G 56 (netA (.slice A rs.length c) most N cut)) (hm : MR w w.heap.size A rs) (hn : rs.length ≤ 100000) (hN : N ≤ 15) :
    Calls Try.prog 24 #[.pointer (some ⟨G, 0, none⟩), .int .i64 tt, .int .i64 i] w fun e w' => e = .returned (findV (findP N cut (rs.map ft) tt i)) ∧ Below w.heap.size w w' := by
  have H := Lib.hid h
  have HM := Lib.hid hm
  have hgl := h.lt
  clear h hm
  refine (callsIn_wide (n := 3)).1 ?_
  refine callsIn_of_wp_marks Try.func24 rfl trivial ?_ rfl
  simp only [Try.ntmps24, List.size_toArray, List.length_cons, List.length_nil, Nat.reduceAdd, Nat.reduceSub, Array.replicate_succ, Array.replicate_zero, List.push_toArray, List.append_toArray, List.nil_append, List.cons_append]
  gi_wp2_with fail
  refine ⟨trivial, CallsIn.mono (callsIn_wide.2 (from_any (some ⟨G, 0, none⟩) i _)) ?_⟩
  rintro e w1 ⟨rfl, rfl⟩
  gi_wp2_with fail
  obtain ⟨W0, hW0⟩ : ∃ W0, W0 = findW w G tt i := ⟨_, rfl⟩
  have hF := findW_facts w G tt i
  have hW0' := hW0
  unfold findW at hW0'
  rw [← hW0] at hF
  rw [← hW0']
  clear hW0 hW0'
  refine Rf.range (by decide) rfl (enters_of Try.func47 (by kernel_rfl) rfl) ?_
  obtain ⟨hs0, hb0, k0, k1, k2, k3, k4, k5⟩ := hF
  rw [hs0]
  intro fn r W1 hr hl1 hd1 hb1 hs1
  have HD1 := Lib.hid hd1
  have hb01 := hb0.trans (hb1.mono (by omega))
  have q0 := Lib.hid (k0.below hb1 (by omega))
  have q1 := Lib.hid (k1.below hb1 (by omega))
  have q2 := Lib.hid (k2.below hb1 (by omega))
  have q3 := Lib.hid (k3.below hb1 (by omega))
  have q4 := Lib.hid (k4.below hb1 (by omega))
  have q5 := Lib.hid (k5.below hb1 (by omega))
  clear hs0 hb0 hb1 k0 k1 k2 k3 k4 k5
  refine CallsIn.mono (from1_any 2 _ rs A c i G _ _ (fun k W => Below (w.heap.size + 7) W1 W ∧ w.heap.size + 7 < W.heap.size ∧ W.heap[w.heap.size + 7]? = some (r .ready none) ∧ ∀ j, i.toNat ≤ j → j < k → hitB N cut (rs.map ft) tt j = false)
    (fun W => ∃ k : Nat, Below w.heap.size w W ∧ W.heap[w.heap.size + 6]? = some (.deferred (some [])) ∧ W.heap[w.heap.size + 7]? = some (r .done (some .ret)) ∧ Blk W (w.heap.size + 2) 3 #[.int .i64 k] ∧ Blk W (w.heap.size + 3) 4 #[.bool true] ∧ findP N cut (rs.map ft) tt i = some k)
    hn ?_ ?_ W1 ⟨Below.refl _ _, by omega, hl1, fun j h1 h2 => by omega⟩) ?_
  · rintro k W ⟨hb, hs, _, _⟩
    have kk4 := q4.out.below hb (by omega)
    have kk5 := q5.out.below hb (by omega)
    have hbw := hb01.trans (hb.mono (by omega))
    have hG := H.out.below hbw hgl
    exact ⟨kk5.cell 0, kk4.cell 0, (hG.cell 0).trans (netA_lo _ _ _ _).1, hG.lt, (HM.out.below hbw).more hbw.size⟩
  · rintro k W f t rA rn rc ⟨hb, hs, hl, hm⟩ hk hrk
    refine Rf.yieldAtW hr hl rfl ?_
    intro K hK
    have HK := Lib.hid hK
    clear hr hK hl1 hd1
    gi_wp2_with fail
    have hl2 := (((Below.refl W.heap.size W).alloc (Nat.le_refl _) (.cells #[.int .i64 f, .int .i64 t, .slice rA rn rc] 33)).block _ hs).trans hl
    refine HK.out _ _ hl2 ?_
    clear HK K hl2
    obtain ⟨W2, hW2⟩ : ∃ W2, W2 = W.alloc (.cells #[.int .i64 f, .int .i64 t, .slice rA rn rc] 33) := ⟨_, rfl⟩
    have hb2 : Below W.heap.size W W2 := by rw [hW2]; exact (Below.refl _ _).alloc (Nat.le_refl _) _
    have hM2 : Blk W2 W.heap.size 33 #[.int .i64 f, .int .i64 t, .slice rA rn rc] := by rw [hW2]; exact Blk.new _ _ _
    have hl2 := (hb2.block _ hs).trans hl
    have hs2 : w.heap.size + 7 < W2.heap.size := Nat.lt_of_lt_of_le hs hb2.size
    have hbb2 := hb.trans (hb2.mono (by omega))
    rw [← hW2]
    have hbp := below_put hbb2 (l := w.heap.size + 7) (by omega) (r .busy none) hs2
    have hl3 := World.putObj_heap_same (o := r .busy none) hs2
    have hsz := World.putObj_size (w := W2) (r := w.heap.size + 7) (o := r .busy none)
    have hM3 : Blk (W2.putObj (w.heap.size + 7) (r .busy none)) W.heap.size 33 #[.int .i64 f, .int .i64 t, .slice rA rn rc] := (World.putObj_heap_other (by omega)).trans hM2
    generalize W2.putObj (w.heap.size + 7) (r .busy none) = V at hbp hl3 hsz hM3 ⊢
    have p0 := (q0.out.below hbp (by omega)).cell 0
    have p1 := (q1.out.below hbp (by omega)).cell 0
    have p2b := q2.out.below hbp (by omega)
    have p2 := p2b.cell 0
    have p2f := p2b.frozen 0
    have l2 := p2b.lt
    have p3b := q3.out.below hbp (by omega)
    have p3 := p3b.cell 0
    have p3f := p3b.frozen 0
    have l3 := p3b.lt
    obtain ⟨m0, m1, m2⟩ := blk_cell3 hM3
    have ml := hM3.lt
    have hbwv := hb01.trans (hbp.mono (by omega))
    have hG := H.out.below hbwv hgl
    have O := Lib.hid (open_any G (.slice A rs.length c) most N f tt cut V hG hN)
    have HL3 := Lib.hid hl3
    have HM3 := Lib.hid hm
    have HRK := Lib.hid hrk
    have HHD : Hid (V.heap[w.heap.size + 6]? = some (.deferred (some []))) := Lib.hid ((hbp.block _ (by omega)).trans HD1.out)
    have hhit : hitB N cut (rs.map ft) tt k = (decide (t = tt) && openB N cut f tt) := by
      unfold hitB
      rw [List.getElem?_map, hrk]
      rfl
    have HH := Lib.hid hhit
    have B2 := Lib.hid p2b
    have B3 := Lib.hid p3b
    have hkl : k < (rs.map ft).length := by rw [List.length_map]; exact (List.getElem?_eq_some_iff.1 hrk).1
    have HKL := Lib.hid hkl
    have HKK := Lib.hid hk
    clear hl hm hrk hl2 hl3 hM2 hM3 hW2 hG hhit p2b p3b hkl hk hb2 hbb2
    have hbad : hitB N cut (rs.map ft) tt k = false → ∀ j, i.toNat ≤ j → j < k + 1 → hitB N cut (rs.map ft) tt j = false := fun h0 j h1 h2 => by
      rcases Nat.lt_or_ge j k with hh | hh
      · exact HM3.out j h1 hh
      · rw [show j = k by omega]; exact h0
    have HBAD := Lib.hid hbad
    clear hbad
    have hcont : hitB N cut (rs.map ft) tt k = false → V.heap[w.heap.size + 7]? = some (r .busy none) ∧ ((Below (w.heap.size + 7) W1 (V.putObj (w.heap.size + 7) (r .ready none)) ∧ w.heap.size + 7 < (V.putObj (w.heap.size + 7) (r .ready none)).heap.size ∧ (V.putObj (w.heap.size + 7) (r .ready none)).heap[w.heap.size + 7]? = some (r .ready none) ∧ ∀ j, i.toNat ≤ j → j < k + 1 → hitB N cut (rs.map ft) tt j = false)) := fun h0 =>
      ⟨HL3.out, below_put hbp (by omega) _ (by omega), by rw [World.putObj_size]; omega, World.putObj_heap_same (by omega), HBAD.out h0⟩
    have HCONT := Lib.hid hcont
    clear hcont
    by_cases hte : t = tt
    · subst hte
      gi_wp2_with fail
      refine ⟨trivial, CallsIn.mono (CallsIn.inRound _ (callsIn_wide.2 O.out)) ?_⟩
      rintro e V1 ⟨rfl, rfl⟩
      cases hov : openB N cut f t with
      | true =>
        have HV := Lib.hid hov
        clear hov O
        gi_wp2_with fail
        obtain ⟨V2, hV2⟩ : ∃ V2, V2 = (V.setCell ⟨w.heap.size + 1 + 1, 0, none⟩ (.int .i64 k)).setCell ⟨w.heap.size + 1 + 1 + 1, 0, none⟩ (.bool true) := ⟨_, rfl⟩
        have hb5 : Below w.heap.size w V2 := by rw [hV2]; exact (hbwv.setCell (p := ⟨w.heap.size + 1 + 1, 0, none⟩) (by simp only []; omega) _).setCell (p := ⟨w.heap.size + 1 + 1 + 1, 0, none⟩) (by simp only []; omega) _
        have hs5 : V2.heap.size = V.heap.size := by rw [hV2]; simp only [size_setCell]
        have b2 : Blk V2 (w.heap.size + 1 + 1) 3 #[.int .i64 k] := by rw [hV2]; exact (B2.out.set_ 0 (.int .i64 k)).far (p := ⟨w.heap.size + 1 + 1 + 1, 0, none⟩) (by simp only []; omega) _
        have b3 : Blk V2 (w.heap.size + 1 + 1 + 1) 4 #[.bool true] := by rw [hV2]; exact ((B3.out.far (p := ⟨w.heap.size + 1 + 1, 0, none⟩) (by simp only []; omega) _).set_ 0 (.bool true))
        have oth : ∀ x, x ≠ w.heap.size + 2 → x ≠ w.heap.size + 3 → V2.heap[x]? = V.heap[x]? := fun x h1 h2 => by rw [hV2]; exact (Below.heap_setCell _ _ _ _ (by simp only []; omega)).trans (Below.heap_setCell _ _ _ _ (by simp only []; omega))
        have h0 : hitB N cut (rs.map ft) t k = true := by rw [HH.out, HV.out]; simp
        rw [← hV2]
        refine ⟨(oth _ (by omega) (by omega)).trans HL3.out, .inr ⟨rfl, k, below_put hb5 (by omega) _ (by omega), ?_, World.putObj_heap_same (by omega), ?_, ?_, findP_some HKL.out HKK.out h0 HM3.out⟩⟩
        · exact (World.putObj_heap_other (by omega)).trans ((oth _ (by omega) (by omega)).trans HHD.out)
        · exact (World.putObj_heap_other (by omega)).trans b2
        · exact (World.putObj_heap_other (by omega)).trans b3
      | false =>
        have HV := Lib.hid hov
        clear hov O
        gi_wp2_with fail
        have h0 : hitB N cut (rs.map ft) t k = false := by rw [HH.out, HV.out]; simp
        exact ⟨(HCONT.out h0).1, .inl ⟨rfl, (HCONT.out h0).2⟩⟩
    · have HTE := Lib.hid hte
      have d1 : (t == tt) = false := by simpa using hte
      clear hte O
      gi_wp2_with fail
      rename_i KK hKK
      refine ⟨trivial, hKK _ _ ?_⟩
      clear hKK KK
      gi_wp2_with fail
      have h0 : hitB N cut (rs.map ft) tt k = false := by rw [HH.out, decide_eq_false HTE.out]; rfl
      exact ⟨(HCONT.out h0).1, .inl ⟨rfl, (HCONT.out h0).2⟩⟩
  · rintro e W2 ⟨⟨v, rfl⟩, ⟨k, hkn, hb2, hs2, hl2, hm2⟩ | ⟨k, hb2, hd2, hl2, hk2, hk3, hc2⟩⟩
    · have HD2 := (hb2.block _ (show w.heap.size + 6 < w.heap.size + 7 by omega)).trans HD1.out
      refine ⟨⟨_, rfl⟩, .inl ⟨hl2, ?_⟩⟩
      have hb3 := below_put hb2 (l := w.heap.size + 7) (by omega) (r .exhausted none) hs2
      have hs3 := World.putObj_size (w := W2) (r := w.heap.size + 7) (o := r .exhausted none)
      have hd3 := (World.putObj_heap_other (w := W2) (o := r .exhausted none) (show w.heap.size + 6 ≠ w.heap.size + 7 by omega)).trans HD2
      generalize W2.putObj (w.heap.size + 7) (r .exhausted none) = W3 at hb3 hs3 hd3 ⊢
      have p2b := q2.out.below hb3 (by omega)
      have p2 := p2b.cell 0
      have p2f := p2b.frozen 0
      have l2 := p2b.lt
      have p3b := q3.out.below hb3 (by omega)
      have p3 := p3b.cell 0
      have p3f := p3b.frozen 0
      have l3 := p3b.lt
      have B2 := Lib.hid p2b
      have B3 := Lib.hid p3b
      have D3 := Lib.hid hd3
      have HMM := Lib.hid hm2
      have HKN := Lib.hid hkn
      clear hr p2b p3b hd3 hm2 HD2 hl2 hd1 hl1 hkn
      gi_wp2_with fail
      obtain ⟨V2, hV2⟩ : ∃ V2, V2 = (W3.setCell ⟨w.heap.size + 1 + 1, 0, none⟩ (.int .i64 0)).setCell ⟨w.heap.size + 1 + 1 + 1, 0, none⟩ (.bool false) := ⟨_, rfl⟩
      have hb5 : Below w.heap.size w V2 := by rw [hV2]; exact ((hb01.trans (hb3.mono (by omega))).setCell (p := ⟨w.heap.size + 1 + 1, 0, none⟩) (by simp only []; omega) _).setCell (p := ⟨w.heap.size + 1 + 1 + 1, 0, none⟩) (by simp only []; omega) _
      have hs5 : V2.heap.size = W3.heap.size := by rw [hV2]; simp only [size_setCell]
      have b2 : Blk V2 (w.heap.size + 1 + 1) 3 #[.int .i64 0] := by rw [hV2]; exact (B2.out.set_ 0 (.int .i64 0)).far (p := ⟨w.heap.size + 1 + 1 + 1, 0, none⟩) (by simp only []; omega) _
      have b3 : Blk V2 (w.heap.size + 1 + 1 + 1) 4 #[.bool false] := by rw [hV2]; exact ((B3.out.far (p := ⟨w.heap.size + 1 + 1, 0, none⟩) (by simp only []; omega) _).set_ 0 (.bool false))
      have oth : ∀ x, x ≠ w.heap.size + 2 → x ≠ w.heap.size + 3 → V2.heap[x]? = W3.heap[x]? := fun x h1 h2 => by rw [hV2]; exact (Below.heap_setCell _ _ _ _ (by simp only []; omega)).trans (Below.heap_setCell _ _ _ _ (by simp only []; omega))
      rw [← hV2]
      refine ⟨by simp, .inl ⟨_, _, rfl, run_takeDeferred ((oth _ (by omega) (by omega)).trans D3.out), ?_⟩⟩
      have c2 := (show Blk (V2.putObj (w.heap.size + 6) (.deferred none)) (w.heap.size + 1 + 1) 3 #[.int .i64 0] from (World.putObj_heap_other (by omega)).trans b2).cell 0
      have c3 := (show Blk (V2.putObj (w.heap.size + 6) (.deferred none)) (w.heap.size + 1 + 1 + 1) 4 #[.bool false] from (World.putObj_heap_other (by omega)).trans b3).cell 0
      refine ⟨.tuple #[.int .i64 0, .bool false], ?_, ?_, below_put hb5 (by omega) _ (by omega)⟩
      · simp at c2 c3
        simp [results, Try.f24, go_sem, c2, c3]
      · rw [findP_none (fun j h1 h2 => HMM.out j h1 (by rw [List.length_map] at h2; have := HKN.out; omega))]; rfl
    · refine ⟨⟨_, rfl⟩, .inr ⟨_, hl2, ?_⟩⟩
      clear hr
      have hz2 : w.heap.size + 7 < W2.heap.size := (Array.getElem?_eq_some_iff.1 hl2).1
      have hb3 := below_put hb2 (l := w.heap.size + 7) (by omega) (r .exhausted (some .ret)) hz2
      have hs3 := World.putObj_size (w := W2) (r := w.heap.size + 7) (o := r .exhausted (some .ret))
      have hd3 := (World.putObj_heap_other (w := W2) (o := r .exhausted (some .ret)) (show w.heap.size + 6 ≠ w.heap.size + 7 by omega)).trans hd2
      have b2 : Blk (W2.putObj (w.heap.size + 7) (r .exhausted (some .ret))) (w.heap.size + 1 + 1) 3 #[.int .i64 k] := (World.putObj_heap_other (by omega)).trans hk2
      have b3 : Blk (W2.putObj (w.heap.size + 7) (r .exhausted (some .ret))) (w.heap.size + 1 + 1 + 1) 4 #[.bool true] := (World.putObj_heap_other (by omega)).trans hk3
      generalize W2.putObj (w.heap.size + 7) (r .exhausted (some .ret)) = W3 at hb3 hs3 hd3 b2 b3 ⊢
      have HC := Lib.hid hc2
      clear hl2 hl1 hd1 hd2 hk2 hk3 hc2
      gi_wp2_with fail
      refine ⟨by simp, .inl ⟨_, _, rfl, run_takeDeferred hd3, ?_⟩⟩
      have c2 := (show Blk (W3.putObj (w.heap.size + 6) (.deferred none)) (w.heap.size + 1 + 1) 3 #[.int .i64 k] from (World.putObj_heap_other (by omega)).trans b2).cell 0
      have c3 := (show Blk (W3.putObj (w.heap.size + 6) (.deferred none)) (w.heap.size + 1 + 1 + 1) 4 #[.bool true] from (World.putObj_heap_other (by omega)).trans b3).cell 0
      refine ⟨.tuple #[.int .i64 k, .bool true], ?_, ?_, below_put hb3 (by omega) _ (by omega)⟩
      · simp at c2 c3
        simp [results, Try.f24, go_sem, c2, c3]
      · rw [HC.out]; rfl
end Go.Proofs.Ytfmflbcmigiciaa
