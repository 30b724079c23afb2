/- Chapter 05: a copy of a net. -/
import Derived.Test.YtfmflbcmigiciaaRegIn
namespace Go.Proofs.Ytfmflbcmigiciaa
open Go.RowKit Go.Shelf

attribute [local go_sem] Oper.semAt_some

theorem wpIn_load_mid {P : Program} {n : Nat} {op : Oper} {a : Act} {w : World} {K : Act → World → Prop} {Q : Exit → Act → World → Prop} (ty : TypeId) (x : Operand) (ho : op.op = .load ty x)
    (b o : Nat) (hx : a.eval x = .pointer (some ⟨b, o, none⟩)) (cs : List Value) (d : TypeDesc) (hc : w.rangeAt b o cs)
    (hu : P.underlying ty = some d) (hd : d.isRow = true) (hi : (P.info? ty).map (·.size) = some cs.length)
    (h : K (a.put op.dst (.agg cs.toArray)) w) : op.wpIn Fence.wide n P a w K Q := by
  refine ⟨fun f hf => trivial, ?_⟩
  change op.uponIn Fence.wide n P a K Q ((execOp a.eval op).run P w)
  unfold execOp
  simp only [ho, hx, Instr.loadAt, Instr.sureAddr, Sem.run_bind, Sem.run_pure, Result.andThen_ok, run_loadVar_mid w b o ty cs d hc hu hd hi]
  exact h
theorem wpIn_store_mid {P : Program} {n : Nat} {op : Oper} {a : Act} {w : World} {K : Act → World → Prop} {Q : Exit → Act → World → Prop} (ty : TypeId) (x y : Operand) (ho : op.op = .store ty x y)
    (b o : Nat) (cells : Array Value) (hx : a.eval x = .pointer (some ⟨b, o, none⟩)) (hy : a.eval y = .agg cells)
    (ht : w.there b o cells.size) (hi : (P.info? ty).map (·.size) = some cells.size) (h1 : cells.all (·.oneCell') = true)
    (h : K (a.put op.dst undef) (w.setCells b o cells.toList)) : op.wpIn Fence.wide n P a w K Q := by
  refine ⟨fun f hf => trivial, ?_⟩
  change op.uponIn Fence.wide n P a K Q ((execOp a.eval op).run P w)
  unfold execOp
  simp only [ho, hx, hy, Instr.storeAt, Instr.sureAddr, Sem.run_bind, Sem.run_pure, Result.andThen_ok, run_storeVar_mid w b o ty cells ht hi h1]
  exact h
theorem blk_setCells_size {b : Nat} {t : TypeId} : ∀ (vs : List Value) (o : Nat) (w : World) (cs : Array Value), Blk w b t cs → ∃ cs', Blk (w.setCells b o vs) b t cs' ∧ cs'.size = cs.size
  | [], _, _, cs, h => ⟨cs, h, rfl⟩
  | v :: vs, o, w, cs, h => by
    obtain ⟨cs', h1, h2⟩ := blk_setCells_size vs (o + 1) _ _ (h.set_ o v)
    exact ⟨cs', h1, by simpa using h2⟩
theorem blk_setCells {b : Nat} {t : TypeId} {w : World} {cs : Array Value} (h : Blk w b t cs) (vs : Array Value) (hs : vs.size = cs.size) : Blk (w.setCells b 0 vs.toList) b t vs := by
  obtain ⟨cs', h1, h2⟩ := blk_setCells_size vs.toList 0 w cs h
  have : cs' = vs := by
    apply Array.ext (by omega)
    intro j hj1 hj2
    have h3 := World.cell?_setCells_in b vs.toList 0 w (fun j hj => by
      rw [Nat.zero_add, h.cell j]
      have : j < cs.size := by simp at hj; omega
      simp [this]) j (by simpa using hj2)
    rw [Nat.zero_add, h1.cell j] at h3
    rw [Array.getElem?_eq_getElem hj1] at h3
    have h4 := Option.some.inj h3
    rw [h4, Array.getElem_toList]
  rw [this] at h1; exact h1
theorem below_setCells {B b : Nat} {a : World} (hb : B ≤ b) : ∀ (vs : List Value) (o : Nat) (w : World), Below B a w → Below B a (w.setCells b o vs)
  | [], _, _, h => h
  | v :: vs, o, _, h => below_setCells hb vs (o + 1) _ (h.setCell (p := ⟨b, o, none⟩) hb v)
theorem size_setCells {b : Nat} : ∀ (vs : List Value) (o : Nat) (w : World), (w.setCells b o vs).heap.size = w.heap.size
  | [], _, _ => rfl
  | _ :: vs, o, _ => (size_setCells vs (o + 1) _).trans (size_setCell _ _ _)
theorem u56' : (Try.prog.underlying 56).map (fun d => d.isRow) = some true := by kernel_rfl
theorem u56 : ∃ d, Try.prog.underlying 56 = some d ∧ d.isRow = true := by
  have := u56'
  cases h : Try.prog.underlying 56 with
  | none => rw [h] at this; cases this
  | some d => rw [h] at this; exact ⟨d, rfl, by simpa using this⟩
theorem size56 : (Try.prog.info? 56).map (·.size) = some 259 := by kernel_rfl
theorem netA_one (A : Option Addr) (k c : Nat) (most N : Int) (cut : Nat → Nat → Bool) : (netA (.slice A k c) most N cut).all (·.oneCell') = true := by
  rw [Array.all_eq_true_iff_forall_mem]
  intro u hu
  unfold netA at hu
  simp only [Array.mem_append] at hu
  rcases hu with hu | hu
  · simp at hu
    rcases hu with rfl | rfl | rfl <;> rfl
  · simp only [Array.mem_map] at hu
    obtain ⟨i, _, rfl⟩ := hu
    rfl

theorem put_fin2 {G n c base c9 : Nat} {A A9 : Option Addr} {N : Int} {cut : Nat → Nat → Bool} {rs : List Raw} {x : Raw} {w W1 w9 : World} (hb1 : Below w.heap.size w W1) (hG1 : Blk W1 G 56 (netA (.slice A n c) 64 N cut)) (hne : some G ≠ (Value.slice A n c).ownBlock)
    (hgr : W1.grownBy w9 (Value.slice A n c).ownBlock) (hown : w9.ownsRow base 33 3 (.slice A9 (n + 1) c9) (n + 1) (rs.flatMap Raw.cs ++ x.cs)) (hat : (Value.slice A9 (n + 1) c9).ownBlock = (Value.slice A n c).ownBlock ∨ (Value.slice A9 (n + 1) c9).ownBlock = some W1.heap.size) :
    Far (wr G A) w (w9.setCell ⟨G, 0, none⟩ (.slice A9 (n + 1) c9)) ∧ Blk (w9.setCell ⟨G, 0, none⟩ (.slice A9 (n + 1) c9)) G 56 (netA (.slice A9 (n + 1) c9) 64 N cut) ∧ (w9.setCell ⟨G, 0, none⟩ (.slice A9 (n + 1) c9)).ownsRow base 33 3 (.slice A9 (n + 1) c9) (n + 1) ((rs ++ [x]).flatMap Raw.cs) ∧ ∀ k, wr G A9 k → wr G A k ∨ w.heap.size ≤ k := by
  have hG9 := hG1.grown hgr hne
  have hs : w.heap.size ≤ W1.heap.size := hb1.size
  have F1 : Far (wr G A) w W1 := Far.of_below hb1
  have F2 : Far (wr G A) W1 w9 := Far.grown hgr fun k e => by
    cases A with
    | none => cases e
    | some ad => simp only [Value.ownBlock, Option.some.injEq] at e; exact .inr ⟨ad, rfl, e⟩
  refine ⟨(F1.trans F2 fun _ _ h => h).setCell (p := ⟨G, 0, none⟩) (.inl (.inl rfl)) _, ?_, ?_, ?_⟩
  · have := hG9.set_ 0 (.slice A9 (n + 1) c9)
    rwa [netA_set0] at this
  · rw [List.flatMap_append, List.flatMap_singleton]
    refine own_far hown ((Far.refl (fun k => k = G) w9).setCell (p := ⟨G, 0, none⟩) (.inl rfl) _) fun k e hk => ?_
    subst hk
    exact own_blk_ne hown hG9 (by decide) e
  · rintro k (rfl | ⟨ad, rfl, rfl⟩)
    · exact .inl (.inl rfl)
    · rcases hat with hat | hat
      · cases A with
        | none => cases hat
        | some ad' =>
          simp only [Value.ownBlock, Option.some.injEq] at hat
          exact .inl (.inr ⟨ad', rfl, hat.symm⟩)
      · simp only [Value.ownBlock, Option.some.injEq] at hat
        exact .inr (by omega)

/-- The copy under way. -/
def CN (S : Nat) (w1 : World) (R : Nat → Prop) (N : Int) (cut : Nat → Nat → Bool) (bg : List Msg) (W : World) : Prop :=
  ∃ A R', Far (fun x => x = S ∨ x = S + 4) w1 W ∧ NetAt W R' S A N cut bg ∧ (∀ k, R k → R' k) ∧ (∀ k, R' k → R k ∨ w1.heap.size ≤ k) ∧ (∀ k, wr S A k → k = S ∨ w1.heap.size ≤ k)
theorem CN.far {S : Nat} {w1 W W' : World} {R : Nat → Prop} {N : Int} {cut : Nat → Nat → Bool} {bg : List Msg} (h : CN S w1 R N cut bg W) (hS : S + 4 < w1.heap.size) (hR : ∀ k, R k → k < S) (hf : Far (fun x => x = S + 4) W W') : CN S w1 R N cut bg W' := by
  obtain ⟨A, R', h1, h2, h3, h4, h5⟩ := h
  refine ⟨A, R', h1.trans hf fun x _ hx => .inr hx, h2.upd (show Upd (fun x => x = S + 4) R' R' W W' from ⟨hf, fun k hk hR' => ?_, fun _ h => h, fun _ h => .inl h, fun k hk => Nat.lt_of_lt_of_le (h2.lt k hk) hf.size⟩) fun k hk hk4 => ?_, h3, h4, h5⟩
  · subst hk
    rcases h4 _ hR' with h6 | h6
    · have := hR _ h6; omega
    · omega
  · subst hk4
    rcases h5 _ hk with h6 | h6 <;> omega
theorem CN.step {S : Nat} {w1 W W' : World} {R R' : Nat → Prop} {A : Option Addr} {N : Int} {cut : Nat → Nat → Bool} {bg' : List Msg} (h1 : Far (fun x => x = S ∨ x = S + 4) w1 W) (h3 : ∀ k, R k → R' k) (h4 : ∀ k, R' k → R k ∨ w1.heap.size ≤ k) (h5 : ∀ k, wr S A k → k = S ∨ w1.heap.size ≤ k)
    (hn : Net1 W W' R' S A N cut bg') : CN S w1 R N cut bg' W' := by
  obtain ⟨R2, A2, u, n, l⟩ := hn
  have hs := h1.size
  refine ⟨A2, R2, h1.trans u.far fun x hx hw => ?_, n, fun k hk => u.up k (h3 k hk), fun k hk => ?_, fun k hk => ?_⟩
  · rcases h5 x hw with h6 | h6
    · exact .inl h6
    · omega
  · rcases u.old k hk with h6 | h6
    · exact h4 k h6
    · exact .inr (by omega)
  · rcases l k hk with h6 | h6
    · exact h5 k h6
    · exact .inr (by omega)

theorem hrd'' {w V : World} {R : Nat → Prop} {A : Option Addr} {m : Msg} (hb : Below w.heap.size w V) (h : RD R w 1 A m.bs.length (m.bs.map (.int .u8))) : BR V V.heap.size A m.bs := by
  have h1 := (h.1.below hb).more hb.size
  exact h1
/-- The head of the copy's round: the copy's row, the copied message. -/
def cpSp (S : Nat) (A : Option Addr) (n c : Nat) (m : Msg) (rA : Option Addr) (rc B : Nat) : List (Tmp × Rg.Spec) :=
  [(20, .is (.pointer (some ⟨S, 0, none⟩))), (21, .is (.pointer (some ⟨S, 0, none⟩))), (22, .is (.slice A n c)), (23, .is (msgV m rA rc)),
    (24, ⟨fun v w => ∃ A' c', v = msgV m A' c' ∧ Own w B m A' c', fun _ _ _ hb ⟨A', c', h1, h2⟩ => ⟨A', c', h1, h2.below hb⟩⟩),
    (25, ⟨fun v w => ∃ g A' c', v = .slice (some ⟨g, 0, none⟩) 1 1 ∧ Blk w g 33 #[.int .i64 m.f, .int .i64 m.t, .slice A' m.bs.length c'] ∧ Own w B m A' c', fun _ _ _ hb ⟨g, A', c', h1, h2, h3⟩ => ⟨g, A', c', h1, h2.below hb h2.lt, h3.below hb⟩⟩)]

set_option maxRecDepth 100000 in
set_option maxHeartbeats 4000000 in
theorem copy_any {w : World} {R : Nat → Prop} {G : Nat} {A : Option Addr} {N : Int} {cut : Nat → Nat → Bool} {bag : List Msg} (h : NetAt w R G A N cut bag) :
    Calls Try.prog 21 #[.pointer (some ⟨G, 0, none⟩)] w fun e w' => ∃ G' A' R', e = .returned (.pointer (some ⟨G', 0, none⟩)) ∧ Below w.heap.size w w' ∧ (∀ k, R k → R' k) ∧ (∀ k, R' k → R k ∨ w.heap.size ≤ k) ∧ NetAt w' R' G' A' N cut bag ∧ ∀ k, wr G' A' k → w.heap.size ≤ k := by
  have CND := Lib.hid (c_nodes h)
  obtain ⟨c, rs, hb, ho, hms⟩ := h.ex
  have HB := Lib.hid hb
  have HO := Lib.hid ho
  have HMS := Lib.hid hms
  have hlo := h.lo
  have hlen := h.len
  have hgl := hb.lt
  have HH := Lib.hid h
  have hn0 : (N == 0) = false := by simp; omega
  clear h hb ho hms
  refine (callsIn_wide (n := 3)).1 ?_
  refine callsIn_of_wp_marks Try.func21 rfl trivial ?_ rfl
  simp only [Try.ntmps21, List.size_toArray, List.length_cons, List.length_nil, Nat.reduceAdd, Nat.reduceSub, Array.replicate_succ, Array.replicate_zero, List.push_toArray, List.append_toArray, List.nil_append, List.cons_append]
  gi_wp2_with fail
  refine ⟨trivial, CallsIn.mono (callsIn_wide.2 CND.out) ?_⟩
  rintro e w1 ⟨rfl, hw⟩
  subst hw
  gi_wp2_with fail
  obtain ⟨d56, hu56, hd56⟩ := u56
  refine wpIn_load_mid 56 (.tmp 10) rfl G 0 rfl (netA (.slice A bag.length c) 64 N cut).toList d56 (fun j v hv => by
    rw [Nat.zero_add, HB.out.cell j]
    simpa using hv) hu56 hd56 (by rw [size56, Array.length_toList, netA_size]) ?_
  simp only [Array.toArray_toList]
  generalize hNA : netA (.slice A bag.length c) 64 N cut = NA at *
  have hna : NA.size = 259 := by rw [← hNA]; exact netA_size _ _ _ _
  have hno : NA.all (·.oneCell') = true := by rw [← hNA]; exact netA_one _ _ _ _ _ _
  have HNA := Lib.hid hNA
  have HNO := Lib.hid hno
  have hz := zero56
  have hzs := netZ_size
  generalize netZ = Z at hz hzs
  clear hNA hno
  gi_wp2_with fail
  have kz : Blk (w.alloc (.cells Z 56)) w.heap.size 56 Z := Blk.new _ _ _
  have hst := run_storeCells_cells (P := Try.prog) w.heap.size 0 NA.toList 0 (w.alloc (.cells Z 56)) (fun j hj => by
    have hj2 : j < Z.size := by simp at hj; omega
    simp only [Nat.zero_add, Nat.add_zero]
    rw [kz.cell j]; simp [hj2]) (fun j hj => kz.frozen _) (fun v hv => (Array.all_eq_true_iff_forall_mem.1 HNO.out) v (by simpa using hv))
  simp only [Nat.add_zero] at hst
  rw [hst]
  obtain ⟨W3, hW3⟩ : ∃ W3, W3 = (w.alloc (.cells Z 56)).setCells w.heap.size 0 NA.toList := ⟨_, rfl⟩
  have k3 : Blk W3 w.heap.size 56 (netA (.slice A bag.length c) 64 N cut) := by rw [hW3, HNA.out]; exact blk_setCells kz NA (by omega)
  have hb3 : Below w.heap.size w W3 := by rw [hW3]; exact below_setCells (Nat.le_refl _) _ _ _ ((Below.refl _ _).alloc (Nat.le_refl _) _)
  have hs3 : W3.heap.size = w.heap.size + 1 := by rw [hW3, size_setCells]; simp
  rw [← hW3]
  clear hst kz hW3 hz hzs
  have K3 := Lib.hid k3
  have HB3 := Lib.hid hb3
  have c0 := (k3.cell 0).trans (netA_lo _ _ _ _).1
  have cl := k3.lt
  have cf := k3.frozen
  have hG3 := HB.out
  clear k3 hb3
  simp only [Result.andThen]
  rw [Oper.uponIn_skip]
  gi_wp2_with fail
  refine ⟨trivial, CallsIn.mono (callsIn_wide.2 (from_any (some ⟨G, 0, none⟩) 0 _)) ?_⟩
  rintro e w1 ⟨rfl, rfl⟩
  gi_wp2_with fail
  obtain ⟨W4, hW4⟩ : ∃ W4, W4 = W3.setCell ⟨w.heap.size, 0, none⟩ (.slice none 0 0) := ⟨_, rfl⟩
  have hs4 : W4.heap.size = w.heap.size + 1 := by rw [hW4, size_setCell]; exact hs3
  have hb4 : Below w.heap.size w W4 := by rw [hW4]; exact HB3.out.setCell (p := ⟨w.heap.size, 0, none⟩) (Nat.le_refl _) _
  have k4 : Blk W4 w.heap.size 56 (netA (.slice none 0 0) 64 N cut) := by
    rw [hW4]
    have := K3.out.set_ 0 (.slice none 0 0)
    rwa [netA_set0] at this
  rw [← hW4]
  clear hW4 K3 HB3 c0 cl cf hs3
  obtain ⟨W0, hW0⟩ : ∃ W0, W0 = (W4.alloc (.cells #[.pointer (some ⟨G, 0, none⟩)] 76)).alloc (.cells #[.int .i64 0] 3) := ⟨_, rfl⟩
  have hs0 : W0.heap.size = w.heap.size + 3 := by rw [hW0]; simp [hs4]
  have hb0 : Below w.heap.size w W0 := by rw [hW0]; exact (hb4.alloc (by omega) _).alloc (by simp; omega) _
  have k0 : Blk W0 w.heap.size 56 (netA (.slice none 0 0) 64 N cut) := by rw [hW0]; exact (k4.alloc _).alloc _
  have k1 : Blk W0 (w.heap.size + 1) 76 #[.pointer (some ⟨G, 0, none⟩)] := by rw [hW0]; exact (blk_newAt hs4 _ _).alloc _
  have k2 : Blk W0 (w.heap.size + 1 + 1) 3 #[.int .i64 0] := by rw [hW0]; exact blk_newAt (by simp [hs4]) _ _
  rw [← hW0]
  clear hW0 hb4 k4 hs4
  refine Rf.range (by decide) rfl (enters_of Try.func47 (by kernel_rfl) rfl) ?_
  rw [hs0]
  intro fn r W1 hr hl1 hd1 hb1 hs1
  have hlr : ∀ k, R k → k < w.heap.size := HH.out.lt
  have hrl : rs.length = bag.length := HMS.out.1
  have hlo := HH.out.lo
  have hhi := HH.out.hi
  have HD1 := Lib.hid hd1
  have hb01 := hb0.trans (hb1.mono (by omega))
  have q1 := Lib.hid (k1.below hb1 (by omega))
  have q2 := Lib.hid (k2.below hb1 (by omega))
  have hT : w.heap.size + 4 < W1.heap.size := by omega
  have hcn0 : CN w.heap.size W1 R N cut (bag.take 0) W1 := by
    refine ⟨none, R, Far.refl _ _, ⟨⟨0, [], ?_, ⟨rfl, .inl ⟨rfl, rfl⟩⟩, MsgsAt.nil⟩, hlo, hhi, by simp, ?_, fun k hk => Nat.lt_of_lt_of_le (hlr k hk) hb01.size⟩, fun _ h => h, fun _ h => .inl h, ?_⟩
    · exact k0.below hb1 (by omega)
    · rintro k (rfl | ⟨ad, e, _⟩) hk
      · have := hlr _ hk; omega
      · cases e
    · rintro k (rfl | ⟨ad, e, _⟩)
      · exact .inl rfl
      · cases e
  clear hs0 hb0 hb1 k0 k1 k2
  refine CallsIn.mono (from1_any 2 _ rs A c 0 G _ _ (fun k W => k ≤ bag.length ∧ CN w.heap.size W1 R N cut (bag.take k) W ∧ W.heap[w.heap.size + 3 + 1]? = some (r .ready none)) (fun _ => False)
    (by omega) ?_ ?_ W1 ⟨Nat.zero_le _, hcn0, hl1⟩) ?_
  · rintro k W ⟨hkb, ⟨A9, R9, hf, _⟩, hl⟩
    have kk1 := q1.out.far_ hf (by omega)
    have kk2 := q2.out.far_ hf (by omega)
    have hbw := hb01.trans (hf.below (B := w.heap.size) (fun x hx => by omega) (by omega))
    have hG := HB.out.below hbw hgl
    exact ⟨kk2.cell 0, kk1.cell 0, by rw [hrl]; exact (hG.cell 0).trans (by rw [← HNA.out]; exact (netA_lo _ _ _ _).1), hG.lt, by
      refine (Reads.below ?_ hbw).more hbw.size
      rw [hrl]
      exact Reads.of_own HO.out⟩
  · rintro k W f t rA rn rc ⟨hkb, hcn, hl⟩ _ hrk
    refine Rf.yieldAtW hr hl rfl ?_
    intro K hK
    have HK := Lib.hid hK
    clear hr hK hl1 hd1
    have hkl : k < rs.length := (List.getElem?_eq_some_iff.1 hrk).1
    obtain ⟨m, hm⟩ : ∃ m, bag[k]? = some m := ⟨_, List.getElem?_eq_getElem (by omega)⟩
    obtain ⟨rA', rc', hrk', hrd, hle⟩ := HMS.out.get hm
    rw [hrk'] at hrk
    injection hrk with hrk
    injection hrk with e1 e2 e3 e4 e5
    subst e1 e2 e3 e4 e5
    have HRD := Lib.hid hrd
    have HCN := Lib.hid hcn
    clear hrk' hrd hcn
    gi_wp2_with fail
    have hsW : w.heap.size + 3 + 1 < W.heap.size := (Array.getElem?_eq_some_iff.1 hl).1
    have hl2 := (((Below.refl W.heap.size W).alloc (Nat.le_refl _) (.cells #[.int .i64 m.f, .int .i64 m.t, .slice rA' m.bs.length rc'] 33)).block _ hsW).trans hl
    refine HK.out _ _ hl2 ?_
    clear HK K hl2
    obtain ⟨W2, hW2⟩ : ∃ W2, W2 = W.alloc (.cells #[.int .i64 m.f, .int .i64 m.t, .slice rA' m.bs.length rc'] 33) := ⟨_, rfl⟩
    have hb2 : Below W.heap.size W W2 := by rw [hW2]; exact (Below.refl _ _).alloc (Nat.le_refl _) _
    have hM2 : Blk W2 W.heap.size 33 #[.int .i64 m.f, .int .i64 m.t, .slice rA' m.bs.length rc'] := by rw [hW2]; exact Blk.new _ _ _
    have hs2 : w.heap.size + 3 + 1 < W2.heap.size := Nat.lt_of_lt_of_le hsW hb2.size
    rw [← hW2]
    have hfp : Far (fun x => x = w.heap.size + 4) W (W2.putObj (w.heap.size + 3 + 1) (r .busy none)) := (Far.of_below hb2).trans (Far.grown (S := fun x => x = w.heap.size + 4) (grownBy_putObj' W2 _ _) fun k e => by cases e; rfl) fun _ _ h => h
    have hl3 := World.putObj_heap_same (o := r .busy none) hs2
    have hM3 : Blk (W2.putObj (w.heap.size + 3 + 1) (r .busy none)) W.heap.size 33 #[.int .i64 m.f, .int .i64 m.t, .slice rA' m.bs.length rc'] := (World.putObj_heap_other (by omega)).trans hM2
    have hszp := World.putObj_size (w := W2) (r := w.heap.size + 3 + 1) (o := r .busy none)
    generalize W2.putObj (w.heap.size + 3 + 1) (r .busy none) = V0 at hfp hl3 hM3 hszp ⊢
    have hcn := HCN.out.far (by omega) hlr hfp
    obtain ⟨A9, R9, f1, n9, u9, o9, b9⟩ := hcn
    obtain ⟨c9, rs9, g1, g2, g3⟩ := n9.ex
    have htl : (bag.take k).length = k := by rw [List.length_take]; omega
    rw [htl] at g1 g2
    have hbV0 : Below w.heap.size w V0 := hb01.trans (f1.below (fun x hx => by omega) (by omega))
    have HM := Lib.hid hM3
    have HG9 := Lib.hid g1
    have HO9 := Lib.hid g2
    have HM9 := Lib.hid g3
    have HN9 := Lib.hid n9
    have HF1 := Lib.hid f1
    have HL3 := Lib.hid hl3
    have HRV := Lib.hid (hrd'' hbV0 HRD.out)
    clear hW2 hb2 hM2 hl3 hM3 g1 g2 g3 n9 f1 hfp HRD HCN hl
    gi_wp2_with fail
    refine Rs.regionIn 6 (cpSp w.heap.size A9 k c9 m rA' rc' V0.heap.size) [20, 21, 22, 23, 24, 25] rfl (by decide) (by kernel_rfl) (by kernel_rfl) ?_ (by kernel_rfl) (by kernel_rfl) ?_ ?_
    · rintro ⟨a, w, h⟩; exact h
    · intro vals V hbV
      simp only [List.take_succ_cons, List.take_zero]
      have hM := HM.out.below hbV HM.out.lt
      obtain ⟨m0', m1', m2'⟩ := blk_cell3 hM
      have ml := hM.lt
      have hS := HG9.out.below hbV HG9.out.lt
      have s0 := (hS.cell 0).trans (netA_lo _ _ _ _).1
      have sl := hS.lt
      have sf := hS.frozen
      have HOWN := Lib.hid (own_any m.f m.t m.bs rA' rc' _ V ((HRV.out.below hbV).more hbV.size) (Nat.le_refl _) hle)
      have hVs := hbV.size
      clear hM hS
      refine ⟨Rs.stepL [] (by kernel_rfl) ?_, Rs.stepL [20] (by kernel_rfl) ?_, Rs.stepL [21] (by kernel_rfl) ?_, Rs.stepL [] (by kernel_rfl) ?_, Rs.stepL [23] (by kernel_rfl) ?_, Rs.stepL [24] (by kernel_rfl) ?_, trivial⟩
      · rintro -
        refine ⟨trivial, fun K hK => ?_⟩
        simp only [Rs.frm, List.foldl_cons, List.foldl_nil, Act.put, List.setIfInBounds_toArray, List.set_cons_succ, List.set_cons_zero] at hK ⊢
        have HK := Lib.hid hK
        clear hK
        go_wp2_with fail
        exact HK.out _ _ (Below.refl _ _) rfl
      · rintro ⟨h20, -⟩
        have e20 : vals 20 = .pointer (some ⟨w.heap.size, 0, none⟩) := h20
        refine ⟨trivial, fun K hK => ?_⟩
        simp only [Rs.frm, List.foldl_cons, List.foldl_nil, Act.put, List.setIfInBounds_toArray, List.set_cons_succ, List.set_cons_zero, e20] at hK ⊢
        have HK := Lib.hid hK
        clear hK
        go_wp2_with fail
        exact HK.out _ _ (Below.refl _ _) rfl
      · rintro ⟨h21, -⟩
        have e21 : vals 21 = .pointer (some ⟨w.heap.size, 0, none⟩) := h21
        refine ⟨trivial, fun K hK => ?_⟩
        simp only [Rs.frm, List.foldl_cons, List.foldl_nil, Act.put, List.setIfInBounds_toArray, List.set_cons_succ, List.set_cons_zero, e21] at hK ⊢
        have HK := Lib.hid hK
        clear hK
        go_wp2_with fail
        exact HK.out _ _ (Below.refl _ _) rfl
      · rintro -
        refine ⟨trivial, fun K hK => ?_⟩
        simp only [Rs.frm, List.foldl_cons, List.foldl_nil, Act.put, List.setIfInBounds_toArray, List.set_cons_succ, List.set_cons_zero] at hK ⊢
        have HK := Lib.hid hK
        clear hK
        go_wp2_with fail
        exact HK.out _ _ (Below.refl _ _) rfl
      · rintro ⟨h23, -⟩
        have e23 : vals 23 = .agg #[.int .i64 m.f, .int .i64 m.t, .slice rA' m.bs.length rc'] := h23
        refine ⟨trivial, fun K hK => ?_⟩
        simp only [Rs.frm, List.foldl_cons, List.foldl_nil, Act.put, List.setIfInBounds_toArray, List.set_cons_succ, List.set_cons_zero, e23] at hK ⊢
        have HK := Lib.hid hK
        clear hK
        go_wp2_with fail
        refine HOWN.out.mono ?_
        rintro e V' ⟨A', c', rfl, hb', hc1, hc2, ho⟩
        have HX := Lib.hid (HK.out (msgV m A' c') V' hb' ⟨A', c', rfl, hc1, hc2, own_low ho hVs⟩)
        unfold msgV at HX
        clear HK ho
        go_wp2_with fail
        exact HX.out
      · rintro ⟨⟨A', c', e24, ho⟩, -⟩
        unfold msgV at e24
        have HOO := Lib.hid ho
        refine ⟨trivial, fun K hK => ?_⟩
        simp only [Rs.frm, List.foldl_cons, List.foldl_nil, Act.put, List.setIfInBounds_toArray, List.set_cons_succ, List.set_cons_zero, e24] at hK ⊢
        have HK := Lib.hid hK
        clear hK ho
        go_wp2_with fail
        have hbn : Below V.heap.size V (V.alloc (.cells #[.int .i64 m.f, .int .i64 m.t, .slice A' m.bs.length c'] 33)) := (Below.refl _ _).alloc (Nat.le_refl _) _
        exact HK.out _ _ hbn ⟨_, A', c', rfl, Blk.new _ _ _, HOO.out.below hbn⟩
    · intro vals V hbV hL
      simp only [List.drop_succ_cons, List.drop_zero]
      have e22 : vals 22 = .slice A9 k c9 := hL.2.2.1
      obtain ⟨g, A', c', e25, hgb, hgo⟩ := hL.2.2.2.2.2.1
      clear hL
      obtain ⟨i0, hi, hz0, hz1, hz2⟩ := info_parts info33
      have hVs := hbV.size
      have hS := HG9.out.below hbV HG9.out.lt
      have hO := own_below0 HO9.out hbV
      have hne : some w.heap.size ≠ (Value.slice A9 k c9).ownBlock := fun e => own_blk_ne hO hS (by decide) e.symm
      have HS := Lib.hid hS
      have HO := Lib.hid hO
      have HNE := Lib.hid hne
      have HOO := Lib.hid hgo
      have HGB := Lib.hid hgb
      have hx1 : ∀ u ∈ Raw.cs ⟨m.f, m.t, A', m.bs.length, c'⟩, u.oneCell' = true := by
        intro u hu
        simp only [Raw.cs, List.mem_cons, List.not_mem_nil, or_false] at hu
        rcases hu with rfl | rfl | rfl <;> rfl
      have hlen9 := HN9.out.len
      rw [htl] at hlen9
      clear hS hO hne hgo hgb
      simp only [Rs.frm, List.foldl_cons, List.foldl_nil, Act.put, List.setIfInBounds_toArray, List.set_cons_succ, List.set_cons_zero, e22, e25]
      clear e22 e25
      refine wpList_append_any _ rfl (.tmp 22) (.tmp 25) 39 rfl 0 33 i0 _ 3 40 Try.underlying39 hi hz0 hz1 hz2 rfl (by decide) (.slice A9 k c9) k (rs9.flatMap Raw.cs) rfl HO.out _ (some ⟨g, 0, none⟩) 1 1 (Raw.cs ⟨m.f, m.t, A', m.bs.length, c'⟩) rfl (Reads.of_blk HGB.out rfl rfl) hx1 (by simp only [maxLen]; omega) (by omega) (Nat.zero_le _) ?_
      intro v' w9 hown9 hgr9 hat9
      obtain ⟨AA, cc, rfl, hc91, hc92⟩ := own_form hown9
      have hS9 := HS.out.grown hgr9 HNE.out
      have z0 := (hS9.cell 0).trans (netA_lo _ _ _ _).1
      have zl := hS9.lt
      have zf := hS9.frozen
      have HF := Lib.hid (put_fin2 hbV HS.out HNE.out hgr9 hown9 hat9)
      have HFV := Lib.hid (put_fin2 (Below.refl _ _) HS.out HNE.out hgr9 hown9 hat9).1
      clear hS9 hown9 hgr9 hat9
      go_wp2_with fail
      generalize w9.setCell ⟨w.heap.size, 0, none⟩ (.slice AA (k + 1) cc) = V9 at HF HFV ⊢
      obtain ⟨y1, y2, y3, y4⟩ := HF.out
      have hn1 : Net1 V0 V9 R9 w.heap.size A9 N cut (bag.take k ++ [m]) :=
        put_net HN9.out HM9.out (by omega) m hle y1 (by rw [htl]; exact y2) (by rw [htl]; exact y3) y4 (HOO.out.far HFV.out fun k hk => HN9.out.wr_lt hk).row
      have htk : bag.take (k + 1) = bag.take k ++ [m] := by rw [List.take_add_one, hm]; rfl
      rw [← htk] at hn1
      have hc9 := CN.step HF1.out u9 o9 b9 hn1
      have hl9 : V9.heap[w.heap.size + 3 + 1]? = some (r .busy none) := (y1.block _ (by omega) fun hk => by
        rcases b9 _ hk with h6 | h6 <;> omega).trans HL3.out
      have hz9 : w.heap.size + 3 + 1 < V9.heap.size := (Array.getElem?_eq_some_iff.1 hl9).1
      refine ⟨hl9, .inl ⟨rfl, by omega, hc9.far hT hlr (Far.grown (S := fun x => x = w.heap.size + 4) (grownBy_putObj' V9 _ _) fun k e => by cases e; rfl), World.putObj_heap_same hz9⟩⟩
  · rintro e W2 ⟨⟨v, rfl⟩, ⟨k, hkn, hkb, hcn, hl2⟩ | hf⟩
    · have hs2 : w.heap.size + 3 + 1 < W2.heap.size := (Array.getElem?_eq_some_iff.1 hl2).1
      refine ⟨⟨_, rfl⟩, .inl ⟨hl2, ?_⟩⟩
      have hk : k = bag.length := by omega
      subst hk
      rw [List.take_length] at hcn
      have hc3 := hcn.far hT hlr (Far.grown (S := fun x => x = w.heap.size + 4) (grownBy_putObj' W2 (w.heap.size + 3 + 1) (r .exhausted none)) fun k e => by cases e; rfl)
      have hd3 : (W2.putObj (w.heap.size + 3 + 1) (r .exhausted none)).heap[w.heap.size + 3]? = some (.deferred (some [])) := by
        rw [World.putObj_heap_other (by omega)]
        obtain ⟨_, _, f, _⟩ := hcn
        exact (f.block _ (by omega) (by omega)).trans HD1.out
      generalize W2.putObj (w.heap.size + 3 + 1) (r .exhausted none) = W3 at hc3 hd3 ⊢
      have HC3 := Lib.hid hc3
      clear hr hcn hl2 hs2 hc3 hl1 hd1
      gi_wp2_with fail
      refine ⟨by simp, .inl ⟨_, _, rfl, run_takeDeferred hd3, ?_⟩⟩
      obtain ⟨A9, R9, f9, n9, u9, o9, b9⟩ := HC3.out
      have hsz9 : W1.heap.size ≤ W3.heap.size := f9.size
      have hff : Far (fun x => x = w.heap.size + 3) W3 (W3.putObj (w.heap.size + 3) (.deferred none)) := Far.grown (grownBy_putObj' W3 _ _) fun k e => by cases e; rfl
      refine ⟨.pointer (some ⟨w.heap.size, 0, none⟩), ?_, _, A9, R9, rfl, ?_, u9, fun k hk => ?_, n9.upd (show Upd (fun x => x = w.heap.size + 3) R9 R9 W3 _ from ⟨hff, fun k hk hR => ?_, fun _ h => h, fun _ h => .inl h, fun k hk => Nat.lt_of_lt_of_le (n9.lt k hk) hff.size⟩) fun k hk hk3 => ?_, fun k hk => ?_⟩
      · simp [results, Try.f21, go_sem]
      · exact (hb01.trans (f9.below (fun x hx => by omega) (by omega))).trans (hff.below (fun x hx => by omega) (by omega))
      · rcases o9 k hk with h6 | h6
        · exact .inl h6
        · exact .inr (by omega)
      · subst hk
        rcases o9 _ hR with h6 | h6
        · have := hlr _ h6; omega
        · omega
      · subst hk3
        rcases b9 _ hk with h6 | h6 <;> omega
      · rcases b9 k hk with h6 | h6 <;> omega
    · exact hf.elim
end Go.Proofs.Ytfmflbcmigiciaa
