/- General: a range over a function, its rounds told what lies in memory when they begin. -/
import Derived.Test.YtfmflbcmigiciaaMore
import Derived.RangeFuncRecord
import Derived.RangeFuncOwn
import Derived.RangeFuncCalls
import Derived.RangeFuncKeeps
import Derived.Shelf.RegionOpen
import Derived.Shelf.Abstract
import Derived.OwnWalkIn
import Derived.TacticsInMore
import Derived.LoopNIn
import Derived.LoopIn
namespace Go.Proofs.Ytfmflbcmigiciaa
open Go.RowKit Go.Shelf
namespace Rf
variable {P : Program} {n : Nat}

def lp (fn : FuncId) (tmps : Array Value) (ps : Array Tmp) (asg body : Code) (D : Nat) (st : LoopState) (pe : Option Code) : Obj :=
  .loop { state := st, pending := pe, fn, tmps, params := ps, assign := asg, body, defers := D }

/-- How a round may be left. -/
def rq (l : Nat) (r : LoopState → Option Code → Obj) (R : Ending → World → Prop) : Exit → Act → World → Prop
  | .normal, _, W => W.heap[l]? = some (r .busy none) ∧ R (.returned (.bool true)) (W.putObj l (r .ready none))
  | .ret, _, W => W.heap[l]? = some (r .busy none) ∧ R (.returned (.bool false)) (W.putObj l (r .done (some .ret)))
  | .exit id, _, W => W.heap[l]? = some (r .busy none) ∧ R (.returned (.bool false)) (W.putObj l (r .done (some (.exit id))))
  | _, _, _ => False

theorem yieldAt {l : Nat} {args : Array Value} {W : World} {R : Ending → World → Prop} {fn : FuncId} {tmps : Array Value} {ps : Array Tmp} {asg body : Code} {D : Nat} {r : LoopState → Option Code → Obj} (hr : r = lp fn tmps ps asg body D)
    (hl : W.heap[l]? = some (r .ready none)) (hs : args.size = ps.size)
    (h : ∀ K : Act → World → Prop, (∀ a₁, body.wpIn (Fence.wide.inRound l) n P (rq l r R) a₁ (W.putObj l (r .busy none)) → K a₁ W) →
      asg.wpIn (Fence.wide.inRound l) n P (Exit.then K (fun _ _ _ => False)) { tmps := (ps.zip args).foldl (fun t (p, v) => t.setIfInBounds p v) tmps, defers := [] } W) :
    YieldAt Fence.wide n P l args W R := by
  subst hr
  refine ⟨fn, _, asg, body, run_yield hl hs, roundIn_of_wpIn trivial (h _ (fun a₁ hb => ⟨_, run_beginRound hl rfl, wpIn_mono hb ?_⟩))⟩
  rintro e a' W' h
  cases e with
  | normal => exact ⟨_, _, run_endRound none h.1, h.2⟩
  | ret => exact ⟨_, _, run_endRound (some .ret) h.1, h.2⟩
  | exit id => exact ⟨_, _, run_endRound (some (.exit id)) h.1, h.2⟩
  | goto t => exact h.elim
  | panic c => exact h.elim
  | outgrown => exact h.elim

/-- What is asked behind the iterator. -/
def Done (P : Program) (n : Nat) (l : Nat) (r : LoopState → Option Code → Obj) (Q : Exit → Act → World → Prop) (a : Act) (e : Ending) (W : World) : Prop :=
  (∃ v, e = .returned v) ∧ ((W.heap[l]? = some (r .ready none) ∧ Q .normal a (W.putObj l (r .exhausted none))) ∨ ∃ c, W.heap[l]? = some (r .done (some c)) ∧ c.wpIn Fence.wide n P Q a (W.putObj l (r .exhausted (some c))))

theorem range {g : Operand} {ps : Array Tmp} {asg body : Code} {Q : Exit → Act → World → Prop} {a : Act} {w : World} {gf : Nat} {lb : Array Value} (hn : 1 ≤ n)
    (hg : a.eval g = .func (.func gf) #[] lb) (eg : ∀ args w, (callFunc gf args).run P w = .ok (.enter gf args) w)
    (h : ∀ fn r W, r = lp fn a.tmps ps asg body w.heap.size → W.heap[w.heap.size + 1]? = some (r .ready none) → W.heap[w.heap.size]? = some (.deferred (some [])) → Below w.heap.size w W → W.heap.size = w.heap.size + 1 + 1 →
      CallsIn Fence.wide (n - 1) P gf (#[.func (.yield (w.heap.size + 1)) #[] #[]] ++ lb) W (Done P n (w.heap.size + 1) r Q { a with defers := { target := .collected w.heap.size, args := #[] } :: a.defers })) :
    (Code.rangeFunc g ps asg body).wpIn Fence.wide n P Q a w := by
  refine wpIn_rangeFunc ?_
  intro fn hfn
  refine ⟨w.heap.size + 1, [{ target := .collected w.heap.size, args := #[] }], (w.alloc (.deferred (some []))).alloc (lp fn a.tmps ps asg body w.heap.size .ready none), { target := .fn (.func gf) lb, args := #[.func (.yield (w.heap.size + 1)) #[] #[]] }, (w.alloc (.deferred (some []))).alloc (lp fn a.tmps ps asg body w.heap.size .ready none), gf,
    #[.func (.yield (w.heap.size + 1)) #[] #[]] ++ lb, (w.alloc (.deferred (some []))).alloc (lp fn a.tmps ps asg body w.heap.size .ready none), run_enterLoop_outer _ _ _ _ _, ?_, ?_, ?_, fun _ => hn, ?_⟩
  · simp only [resolve, hg]
    simp [go_sem]
  · intro f' hf'; exact trivial
  · simp [invoke, go_sem, eg]
  · refine CallsIn.mono (h fn _ _ rfl (by have := World.alloc_heap_new (w.alloc (.deferred (some []))) (lp fn a.tmps ps asg body w.heap.size .ready none); rwa [World.size_alloc] at this)
      ((Below.heap_alloc _ _ _ (by simp)).trans (World.alloc_heap_new w _)) (((Below.refl _ w).alloc (Nat.le_refl _) _).alloc (by simp) _) (by simp)) ?_
    rintro e W ⟨⟨v, rfl⟩, ⟨h1, h2⟩ | ⟨c, h1, h2⟩⟩
    · exact ⟨none, _, run_endLoop h1 (by simp), h2⟩
    · exact ⟨some c, _, run_endLoop h1 (by simp), h2⟩
end Rf

theorem reads_put {W : World} {B s n l : Nat} {A : Option Addr} {xs : List Value} {o : Obj} (h : Reads W B s A n xs) (hl : W.heap[l]? = some o) (ho : o.isCells = false) (o' : Obj) : Reads (W.putObj l o') B s A n xs :=
  ⟨h.1, fun hn => by
    obtain ⟨ad, e, hb, hc⟩ := h.2 hn
    exact ⟨ad, e, hb, fun j u hu => cell_kept (hc j u hu) (grownBy_putObj' W l o') (fun r e => by cases e; exact ⟨_, hl, ho⟩)⟩⟩
theorem below_put {B : Nat} {a w : World} (h : Below B a w) {l : Nat} (hl : B ≤ l) (o : Obj) (hsz : l < w.heap.size) : Below B a (w.putObj l o) :=
  h.grown (grownBy_putObj' w l o) (by omega) (fun k e => by cases e; omega)

theorem below_of_grown {w w' : World} (h : w.grownBy w' none) : Below w.heap.size w w' := (Below.refl _ w).grown h (Nat.le_refl _) (fun _ e => by cases e)
theorem run_append_zero {P : Program} {w : World} {t ty e : TypeId} {i : TypeInfo} (ht : P.underlying t = some (.slice e)) (hi : P.info? e = some i) (g c : Nat) (A : Option Addr) :
    (Builtin.append_ #[t, t] ty #[.slice (some ⟨g, 0, none⟩) 0 0, .slice A 0 c]).run P w = .ok (.slice (some ⟨g, 0, none⟩) 0 0) w := by
  cases A <;> simp [Builtin.append_, run_underlying ht, sizeOf, typeInfo, hi, Builtin.lenOf, Builtin.firstCells, storeCells, loadCells, loadCellsFrom, Result.andThen]
/-- 'append([]T{}, xs...)' where the empty row is known: nothing that lay before it turns. -/
theorem wpList_append_lit {P : Program} (w : World) {ops : Array Oper} {rest : List Oper} {o : Oper} {a : Act} {Q : Exit → Act → World → Prop} (hgd : o.guard = none) (s x : Operand) (t : TypeId)
    (ho : o.op = .call { callee := .builtin .append, args := #[s, x], argTypes := #[t, t] })
    (e : TypeId) (i : TypeInfo) (z : Value) (size bytes : Nat) (ht : P.underlying t = some (.slice e)) (hi : P.info? e = some i) (hz : i.zero = some z)
    (hsize : i.size = size) (hby : i.bytes = bytes) (hzs : z.cells.size = size) (hsz : 0 < size)
    (g base : Nat) (hs : a.eval s = .slice (some ⟨g, 0, none⟩) 0 0) (hblk : Blk w g e #[]) (hbg : base ≤ g)
    (B : Nat) (A : Option Addr) (m c : Nat) (news : List Value) (hx : a.eval x = .slice A m c) (hr : Reads w B size A m news) (h1 : ∀ u ∈ news, u.oneCell' = true)
    (h63 : m ≤ maxLen) (hbytes : m * bytes ≤ 140737488355328)
    (h : ∀ A' c' w', m ≤ c' → c' ≤ maxLen → w'.ownsRow base e size (.slice A' m c') m news → Below w.heap.size w w' → wpList P ops Q rest (a.put o.dst (.slice A' m c')) w') : wpList P ops Q (o :: rest) a w := by
  rcases Nat.eq_zero_or_pos m with h0 | h0
  · subst h0
    have hn : news = [] := List.eq_nil_of_length_eq_zero (by simpa using hr.1)
    subst hn
    refine wpList_plain hgd fun K hK => ?_
    have hrun := run_append_zero (P := P) (w := w) (t := t) (ty := o.type) ht hi g c A
    unfold Oper.wp
    simp [execOp, ho, resolve, invoke, builtin, hs, hx, hrun, Result.andThen]
    exact hK _ _ (h _ _ _ (Nat.le_refl _) (Nat.zero_le _) ⟨by simp, .inr ⟨g, 0, #[], rfl, hbg, hblk, Nat.le_refl _, Nat.zero_le _, by simp, by simp⟩⟩ (Below.refl _ _))
  · obtain ⟨ad, rfl, hb, hc⟩ := hr.2 h0
    refine wpList_append_grows w hgd s x t ho e i z size bytes ht hi hz hsize hby hzs hsz (some ⟨g, 0, none⟩) 0 0 [] hs (fun h => (by cases h)) (by simp) (fun _ _ _ _ hu => (by simp at hu)) ad m c news hx hr.1 hc h1 (by omega) (by omega) (by simpa using hbytes) ?_
    intro v' w' hown hg
    rw [Nat.zero_add] at hown
    obtain ⟨A', c', rfl, h2, h3⟩ := own_form hown
    refine h _ _ _ h2 h3 ?_ (below_of_grown hg)
    have hlt := hblk.lt
    obtain ⟨p, q⟩ := hown
    refine ⟨by simpa using p, ?_⟩
    rcases q with q | ⟨g', cap, cur, q1, q2, q3⟩
    · exact .inl q
    · exact .inr ⟨g', cap, cur, q1, by omega, by simpa using q3⟩
theorem Rg.S.get {specs : List (Tmp × Rg.Spec)} {t : Tmp} {v : Value} {w : World} {s : Tmp × Rg.Spec} (h : Rg.S specs t v w) (hf : specs.find? (fun s => s.1 == t) = some s) : s.2.p v w :=
  h s (List.mem_of_find?_eq_some hf) (by have := List.find?_some hf; simpa using this)
theorem Rg.S.mk {specs : List (Tmp × Rg.Spec)} {t : Tmp} {v : Value} {w : World} {s : Rg.Spec} (hf : specs.filter (fun s => s.1 == t) = [(t, s)]) (h : s.p v w) : Rg.S specs t v w := fun s' hs' he => by
  have : s' ∈ specs.filter (fun s => s.1 == t) := List.mem_filter.2 ⟨hs', by simpa using he⟩
  rw [hf] at this
  simp at this
  rw [this]; exact h

/-! ### The steps of a drawn region's head, each walked once, with what it looks at laid out. -/
namespace Rs
open Rg
section
variable {P : Program} {ops : Array Oper}
def look (specs : List (Tmp × Rg.Spec)) (t : Tmp) (v : Value) (w : World) : Prop := match specs.find? (fun s => s.1 == t) with
  | some s => s.2.p v w
  | none => True
def looks (specs : List (Tmp × Rg.Spec)) (vals : Tmp → Value) (w : World) : List Tmp → Prop
  | [] => True
  | t :: l => look specs t (vals t) w ∧ looks specs vals w l
def frm (D : List Tmp) (a : Act) (vals : Tmp → Value) : Act := D.foldl (fun a t => a.put (some t) (vals t)) a
theorem look_of {specs : List (Tmp × Rg.Spec)} {t : Tmp} {v : Value} {w : World} (h : S specs t v w) : look specs t v w := by
  unfold look
  cases hf : specs.find? (fun s => s.1 == t) with
  | none => trivial
  | some s => exact h s (List.mem_of_find?_eq_some hf) (by have := List.find?_some hf; simpa using this)
theorem of_look {specs : List (Tmp × Rg.Spec)} {t : Tmp} {v : Value} {w : World} (hn : (specs.map (·.1)).Nodup) (h : look specs t v w) : S specs t v w := by
  intro s hs he
  have hf : specs.find? (fun s => s.1 == t) = some s := by
    clear h
    induction specs with
    | nil => cases hs
    | cons x l ih =>
      simp only [List.map_cons, List.nodup_cons] at hn
      rcases List.mem_cons.1 hs with rfl | hs
      · simp [he]
      · have : x.1 ≠ t := fun e => hn.1 (by rw [e, ← he]; exact List.mem_map_of_mem hs)
        rw [List.find?_cons_of_neg (by simpa using this)]
        exact ih hn.2 hs
  unfold look at h
  rw [hf] at h
  exact h
theorem looks_of {specs : List (Tmp × Rg.Spec)} {vals : Tmp → Value} {w : World} : ∀ (L : List Tmp), (∀ t ∈ L, S specs t (vals t) w) → looks specs vals w L
  | [], _ => trivial
  | t :: L, h => ⟨look_of (h t (by simp)), looks_of L fun t ht => h t (by simp [ht])⟩

def slotOf (ops : Array Oper) (o : Oper) : Option Tmp := o.guard.bind fun g => (ops[g.1]?).bind (·.dst)
/-- What the guard asks. -/
def asked (ops : Array Oper) (o : Oper) (vals : Tmp → Value) : Prop := match o.guard, slotOf ops o with
  | none, _ => True
  | some (_, want), some t => vals t = .bool want
  | some _, none => False
def okG (ops : Array Oper) (D : List Tmp) (n : Nat) (o : Oper) : Bool := match o.guard with
  | none => true
  | some _ => match slotOf ops o with
    | some t => D.contains t && decide (t < n)
    | none => false
theorem wanted_of {D : List Tmp} {a : Act} {o : Oper} {vals : Tmp → Value} (hk : okG ops D a.tmps.size o = true) (h : asked ops o vals) : Region.wanted o (yielded ops (frm D a vals).tmps) = true := by
  unfold asked at h
  unfold okG at hk
  unfold Region.wanted
  cases hg : o.guard with
  | none => rfl
  | some g =>
    obtain ⟨g, want⟩ := g
    simp only [hg] at h hk ⊢
    unfold slotOf at h hk
    simp only [hg, Option.bind_some] at h hk
    cases hs : (ops[g]?).bind (·.dst) with
    | none => rw [hs] at hk; cases hk
    | some t =>
      rw [hs] at h hk
      simp only [Bool.and_eq_true, List.contains_eq_mem, decide_eq_true_eq] at hk h
      obtain ⟨_, _, p3⟩ := foldl_tmps vals D a
      have : (frm D a vals).tmps[t]? = some (.bool want) := by unfold frm; rw [p3 t, if_pos hk, h]
      unfold yielded
      rw [hs]
      simp [this]

/-- One step, in the world W. -/
def StepL (P : Program) (ops : Array Oper) (Q : Exit → Act → World → Prop) (specs : List (Tmp × Rg.Spec)) (D : List Tmp) (a : Act) (vals : Tmp → Value) (W : World) (o : Oper) : Prop :=
  looks specs vals W ((o.looksAt ops).filter D.contains) → asked ops o vals ∧
    ∀ K : Act → World → Prop, (∀ v w'', Below W.heap.size W w'' → (match o.dst with | some d => look specs d v w'' | none => True) → K ((frm D a vals).put o.dst v) w'') → wpList P ops (Seg.thenK Q K) [o] (frm D a vals) W
def StepsL (P : Program) (ops : Array Oper) (Q : Exit → Act → World → Prop) (specs : List (Tmp × Rg.Spec)) (D : List Tmp) (a : Act) (vals : Tmp → Value) (W : World) : List Oper → Prop
  | [] => True
  | o :: l => StepL P ops Q specs D a vals W o ∧ StepsL P ops Q specs D a vals W l
theorem stepsL_mem {Q : Exit → Act → World → Prop} {specs : List (Tmp × Rg.Spec)} {D : List Tmp} {a : Act} {vals : Tmp → Value} {W : World} {o : Oper} : ∀ {l : List Oper}, StepsL P ops Q specs D a vals W l → o ∈ l → StepL P ops Q specs D a vals W o
  | _ :: _, h, ho => (List.mem_cons.1 ho).elim (fun e => e ▸ h.1) (fun h' => stepsL_mem h.2 h')

/-- One step whose looks are the list L. -/
theorem stepL {Q : Exit → Act → World → Prop} {specs : List (Tmp × Rg.Spec)} {D : List Tmp} {a : Act} {vals : Tmp → Value} {W : World} {o : Oper} (L : List Tmp) (hL : (((o.looksAt ops).filter D.contains) == L) = true)
    (h : looks specs vals W L → asked ops o vals ∧
      ∀ K : Act → World → Prop, (∀ v w'', Below W.heap.size W w'' → (match o.dst with | some d => look specs d v w'' | none => True) → K ((frm D a vals).put o.dst v) w'') → wpList P ops (Seg.thenK Q K) [o] (frm D a vals) W) : StepL P ops Q specs D a vals W o := by
  unfold StepL
  rw [eq_of_beq hL]
  exact h

theorem region {id : Nat} {Q : Exit → Act → World → Prop} {a : Act} {w : World} {l : List Oper} (n : Nat) (specs : List (Tmp × Rg.Spec)) (D : List Tmp) (hD : specs.map (·.1) = D) (hN : D.Nodup) (hm : P.follows .mixedOrders = true)
    (hB : (Seg.backB l.toArray && okB l.toArray D n && Seg.boundB l.toArray n && decide (n ≤ l.length) &&
      ((List.range (l.length - n)).all fun j => decide (Region.ready .any l.toArray (Seg.pre l.toArray.size (n + j)).toArray = [n + j]))) = true)
    (hG : ((l.take n).all fun o => okG l.toArray D a.tmps.size o) = true)
    (H : ∀ vals W, Below w.heap.size w W → StepsL P l.toArray Q specs D a vals W (l.take n))
    (hQ : ∀ vals W, Below w.heap.size w W → looks specs vals W ((l.take n).filterMap (·.dst)) → wpList P l.toArray Q (l.drop n) (frm D a vals) W) : (Code.region id l.toArray true).wp P Q a w := by
  subst hD
  refine Rg.region n specs hm hB (fun o ho => Rg.step_walk fun vals W hb hS => ?_) (fun vals W hb hS => ?_)
  · obtain ⟨h1, h2⟩ := stepsL_mem (H vals W hb) ho (looks_of _ (fun t ht => by
      have := List.mem_filter.1 ht
      exact hS t this.1 (by simpa using this.2)))
    refine ⟨wanted_of (List.all_eq_true.1 hG o ho) h1, fun K hK => h2 K (fun v w'' hb' hv => hK v w'' hb' (fun d hd => ?_))⟩
    rw [hd] at hv
    exact of_look hN hv
  · refine hQ vals W hb (looks_of _ (fun t ht => ?_))
    obtain ⟨o, ho, hd⟩ := List.mem_filterMap.1 ht
    exact hS o ho t hd
end
end Rs
end Go.Proofs.Ytfmflbcmigiciaa
