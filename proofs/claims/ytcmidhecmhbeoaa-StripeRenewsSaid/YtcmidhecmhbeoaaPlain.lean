/- Chapter 14, plain: places, rows of them, write sets, who is among whom. -/
import Derived.Test.YtcmidhecmhbeoaaMore
import Derived.Test.YtcmidhecmhbeoaaProg
namespace Go.Proofs.Ytcmidhecmhbeoaa
open Go.RowKit

structure Pl where
  n : Int
  s : Int
deriving DecidableEq, Inhabited
def Pl.cs (x : Pl) : List Value := [.int .i64 x.n, .int .u64 x.s]
def Pl.zero : Pl := ⟨0, 0⟩
theorem pl_len (x : Pl) : x.cs.length = 2 := rfl
theorem pl_one (l : List Pl) : ∀ u ∈ l.flatMap Pl.cs, u.oneCell' = true := by
  intro u hu
  obtain ⟨b, _, hb⟩ := List.mem_flatMap.1 hu
  simp only [Pl.cs, List.mem_cons, List.not_mem_nil, or_false] at hb
  rcases hb with rfl | rfl <;> rfl
theorem int_one (l : List Int) : ∀ u ∈ l.map (Value.int .i64), u.oneCell' = true := by
  intro u hu
  obtain ⟨b, _, rfl⟩ := List.mem_map.1 hu
  rfl

/-- A row of places in memory. -/
abbrev PR (w : World) (B : Nat) (A : Option Addr) (l : List Pl) : Prop := Reads w B 2 A l.length (l.flatMap Pl.cs)

theorem take_snoc? {α : Type} {l : List α} {k : Nat} {y : α} (h : l[k]? = some y) : l.take (k + 1) = l.take k ++ [y] := by
  obtain ⟨hk, rfl⟩ := List.getElem?_eq_some_iff.1 h
  exact take_snoc' l k hk

theorem pl_elem {w : World} {B : Nat} {A : Option Addr} {l : List Pl} (h : PR w B A l) {k : Nat} (hk : k < l.length) :
    ∃ b o n s, A = some ⟨b, o, none⟩ ∧ b < B ∧ l[k]? = some ⟨n, s⟩ ∧ w.cell? ⟨b, o + k * 2, none⟩ = some (.int .i64 n) ∧ w.cell? ⟨b, o + k * 2 + 1, none⟩ = some (.int .u64 s) := by
  obtain ⟨b, o, rfl, hB, hc⟩ := Reads.elem pl_len h hk (by omega)
  have y0 := hc 0 _ (by omega) rfl
  have y1 := hc 1 _ (by omega) rfl
  rw [Nat.add_zero] at y0
  exact ⟨b, o, l[k].n, l[k].s, rfl, hB, List.getElem?_eq_getElem hk, y0, y1⟩

theorem pl_eq_iff (a b c d : Int) : ((⟨a, b⟩ : Pl) = ⟨c, d⟩) = (a = c ∧ b = d) := by simp
theorem run_eqP (a b c d : Int) (W : World) :
    (binOp .eql 37 (.agg #[.int .i64 a, .int .u64 b]) (.agg #[.int .i64 c, .int .u64 d])).run Try.prog W = .ok (.bool (decide ((⟨a, b⟩ : Pl) = ⟨c, d⟩))) W := by
  simp only [pl_eq_iff]
  simp [go_sem]
  by_cases h1 : a = c <;> by_cases h2 : b = d <;> simp [h1, h2]
theorem run_neP (a b c d : Int) (W : World) :
    (binOp .neq 37 (.agg #[.int .i64 a, .int .u64 b]) (.agg #[.int .i64 c, .int .u64 d])).run Try.prog W = .ok (.bool (!decide ((⟨a, b⟩ : Pl) = ⟨c, d⟩))) W := by
  simp only [pl_eq_iff]
  simp [go_sem]
  by_cases h1 : a = c <;> by_cases h2 : b = d <;> simp [h1, h2]

theorem belowN {B : Nat} {a w : World} (h : Below B a w) (n : Nat) : Below B a (w.drewN n) := ⟨h.os, h.tape, h.output, h.size, h.block⟩

/-- The place of the first one, below 0: there is none. -/
def idxP (l : List Pl) (x : Pl) : Int := if x ∈ l then (l.idxOf x : Nat) else -1
def idxI (l : List Int) (x : Int) : Int := if x ∈ l then (l.idxOf x : Nat) else -1
theorem idxP_at {l : List Pl} {x : Pl} {m : Nat} (h : l[m]? = some x) (hn : x ∉ l.take m) : idxP l x = m := by
  obtain ⟨hm, hx⟩ := List.getElem?_eq_some_iff.1 h
  unfold idxP
  rw [if_pos (List.mem_of_getElem? h), ← hx, idxOf_eq_of_not_take l m hm (by rw [hx]; exact hn)]
theorem idxI_at {l : List Int} {x : Int} {m : Nat} (h : l[m]? = some x) (hn : x ∉ l.take m) : idxI l x = m := by
  obtain ⟨hm, hx⟩ := List.getElem?_eq_some_iff.1 h
  unfold idxI
  rw [if_pos (List.mem_of_getElem? h), ← hx, idxOf_eq_of_not_take l m hm (by rw [hx]; exact hn)]
theorem idxP_ge (l : List Pl) (x : Pl) : decide (0 ≤ idxP l x) = decide (x ∈ l) := by
  unfold idxP; by_cases h : x ∈ l <;> simp [h]
theorem idxI_ge (l : List Int) (x : Int) : decide (0 ≤ idxI l x) = decide (x ∈ l) := by
  unfold idxI; by_cases h : x ∈ l <;> simp [h]

/-- Each once. -/
def stepN (a : List Pl) (x : Pl) : List Pl := if x ∈ a then a else a ++ [x]
def nub (l : List Pl) : List Pl := l.foldl stepN []
theorem nub_snoc (l : List Pl) (x : Pl) : nub (l ++ [x]) = if x ∈ nub l then nub l else nub l ++ [x] := by simp only [nub, List.foldl_append, List.foldl_cons, List.foldl_nil]; rfl
theorem foldl_mem (l : List Pl) : ∀ a x, x ∈ l.foldl stepN a ↔ x ∈ a ∨ x ∈ l := by
  induction l with
  | nil => simp
  | cons y l ih =>
    intro a x
    rw [List.foldl_cons, ih]
    unfold stepN
    by_cases h : y ∈ a
    · rw [if_pos h]; simp only [List.mem_cons]
      constructor
      · rintro (h1 | h1)
        · exact .inl h1
        · exact .inr (.inr h1)
      · rintro (h1 | h1 | h1)
        · exact .inl h1
        · exact .inl (h1 ▸ h)
        · exact .inr h1
    · rw [if_neg h]; simp only [List.mem_append, List.mem_cons, List.not_mem_nil, or_false, or_assoc]
theorem mem_nub (l : List Pl) (x : Pl) : x ∈ nub l ↔ x ∈ l := by unfold nub; rw [foldl_mem]; simp
theorem foldl_nodup (l : List Pl) : ∀ a : List Pl, a.Nodup → (l.foldl stepN a).Nodup := by
  induction l with
  | nil => intro a h; exact h
  | cons y l ih =>
    intro a h
    rw [List.foldl_cons]
    apply ih
    unfold stepN
    by_cases hy : y ∈ a
    · rw [if_pos hy]; exact h
    · rw [if_neg hy]
      exact List.nodup_append.2 ⟨h, by simp, by intro u hu v hv; simp at hv; subst hv; intro e; exact hy (e ▸ hu)⟩
theorem nub_nodup (l : List Pl) : (nub l).Nodup := foldl_nodup l [] (by simp)
theorem nub_len (l : List Pl) : (nub l).length ≤ l.length := by
  have h : ∀ (l a : List Pl), (l.foldl stepN a).length ≤ a.length + l.length := by
    intro l
    induction l with
    | nil => simp
    | cons y l ih =>
      intro a
      rw [List.foldl_cons]
      refine Nat.le_trans (ih _) ?_
      unfold stepN
      by_cases hy : y ∈ a
      · rw [if_pos hy]; simp only [List.length_cons]; omega
      · rw [if_neg hy]; simp only [List.length_cons, List.length_append, List.length_nil]; omega
  have := h l []
  unfold nub
  simpa using this

/-- How many of a set are among others, each once. -/
def among (s fr : List Pl) : Nat := ((nub s).filter (· ∈ fr)).length
theorem among_nil (fr : List Pl) : among [] fr = 0 := rfl
theorem among_le (s fr : List Pl) : among s fr ≤ s.length := Nat.le_trans (List.length_filter_le _ _) (nub_len s)
theorem among_snoc (s fr : List Pl) (x : Pl) : among (s ++ [x]) fr = among s fr + if x ∈ fr ∧ x ∉ s then 1 else 0 := by
  unfold among
  rw [nub_snoc]
  by_cases h : x ∈ s
  · rw [if_pos ((mem_nub s x).2 h), if_neg (fun hh => hh.2 h)]; rfl
  · rw [if_neg (fun hh => h ((mem_nub s x).1 hh)), List.filter_append]
    by_cases hf : x ∈ fr
    · rw [if_pos ⟨hf, h⟩, List.filter_cons_of_pos (by simpa using hf)]; simp
    · rw [if_neg (fun hh => hf hh.1), List.filter_cons_of_neg (by simpa using hf)]; simp

/-- From a number of a row on, so many, round. -/
def round (l : List Pl) (k w : Nat) : List Pl := (List.range w).map fun i => (l[(k + i) % l.length]?).getD Pl.zero
theorem round_len (l : List Pl) (k w : Nat) : (round l k w).length = w := by simp [round]
theorem round_snoc (l : List Pl) (k w : Nat) : round l k (w + 1) = round l k w ++ [(l[(k + w) % l.length]?).getD Pl.zero] := by simp [round, List.range_succ]
theorem round_zero (l : List Pl) (k : Nat) : round l k 0 = [] := rfl

/-- The write set of an entry, by one fragment. -/
def setP (first : Int) (b : List Pl) (w n : Int) : List Pl := if n < first ∨ w < 1 ∨ w > b.length then [] else round b ((n - first) % b.length).toNat w.toNat
theorem setP_len_le (first : Int) (b : List Pl) (w n : Int) : (setP first b w n).length ≤ b.length := by
  unfold setP
  split
  · simp
  · rw [round_len]; omega
def ackedB (s : List Pl) (a : Int) (fr : List Pl) : Bool := decide (1 ≤ a ∧ a ≤ among s fr)
def missB (s : List Pl) (w a : Int) (fr : List Pl) : Bool := decide (w < a ∨ w - a < among s fr)
def coverB (b : List Pl) (w a : Int) (fr : List Pl) : Bool := decide (1 ≤ w ∧ w ≤ b.length ∧ ∀ k, k < b.length → missB (round b k w.toNat) w a fr = true)
end Go.Proofs.Ytcmidhecmhbeoaa
