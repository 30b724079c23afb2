/- Chapter 05: a net's block, as cells; who changes what. -/
import Derived.Test.YtfmflbcmigiciaaNew
namespace Go.Proofs.Ytfmflbcmigiciaa
open Go.RowKit

/-- A net's cells. -/
def netA (sl : Value) (most N : Int) (cut : Nat → Nat → Bool) : Array Value := #[sl, .int .i64 most, .int .i64 N] ++ ((Array.range 256).map fun i => .bool (cut (i / 16) (i % 16)))
theorem netA_size (sl : Value) (most N : Int) (cut : Nat → Nat → Bool) : (netA sl most N cut).size = 259 := by simp [netA]
theorem netA_hi (sl : Value) (most N : Int) (cut : Nat → Nat → Bool) (i : Nat) (hi : i < 256) : (netA sl most N cut)[3 + i]? = some (.bool (cut (i / 16) (i % 16))) := by
  unfold netA
  rw [Array.getElem?_append_right (by simp)]
  simp [hi]
theorem netA_lo (sl : Value) (most N : Int) (cut : Nat → Nat → Bool) : (netA sl most N cut)[0]? = some sl ∧ (netA sl most N cut)[1]? = some (.int .i64 most) ∧ (netA sl most N cut)[2]? = some (.int .i64 N) := by
  unfold netA
  refine ⟨?_, ?_, ?_⟩ <;> rw [Array.getElem?_append_left (by simp)] <;> rfl
theorem netA_out (sl : Value) (most N : Int) (cut : Nat → Nat → Bool) (i : Nat) (hi : 259 ≤ i) : (netA sl most N cut)[i]? = none := Array.getElem?_eq_none (by rw [netA_size]; exact hi)
theorem netA_ext {cs : Array Value} {sl : Value} {most N : Int} {cut : Nat → Nat → Bool} (h0 : cs[0]? = some sl) (h1 : cs[1]? = some (.int .i64 most)) (h2 : cs[2]? = some (.int .i64 N)) (h3 : ∀ i, i < 256 → cs[3 + i]? = some (.bool (cut (i / 16) (i % 16)))) (hs : cs.size = 259) : cs = netA sl most N cut := by
  apply Array.ext_getElem?
  intro i
  obtain ⟨l0, l1, l2⟩ := netA_lo sl most N cut
  match i with
  | 0 => rw [h0, l0]
  | 1 => rw [h1, l1]
  | 2 => rw [h2, l2]
  | i + 3 =>
    rw [Nat.add_comm i 3]
    by_cases hi : i < 256
    · rw [h3 i hi, netA_hi _ _ _ _ i hi]
    · rw [netA_out _ _ _ _ _ (by omega), Array.getElem?_eq_none (by omega)]
theorem netA_set0 (sl sl' : Value) (most N : Int) (cut : Nat → Nat → Bool) : (netA sl most N cut).setIfInBounds 0 sl' = netA sl' most N cut := by
  obtain ⟨l0, l1, l2⟩ := netA_lo sl most N cut
  apply netA_ext
  · rw [Array.getElem?_setIfInBounds]; simp [netA_size]
  · rw [Array.getElem?_setIfInBounds_ne (by omega)]; exact l1
  · rw [Array.getElem?_setIfInBounds_ne (by omega)]; exact l2
  · intro i hi; rw [Array.getElem?_setIfInBounds_ne (by omega)]; exact netA_hi _ _ _ _ i hi
  · rw [Array.size_setIfInBounds]; exact netA_size _ _ _ _
def setCut (cut : Nat → Nat → Bool) (a b : Nat) (v : Bool) : Nat → Nat → Bool := fun x y => if x = a ∧ y = b then v else cut x y
theorem netA_setCut (sl : Value) (most N : Int) (cut : Nat → Nat → Bool) (a b : Nat) (v : Bool) (ha : a < 16) (hb : b < 16) : (netA sl most N cut).setIfInBounds (3 + (a * 16 + b)) (.bool v) = netA sl most N (setCut cut a b v) := by
  obtain ⟨l0, l1, l2⟩ := netA_lo sl most N cut
  apply netA_ext
  · rw [Array.getElem?_setIfInBounds_ne (by omega)]; exact l0
  · rw [Array.getElem?_setIfInBounds_ne (by omega)]; exact l1
  · rw [Array.getElem?_setIfInBounds_ne (by omega)]; exact l2
  · intro i hi
    by_cases hi2 : i = a * 16 + b
    · subst hi2
      rw [Array.getElem?_setIfInBounds]
      have h1 : (a * 16 + b) / 16 = a := by omega
      have h2 : (a * 16 + b) % 16 = b := by omega
      simp only [netA_size, h1, h2, setCut, and_self, if_true]
      rw [if_pos (by omega)]
    · rw [Array.getElem?_setIfInBounds_ne (by omega), netA_hi _ _ _ _ i hi]
      have : ¬ (i / 16 = a ∧ i % 16 = b) := by omega
      simp [setCut, this]
  · rw [Array.size_setIfInBounds]; exact netA_size _ _ _ _
theorem netC_eq (N : Int) : netC N = netA (.slice none 0 0) 64 N (fun _ _ => false) := by
  apply netA_ext
  · rw [netC_get]; simp
  · rw [netC_get]; simp
  · rw [netC_get]; simp
  · intro i hi; rw [netC_get]; simp [show ¬ 3 + i = 1 by omega, show ¬ 3 + i = 2 by omega, show 3 + i < 259 by omega]
  · unfold netC; simp [netZ_size]
theorem netZ_eq : netZ = netA (.slice none 0 0) 0 0 (fun _ _ => false) := by
  apply netA_ext
  · unfold netZ; rw [Array.getElem?_append_left (by simp)]; rfl
  · unfold netZ; rw [Array.getElem?_append_left (by simp)]; rfl
  · unfold netZ; rw [Array.getElem?_append_left (by simp)]; rfl
  · intro i hi
    unfold netZ
    rw [Array.getElem?_append_right (by simp), Array.getElem?_replicate, if_pos (by simp; omega)]
  · exact netZ_size

/-- Nothing is changed but blocks of S and new ones. -/
structure Far (S : Nat → Prop) (w w' : World) : Prop where
  os : w'.os = w.os
  tape : w'.tape = w.tape
  output : w'.output = w.output
  size : w.heap.size ≤ w'.heap.size
  block : ∀ k, k < w.heap.size → ¬ S k → w'.heap[k]? = w.heap[k]?
theorem Far.refl (S : Nat → Prop) (w : World) : Far S w w := ⟨rfl, rfl, rfl, Nat.le_refl _, fun _ _ _ => rfl⟩
theorem Far.trans {S T : Nat → Prop} {a b c : World} (h : Far S a b) (k : Far T b c) (hst : ∀ x, x < a.heap.size → T x → S x) : Far S a c :=
  ⟨k.os.trans h.os, k.tape.trans h.tape, k.output.trans h.output, Nat.le_trans h.size k.size, fun x hx hn => (k.block x (Nat.lt_of_lt_of_le hx h.size) fun ht => hn (hst x hx ht)).trans (h.block x hx hn)⟩
theorem Far.of_below {S : Nat → Prop} {w w' : World} (h : Below w.heap.size w w') : Far S w w' := ⟨h.os, h.tape, h.output, h.size, fun k hk _ => h.block k hk⟩
theorem Far.below {S : Nat → Prop} {B : Nat} {w w' : World} (h : Far S w w') (hs : ∀ k, S k → B ≤ k) (hB : B ≤ w.heap.size) : Below B w w' := ⟨h.os, h.tape, h.output, h.size, fun k hk => h.block k (by omega) fun hS => by have := hs k hS; omega⟩
theorem Far.grown {S : Nat → Prop} {w w' : World} {row : Option Nat} (h : w.grownBy w' row) (hr : ∀ k, row = some k → S k) : Far S w w' := ⟨h.os, h.tape, h.output, h.size, fun k hk hn => h.block k hk fun e => hn (hr k e.symm)⟩
theorem Far.setCell {S : Nat → Prop} {w w' : World} (h : Far S w w') {p : Addr} (hp : S p.block ∨ w.heap.size ≤ p.block) (u : Value) : Far S w (w'.setCell p u) :=
  ⟨h.os, h.tape, h.output, by rw [size_setCell]; exact h.size, fun k hk hn => (Below.heap_setCell w' p u k fun e => by rcases hp with hp | hp; exact hn (e ▸ hp); omega).trans (h.block k hk hn)⟩
theorem Far.drewN {S : Nat → Prop} {w w' : World} (h : Far S w w') (n : Nat) : Far S w (w'.drewN n) := ⟨h.os, h.tape, h.output, h.size, h.block⟩
theorem Far.drew {S : Nat → Prop} {w w' : World} (h : Far S w w') : Far S w w'.drew := ⟨h.os, h.tape, h.output, h.size, h.block⟩
theorem Blk.far_ {S : Nat → Prop} {w w' : World} {g : Nat} {t : TypeId} {cs : Array Value} (h : Blk w g t cs) (hf : Far S w w') (hg : ¬ S g) : Blk w' g t cs := (hf.block g h.lt hg).trans h
theorem own_far {S : Nat → Prop} {w w' : World} {base : Nat} {e : TypeId} {size n : Nat} {v : Value} {xs : List Value} (h : w.ownsRow base e size v n xs) (hf : Far S w w') (hg : ∀ k, v.ownBlock = some k → ¬ S k) : w'.ownsRow base e size v n xs := by
  have hl := h.lt
  obtain ⟨h1, h2⟩ := h
  refine ⟨h1, ?_⟩
  rcases h2 with h2 | ⟨g, cap, cur, rfl, b, c, d⟩
  · exact .inl h2
  · exact .inr ⟨g, cap, cur, rfl, b, (hf.block g (hl g rfl).2 (hg g rfl)).trans c, d⟩
end Go.Proofs.Ytfmflbcmigiciaa
