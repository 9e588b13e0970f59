/- Plain words for memory that the walks of this seat share: a slice value that reads as a list of cells (nil let in), a block that is known whole, and how they are kept. No condition. -/
import Derived.Below
import Derived.Laws.OwnMore
import Derived.Deep.AppendLies
import Derived.Deep.Draws
import Derived.Laws.Rows
namespace Go.Proofs.Ytmhmldpccccjbaa
open Go.RowKit
/-- No string shares the bytes of a block. -/
def Unf (w : World) (k : Nat) : Prop := ∃ cur ty, w.heap[k]? = some (.cells cur ty (0, 0))

theorem addr_block (a : Addr) (n : Nat) : (a.add n).block = a.block := by unfold Addr.add; split <;> rfl
theorem addr_add (a : Addr) (i j : Nat) : (a.add i).add j = a.add (i + j) := by
  unfold Addr.add
  by_cases hi : i = 0 <;> by_cases hj : j = 0 <;> simp [hi, hj, Nat.add_assoc]

/-- The slice of n elements (size cells each) at A reads as the cells xs; e: the element type of the block where it lies, where that is known. -/
def Sees (w : World) (e : Option TypeId) (size : Nat) (A : Option Addr) (n : Nat) (xs : List Value) : Prop :=
  xs.length = n * size ∧ (A = none → n = 0) ∧ ∀ ad, A = some ad →
    (0 < n → ∃ cur t fz, w.heap[ad.block]? = some (.cells cur t fz) ∧ ∀ t', e = some t' → t = t') ∧ ∀ j u, xs[j]? = some u → w.cell? (ad.add j) = some u

section
variable {w w' : World} {e : Option TypeId} {size n : Nat} {A : Option Addr} {xs : List Value}

theorem Sees.nil (w : World) (e : Option TypeId) (size : Nat) : Sees w e size none 0 [] := ⟨by simp, fun _ => rfl, fun _ h => by cases h⟩

theorem Sees.empty (h : Sees w e size A 0 xs) : xs = [] := List.eq_nil_of_length_eq_zero (by simpa using h.1)

theorem Sees.addr (h : Sees w e size A n xs) (hn : 0 < n) : ∃ ad, A = some ad := by
  cases A with
  | none => exact absurd (h.2.1 rfl) (by omega)
  | some ad => exact ⟨ad, rfl⟩

theorem Sees.lt (h : Sees w e size A n xs) (hn : 0 < n) {ad : Addr} (ha : A = some ad) : ad.block < w.heap.size := by
  obtain ⟨cur, t, fz, hc, _⟩ := (h.2.2 ad ha).1 hn
  exact (Array.getElem?_eq_some_iff.1 hc).1

theorem Sees.keep (h : Sees w e size A n xs) (hk : ∀ k, k < w.heap.size → (∃ ad, A = some ad ∧ k = ad.block ∧ 0 < n) → w'.heap[k]? = w.heap[k]?) : Sees w' e size A n xs := by
  refine ⟨h.1, h.2.1, fun ad ha => ?_⟩
  rcases Nat.eq_zero_or_pos n with h0 | h0
  · subst h0
    have hx := h.empty
    subst hx
    exact ⟨fun hh => absurd hh (by omega), fun j u hu => by simp at hu⟩
  · have hb := hk ad.block (h.lt h0 ha) ⟨ad, ha, rfl, h0⟩
    refine ⟨fun _ => ?_, fun j u hu => ?_⟩
    · rw [hb]; exact (h.2.2 ad ha).1 h0
    · rw [World.cell?_of_block (w := w) (by rw [addr_block]; exact hb)]
      exact (h.2.2 ad ha).2 j u hu

theorem Sees.below (h : Sees w e size A n xs) (hb : Below w.heap.size w w') : Sees w' e size A n xs := h.keep fun k hk _ => hb.block k hk
theorem Sees.drew (h : Sees w e size A n xs) : Sees w.drew e size A n xs := h
theorem Sees.drewN (h : Sees w e size A n xs) (k : Nat) : Sees (w.drewN k) e size A n xs := h
theorem Sees.alloc (h : Sees w e size A n xs) (o : Obj) : Sees (w.alloc o) e size A n xs := h.keep fun k hk _ => Below.heap_alloc w o k hk
theorem Sees.far (h : Sees w e size A n xs) {p : Addr} (hp : ∀ ad, A = some ad → 0 < n → ad.block ≠ p.block) (u : Value) : Sees (w.setCell p u) e size A n xs :=
  h.keep fun k _ hh => by
    obtain ⟨ad, ha, rfl, h0⟩ := hh
    exact Below.heap_setCell w p u _ (hp ad ha h0)
theorem Sees.grown (h : Sees w e size A n xs) {row : Option Nat} (hg : w.grownBy w' row) (hr : ∀ ad, A = some ad → 0 < n → row ≠ some ad.block) : Sees w' e size A n xs :=
  h.keep fun k hk hh => by
    obtain ⟨ad, ha, rfl, h0⟩ := hh
    exact hg.block _ hk (fun e => hr ad ha h0 e.symm)

theorem Sees.at_ {k : Nat} (h : Sees w e 1 A n xs) (hk : k < n) : ∃ ad u, A = some ad ∧ xs[k]? = some u ∧ w.cell? (ad.add k) = some u := by
  obtain ⟨ad, rfl⟩ := h.addr (by omega)
  have hl : k < xs.length := by have := h.1; omega
  exact ⟨ad, xs[k], rfl, List.getElem?_eq_getElem hl, (h.2.2 ad rfl).2 k _ (List.getElem?_eq_getElem hl)⟩

theorem Sees.take (h : Sees w e size A n xs) {k : Nat} (hk : k ≤ n) : Sees w e size A k (xs.take (k * size)) := by
  refine ⟨by rw [List.length_take, h.1]; exact Nat.min_eq_left (Nat.mul_le_mul_right _ hk), fun ha => by have := h.2.1 ha; omega, fun ad ha => ⟨fun h0 => (h.2.2 ad ha).1 (by omega), fun j u hu => ?_⟩⟩
  rw [List.getElem?_take] at hu
  split at hu
  · exact (h.2.2 ad ha).2 j u hu
  · cases hu

/-- 's[k:]': the model keeps the address where the cut leaves no capacity. -/
theorem Sees.drop (h : Sees w e size A n xs) {k cap : Nat} (hk : k ≤ n) (hc : n ≤ cap) :
    Sees w e size (if cap = k then A else A.map (·.add (k * size))) (n - k) (xs.drop (k * size)) := by
  refine ⟨by rw [List.length_drop, h.1, Nat.sub_mul], fun ha => ?_, fun ad ha => ?_⟩
  · have : A = none := by
      split at ha
      · exact ha
      · simpa using ha
    have := h.2.1 this
    omega
  · rcases Nat.eq_zero_or_pos (n - k) with h0 | h0
    · refine ⟨fun hh => absurd hh (by omega), fun j u hu => ?_⟩
      have hl : (xs.drop (k * size)).length = 0 := by rw [List.length_drop, h.1, ← Nat.sub_mul, h0]; simp
      rw [List.eq_nil_of_length_eq_zero hl] at hu
      simp at hu
    · rw [if_neg (by omega)] at ha
      obtain ⟨a0, rfl⟩ := h.addr (by omega)
      simp only [Option.map_some, Option.some.injEq] at ha
      subst ha
      refine ⟨fun _ => by rw [addr_block]; exact (h.2.2 a0 rfl).1 (by omega), fun j u hu => ?_⟩
      rw [addr_add]
      exact (h.2.2 a0 rfl).2 _ u (by rw [← hu, List.getElem?_drop])

theorem Sees.of_own {base c : Nat} {e : TypeId} (h : w.ownsRow base e size (.slice A n c) n xs) : Sees w (some e) size A n xs := by
  refine ⟨h.1, fun ha => ?_, fun ad ha => ?_⟩
  · rcases h.2 with ⟨_, h0⟩ | ⟨g, cap, cur, hv, _⟩
    · exact h0
    · subst ha; cases hv
  · subst ha
    rcases h.2 with ⟨hv, _⟩ | ⟨g, cap, cur, hv, _, hg, _⟩
    · cases hv
    · have hv' := hv
      injection hv' with hA _ _
      injection hA with hA
      subst hA
      exact ⟨fun _ => ⟨cur, e, (0, 0), hg, fun _ ht => Option.some.inj ht⟩, h.cells (g := g) rfl⟩
end

/-- A block that is known whole. -/
def Blk (w : World) (g : Nat) (t : TypeId) (cs : Array Value) : Prop := w.heap[g]? = some (.cells cs t (0, 0))

section
variable {w w' : World} {g : Nat} {t : TypeId} {cs : Array Value}
theorem Blk.lt (h : Blk w g t cs) : g < w.heap.size := (Array.getElem?_eq_some_iff.1 h).1
theorem Blk.cell (h : Blk w g t cs) (i : Nat) : w.cell? ⟨g, i, none⟩ = cs[i]? := cell_of_row w g i cs t (0, 0) h
theorem Blk.frozen (h : Blk w g t cs) (i : Nat) : w.frozen? ⟨g, i, none⟩ = false := by
  unfold Blk at h
  simp [World.frozen?, h]
theorem Blk.new (w : World) (t : TypeId) (cs : Array Value) : Blk (w.alloc (.cells cs t)) w.heap.size t cs := heap_alloc_new w _
theorem Blk.drew (h : Blk w g t cs) : Blk w.drew g t cs := h
theorem Blk.drewN (h : Blk w g t cs) (n : Nat) : Blk (w.drewN n) g t cs := h
theorem Blk.alloc (h : Blk w g t cs) (o : Obj) : Blk (w.alloc o) g t cs := (Below.heap_alloc w o g h.lt).trans h
theorem Blk.put (h : Blk w g t cs) (i : Nat) (u : Value) : Blk (w.setCell ⟨g, i, none⟩ u) g t (cs.setIfInBounds i u) := by
  unfold Blk at h ⊢
  simp [World.setCell, Array.getElem?_modify, h]
theorem Blk.far (h : Blk w g t cs) {p : Addr} (hp : g ≠ p.block) (u : Value) : Blk (w.setCell p u) g t cs := (Below.heap_setCell w p u g hp).trans h
theorem Blk.below (h : Blk w g t cs) (hb : Below w.heap.size w w') : Blk w' g t cs := (hb.block g h.lt).trans h
theorem Blk.grown (h : Blk w g t cs) {row : Option Nat} (hb : w.grownBy w' row) (hg : row ≠ some g) : Blk w' g t cs := (hb.block g h.lt (fun e => hg e.symm)).trans h
/-- Blocks of unlike element types are unlike blocks. -/
theorem Blk.apart {e : TypeId} {size n : Nat} {A : Option Addr} {xs : List Value} (h : Blk w g t cs) (hs : Sees w (some e) size A n xs) (hne : e ≠ t) : ∀ ad, A = some ad → 0 < n → ad.block ≠ g := by
  rintro ad ha h0 rfl
  obtain ⟨cur, t', fz, hc, ht'⟩ := (hs.2.2 ad ha).1 h0
  obtain rfl := ht' _ rfl
  unfold Blk at h
  rw [h] at hc
  injection hc with hc
  injection hc with _ ht _
  exact hne ht.symm
end
theorem grown_set (w : World) (g i : Nat) (u : Value) : w.grownBy (w.setCell ⟨g, i, none⟩ u) (some g) :=
  ⟨rfl, rfl, rfl, by simp [World.setCell], fun k _ hne => Below.heap_setCell w _ u k (fun e => hne (by simp [e]))⟩
theorem grown_trans {a b c : World} {r : Option Nat} (h : a.grownBy b r) (k : b.grownBy c r) : a.grownBy c r :=
  ⟨k.os.trans h.os, k.tape.trans h.tape, k.output.trans h.output, Nat.le_trans h.size k.size, fun i hi hne => (k.block i (Nat.lt_of_lt_of_le hi h.size) hne).trans (h.block i hi hne)⟩
theorem below_of_only {w w' : World} {g B : Nat} (h : w.grownBy w' (some g)) (hg : B ≤ g) (hB : B ≤ w.heap.size) : Below B w w' :=
  ⟨h.os, h.tape, h.output, h.size, fun k hk => h.block k (by omega) (fun e => by injection e; omega)⟩
end Go.Proofs.Ytmhmldpccccjbaa
