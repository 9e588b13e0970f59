/- How what comes in reads as a tree, by its type's shape. Condition: the type has integers, bools, strings, slices, structs alone. -/
import Derived.Test.YtmhmldpccccjbaaT14
import Derived.Test.YtmhmldpccccjbaaRead
import Derived.OpenShut
namespace Go.Proofs.Ytmhmldpccccjbaa
open Go.ChangeShapes Go.WideShapes Go.ChangeAt Go.RowKit
set_option linter.unusedVariables false
set_option linter.unusedSimpArgs false

/-- The shape of a cell. -/
inductive Sh where
  | int (k : IntKind)
  | bool
  | str
  | sl (el : List Sh)
mutual
def ShV : Sh → TV → Prop
  | .int k, t => ∃ n, t = .v (.int k n) ∧ (Lit.int k n).wf = true
  | .bool, t => ∃ b, t = .v (.bool b)
  | .str, t => ∃ s : ByteArray, t = .v (.string s) ∧ s.size ≤ maxLen
  | .sl el, t => ∃ els, t = .sl false els ∧ els.length ≤ maxLen ∧ ∀ c ∈ els, ShL el c
def ShL : List Sh → List TV → Prop
  | [], ts => ts = []
  | s :: ss, ts => ∃ t us, ts = t :: us ∧ ShV s t ∧ ShL ss us
end
theorem ShL.append : ∀ {a b : List Sh} {x y : List TV}, ShL a x → ShL b y → ShL (a ++ b) (x ++ y)
  | [], b, x, y, h, k => by simp only [ShL] at h; subst h; exact k
  | s :: a, b, x, y, h, k => by
    simp only [ShL] at h
    obtain ⟨t, us, rfl, h1, h2⟩ := h
    show ShL (s :: (a ++ b)) (t :: (us ++ y))
    simp only [ShL]
    exact ⟨t, _, rfl, h1, h2.append k⟩
theorem ShL.len : ∀ {a : List Sh} {x : List TV}, ShL a x → x.length = a.length
  | [], x, h => by simp only [ShL] at h; subst h; rfl
  | s :: a, x, h => by
    simp only [ShL] at h
    obtain ⟨t, us, rfl, _, h2⟩ := h
    simp [h2.len]
def shFs (f : TypeId → Option (List Sh)) (co : TypeId → Nat) : List Field → Nat → Option (List Sh × Nat)
  | [], acc => some ([], acc)
  | x :: xs, acc => if x.offset = acc then (f x.type).bind fun s => if s.length = co x.type then (shFs f co xs (acc + s.length)).map fun r => (s ++ r.1, r.2) else none else none
def repSh : Nat → List Sh → List Sh
  | 0, _ => []
  | n + 1, s => s ++ repSh n s
/-- A type's cells. -/
def shOf (P : Program) : Nat → TypeId → Option (List Sh)
  | 0, _ => none
  | n + 1, t => match P.underlying t with
    | some .bool => some [.bool]
    | some (.int k) => some [.int k]
    | some .string => some [.str]
    | some (.slice e) => (shOf P n e).bind fun s => if 0 < s.length ∧ s.length = P.cellsOf e then some [.sl s] else none
    | some (.struct fs) => (shFs (shOf P n) P.cellsOf fs.toList 0).bind fun r => if r.2 = P.cellsOf t then some r.1 else none
    | some (.array len e) => (shOf P n e).bind fun s => if s.length = P.cellsOf e ∧ len * s.length = P.cellsOf t then some (repSh len s) else none
    | _ => none

/-- The world as it is when a function is called. -/
def cIn (w : World) : Cx := ⟨w, fun _ => True, w.heap.size, fun _ => .nilFunc, fun _ => False, fun _ _ _ _ _ => False, fun _ _ => False⟩
theorem chunks_flat {α : Type} (k : Nat) (vs : List α) : ∀ m, ((List.range m).map fun i => (vs.drop (i * k)).take k).flatten = vs.take (m * k)
  | 0 => by simp
  | m + 1 => by
    rw [List.range_succ, List.map_append, List.flatten_append, chunks_flat k vs m]
    simp only [List.map_cons, List.map_nil, List.flatten_cons, List.flatten_nil, List.append_nil]
    rw [Nat.succ_mul, List.take_add]
theorem dnll_map {C : Cx} {T : Nat → List TV} {c : Nat → List Value} : ∀ l : List Nat, (∀ i ∈ l, DnL C (T i) (c i)) → DnLL C (l.map T) (l.map c)
  | [], _ => DnLL.nil
  | i :: l, h => DnLL.cons (h i (by simp)) (dnll_map l fun j hj => h j (by simp [hj]))
section
variable {H : Type} {enc : TypeId × Value → H} {P : Program} {w : World} {base : Nat} {held : Bool}
theorem fs_open {n m : Nat} {cs : List Value} (ih : ∀ t cs x shs, DataW.trod enc P w base (fun _ => true) held m t cs = some x → shOf P n t = some shs → ∃ tvs, DnL (cIn w) tvs cs ∧ ShL shs tvs) :
    ∀ (l : List Field) (acc : Nat) (sh : List Sh) (len : Nat), shFs (shOf P n) P.cellsOf l acc = some (sh, len) → (∀ f ∈ l, ∃ y, DataW.trod enc P w base (fun _ => true) held m f.type ((cs.drop f.offset).take (P.cellsOf f.type)) = some y) →
      acc ≤ len ∧ ∃ tvs, DnL (cIn w) tvs ((cs.drop acc).take (len - acc)) ∧ ShL sh tvs
  | [], acc, sh, len, h, _ => by
    simp only [shFs, Option.some.injEq, Prod.mk.injEq] at h
    obtain ⟨rfl, rfl⟩ := h
    exact ⟨Nat.le_refl _, [], by simp [DnL], by simp [ShL]⟩
  | f :: l, acc, sh, len, h, hf => by
    simp only [shFs] at h
    split at h
    case isFalse => cases h
    rename_i hoff
    cases hs : shOf P n f.type with
    | none => rw [hs] at h; cases h
    | some s =>
      rw [hs] at h
      simp only [Option.bind_some] at h
      split at h
      case isFalse => cases h
      rename_i hlen
      cases hr : shFs (shOf P n) P.cellsOf l (acc + s.length) with
      | none => rw [hr] at h; cases h
      | some r =>
        obtain ⟨sh', len'⟩ := r
        rw [hr] at h
        simp only [Option.map_some, Option.some.injEq, Prod.mk.injEq] at h
        obtain ⟨rfl, rfl⟩ := h
        obtain ⟨h1, tvs, h2, h3⟩ := fs_open ih l _ _ _ hr fun g hg => hf g (by simp [hg])
        obtain ⟨y, hy⟩ := hf f (by simp)
        obtain ⟨tv, h4, h5⟩ := ih _ _ _ _ hy hs
        refine ⟨by omega, tv ++ tvs, ?_, h5.append h3⟩
        rw [hoff, ← hlen] at h4
        have e : (cs.drop acc).take (len' - acc) = (cs.drop acc).take s.length ++ (cs.drop (acc + s.length)).take (len' - (acc + s.length)) := by
          rw [show len' - acc = s.length + (len' - (acc + s.length)) by omega, List.take_add, List.drop_drop]
        rw [e]
        exact h4.append h2
theorem arr_open {n m : Nat} {e : TypeId} {s : List Sh} {cs : List Value} (ih : ∀ t cs x shs, DataW.trod enc P w base (fun _ => true) held m t cs = some x → shOf P n t = some shs → ∃ tvs, DnL (cIn w) tvs cs ∧ ShL shs tvs) (hs : shOf P n e = some s) (k : Nat) :
    ∀ (len i0 : Nat), (∀ i, i0 ≤ i → i < i0 + len → ∃ y, DataW.trod enc P w base (fun _ => true) held m e ((cs.drop (i * k)).take k) = some y) → ∃ tvs, DnL (cIn w) tvs ((cs.drop (i0 * k)).take (len * k)) ∧ ShL (repSh len s) tvs
  | 0, i0, _ => ⟨[], by simp [DnL], by simp [repSh, ShL]⟩
  | len + 1, i0, hf => by
    obtain ⟨y, hy⟩ := hf i0 (Nat.le_refl _) (by omega)
    obtain ⟨tv, h4, h5⟩ := ih _ _ _ _ hy hs
    obtain ⟨tvs, h2, h3⟩ := arr_open ih hs k len (i0 + 1) fun i h1 h2 => hf i (by omega) (by omega)
    refine ⟨tv ++ tvs, ?_, h5.append h3⟩
    have e1 : (cs.drop (i0 * k)).take ((len + 1) * k) = (cs.drop (i0 * k)).take k ++ (cs.drop ((i0 + 1) * k)).take (len * k) := by
      rw [Nat.succ_mul len, Nat.add_comm, List.take_add, List.drop_drop, Nat.succ_mul]
    rw [e1]
    exact h4.append h2
theorem sh_open : ∀ (n fuel : Nat) (t : TypeId) (cs : List Value) (x : DataW H × List MemPlace) (shs : List Sh), DataW.trod enc P w base (fun _ => true) held fuel t cs = some x → shOf P n t = some shs → ∃ tvs, DnL (cIn w) tvs cs ∧ ShL shs tvs
  | 0, _, _, _, _, _, _, h => by cases h
  | n + 1, fuel, t, cs, x, shs, hf, h => by
    unfold shOf at h
    split at h
    · rename_i hu
      obtain ⟨b, rfl, _⟩ := DataW.trod_bool hu hf
      injection h with h
      subst h
      exact ⟨[.v (.bool b)], DnL.cons (by simp [Dn]) .nil, by simp only [ShL, ShV]; exact ⟨_, _, rfl, ⟨b, rfl⟩, rfl⟩⟩
    · rename_i k hu
      obtain ⟨m, rfl, _, hw⟩ := DataW.trod_int hu hf
      injection h with h
      subst h
      exact ⟨[.v (.int k m)], DnL.cons (by simp [Dn]) .nil, by simp only [ShL, ShV]; exact ⟨_, _, rfl, ⟨m, rfl, hw⟩, rfl⟩⟩
    · rename_i hu
      obtain ⟨s, rfl, _, hs⟩ := DataW.trod_string hu hf
      injection h with h
      subst h
      exact ⟨[.v (.string s)], DnL.cons (by simp [Dn]) .nil, by simp only [ShL, ShV]; exact ⟨_, _, rfl, ⟨s, rfl, hs⟩, rfl⟩⟩
    · rename_i e hu
      cases hs : shOf P n e with
      | none => rw [hs] at h; cases h
      | some s =>
        rw [hs] at h
        simp only [Option.bind_some] at h
        split at h
        case isFalse => cases h
        rename_i hk
        injection h with h
        subst h
        obtain ⟨A, m, cap, vs, rfl, h1, h2, h3, h4⟩ := open_elems hu hk.2.symm hk.1 hf
        have hex : ∀ i, ∃ tv, i < m → DnL (cIn w) tv ((vs.drop (i * s.length)).take s.length) ∧ ShL s tv := fun i => by
          by_cases hi : i < m
          · obtain ⟨f, y, hy⟩ := h4 i hi
            obtain ⟨tv, h5, h6⟩ := sh_open n f e _ y s hy hs
            exact ⟨tv, fun _ => ⟨h5, h6⟩⟩
          · exact ⟨[], fun h => absurd h hi⟩
        obtain ⟨T, hT⟩ := Classical.axiomOfChoice hex
        have hll := dnll_map (C := cIn w) (T := T) (c := fun i => (vs.drop (i * s.length)).take s.length) (List.range m) fun i hi => (hT i (List.mem_range.1 hi)).1
        have hfl : ((List.range m).map fun i => (vs.drop (i * s.length)).take s.length).flatten = vs := by
          rw [chunks_flat, List.take_of_length_le (by rw [h3.1]; exact Nat.le_refl _)]
        refine ⟨[.sl false ((List.range m).map T)], DnL.cons ?_ .nil, ?_⟩
        · simp only [Dn]
          refine ⟨A, cap, _, s.length, by simp, by simpa using h1, h2, fun ha => by rw [h3.2.1 ha]; rfl, fun c hc => ?_, hll, fun ad ha => ⟨fun hne => ⟨trivial, ?_, fun hb => by cases hb⟩, fun j x hx => ?_⟩⟩
          · obtain ⟨i, hi, rfl⟩ := List.mem_map.1 hc
            have hi' := List.mem_range.1 hi
            have := h3.1
            rw [List.length_take, List.length_drop, this, Nat.min_eq_left]
            have h7 : (i + 1) * s.length ≤ m * s.length := Nat.mul_le_mul_right _ (by omega)
            rw [Nat.succ_mul] at h7
            omega
          · refine h3.lt ?_ ha
            rcases Nat.eq_zero_or_pos m with hm | hm
            · subst hm; simp at hne
            · exact hm
          · rw [hfl] at hx
            exact (h3.2.2 ad ha).2 j x hx
        · simp only [ShL, ShV]
          refine ⟨_, _, rfl, ⟨_, rfl, by simpa using Nat.le_trans h1 h2, fun c hc => ?_⟩, rfl⟩
          obtain ⟨i, hi, rfl⟩ := List.mem_map.1 hc
          exact (hT i (List.mem_range.1 hi)).2
    · rename_i fs hu
      cases hs : shFs (shOf P n) P.cellsOf fs.toList 0 with
      | none => rw [hs] at h; cases h
      | some r =>
        obtain ⟨sh, len⟩ := r
        rw [hs] at h
        simp only [Option.bind_some] at h
        split at h
        case isFalse => cases h
        rename_i hlen
        injection h with h
        subst h
        obtain ⟨xs, m, rfl, _, h1, h2, h3⟩ := DataW.trod_struct hu hf
        obtain ⟨_, tvs, h4, h5⟩ := fs_open (cs := cs) (fun t cs x shs h => sh_open n m t cs x shs h) fs.toList 0 sh len hs fun f hf => by
          obtain ⟨i, hi, rfl⟩ := List.mem_iff_getElem.1 hf
          have hi' : i < fs.size := by simpa using hi
          have h6 := h3 i _ (Array.getElem?_eq_getElem hi')
          rw [List.getElem?_eq_getElem (by omega)] at h6
          exact ⟨_, by simpa using h6⟩
        refine ⟨tvs, ?_, h5⟩
        rw [List.drop_zero, Nat.sub_zero, List.take_of_length_le (by omega)] at h4
        exact h4
    · rename_i len e hu
      cases hs : shOf P n e with
      | none => rw [hs] at h; cases h
      | some s =>
        rw [hs] at h
        simp only [Option.bind_some] at h
        split at h
        case isFalse => cases h
        rename_i hk
        injection h with h
        subst h
        obtain ⟨xs, m, rfl, _, h1, h2, h3⟩ := DataW.trod_array hu hf
        obtain ⟨tvs, h4, h5⟩ := arr_open (cs := cs) (fun t cs x shs h => sh_open n m t cs x shs h) hs s.length len 0 fun i _ hi => by
          have h6 := h3 i (by omega)
          rw [List.getElem?_eq_getElem (by omega)] at h6
          exact ⟨_, by simpa [hk.1] using h6⟩
        refine ⟨tvs, ?_, h5⟩
        rw [Nat.zero_mul, List.drop_zero, List.take_of_length_le (by omega)] at h4
        exact h4
    · cases h
theorem open_sl {b0 : Nat} {n : Nat} {t e : TypeId} {sh : List Sh} {v : Value} {d : DataW H} {p : List MemPlace} (ht : P.underlying t = some (.slice e)) (hsh : shOf P n t = some [.sl sh]) (hv : Value.okWide P w .any b0 t v) (h : DataW.Trod enc P w base (fun _ => true) held t v d p) :
    ∃ els, Dn (cIn w) (.sl false els) v ∧ els.length ≤ maxLen ∧ ∀ c ∈ els, ShL sh c := by
  obtain ⟨a0, len0, cap0, rfl⟩ := okWide_slice ht hv
  obtain ⟨fuel, hf⟩ := h
  obtain ⟨tvs, h1, h2⟩ := sh_open n fuel t _ _ _ hf hsh
  simp only [ShL, ShV] at h2
  obtain ⟨t1, us, rfl, ⟨els, rfl, h3, h4⟩, rfl⟩ := h2
  simp only [Value.cells, DnL] at h1
  obtain ⟨u, us', h5, h6, _⟩ := h1
  simp at h5
  obtain ⟨rfl, _⟩ := h5
  exact ⟨els, h6, h3, h4⟩
end
/-- A row of trees as the image of a list. -/
theorem image_of {α : Type} {f : α → List TV} {Q : α → Prop} : ∀ {els : List (List TV)}, (∀ c ∈ els, ∃ y, c = f y ∧ Q y) → ∃ l : List α, els = l.map f ∧ l.length = els.length ∧ ∀ y ∈ l, Q y
  | [], _ => ⟨[], rfl, rfl, by simp⟩
  | c :: els, h => by
    obtain ⟨y, rfl, hy⟩ := h c (by simp)
    obtain ⟨l, rfl, hl, h2⟩ := image_of (els := els) fun c hc => h c (by simp [hc])
    exact ⟨y :: l, rfl, by simp, fun z hz => by rcases List.mem_cons.1 hz with rfl | hz; exact hy; exact h2 z hz⟩
theorem sh_int {k : IntKind} {t : TV} (h : ShV (.int k) t) : ∃ n, t = .v (.int k n) ∧ (Lit.int k n).wf = true := by simp only [ShV] at h; exact h
end Go.Proofs.Ytmhmldpccccjbaa
