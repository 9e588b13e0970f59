/- 'm[k] += x' of a map that the call has made, in a region that draws its order. No condition. -/
import Derived.Test.YtmhmldpccccjbaaT25
import Derived.Maps.Range
import Derived.WideKeyEntry
import Derived.Test.YtmhmldpccccjbaaPar
namespace Go.Proofs.Ytmhmldpccccjbaa
open Go.RowKit
open Go.WideElems (Fit rg)
open Go.ChangeMaps (setBlock)
set_option linter.unusedVariables false
set_option linter.unusedSimpArgs false

/-- A map whose entries are told. -/
def mapEX (P : Program) (k e : TypeId) (n g : Nat) (es : Array MapEntry) (clock : Nat) (D : DataW Unit) : Ext where
  p v j := v = .map (some j)
  Q v w := v = .map (some g) ∧ w.heap[g]? = some (.map es clock) ∧ Fit P k (plainElem (H := Unit) P e) es clock ∧ es.size ≤ n ∧ D = .map ((es.toList.map (rg P k (plainElem (H := Unit) P e))).foldr DataW.insert [])
  st v w w' hQ hb := by
    obtain ⟨e1, h1, h2⟩ := hQ
    exact ⟨e1, (hb g e1).trans h1, h2⟩
/-- An iterator's block; it bears a map's name here, that of its own block. -/
def iterX (r g since : Nat) (seen : Array Nat) (c0 : Nat) : Ext where
  p v j := v = .map (some j)
  Q v w := v = .map (some r) ∧ w.heap[r]? = some (.mapIter (some g) since seen c0)
  st v w w' hQ hb := by
    obtain ⟨e1, h1⟩ := hQ
    exact ⟨e1, (hb r e1).trans h1⟩
theorem grown_self (w : World) (o : Option Nat) : w.grownBy w o := ⟨rfl, rfl, rfl, Nat.le_refl _, fun _ _ _ => rfl⟩
section
variable {P : Program} {B : Nat} {w0 : World} {gh : List Value} {Q : Exit → St → Prop} {σ : St} {ops : Array Oper} {o : Oper} {rest : List Oper}
/-- What is told of blocks that are taken together changes. -/
theorem RelS.turnX {ρ : Nat → Value} {a : Act} {w w' : World} (hr : RelS B w0 gh ρ σ a w) {i g : Nat} {x x' : Ext} (hi : hf σ.h i = .ext x) (hg : x.p (ρ i) g) (hw : w.grownBy w' (some g)) (hp : ∀ k, x'.p (ρ i) k → x.p (ρ i) k) (hz : x.z = false) (hq : x'.Q (ρ i) w') :
    RelS B w0 gh ρ ⟨σ.s, σ.h.set i (.ext x'), σ.g⟩ a w' := by
  have hil : i < σ.h.length := hf_lt hi (by simp)
  have KK : Keeps (cxOf B ρ (hf σ.h) w) (cxOf B ρ (updf (hf σ.h) i (.ext x')) w') := .putX hi hg hw hp hz
  refine ⟨?_, ?_, ?_, hr.defers⟩
  · simp only [hf_set hil]; exact DnL.keep KK _ _ hr.slots
  · simp only [hf_set hil]; exact DnL.keep KK _ _ hr.ghost
  · simp only [hf_set hil]; exact hr.rel.putX hi hg hw hp hz hq
/-- A map is what it is without its entries being told. -/
theorem SLe.mapE {i k e n g : Nat} {es : Array MapEntry} {clock : Nat} {D : DataW Unit} (hi : hf σ.h i = .ext (mapEX P k e n g es clock D)) : SLe B w0 gh σ ⟨σ.s, σ.h.set i (.ext (mapX P k e n D)), σ.g⟩ := fun ρ a w hr => by
  obtain ⟨h1, h2, h3, h4, h5⟩ := (hr.rel.ext i _ hi).q
  exact ⟨ρ, hr.turnX hi (g := g) h1 (grown_self _ _) (fun k hk => hk) rfl ⟨g, h1, es, clock, h2, h3, h4, h5⟩⟩
/-- 'range m'. -/
theorem TL.range {t k e : TypeId} {m : Operand} {i n : Nat} {D : DataW Unit} (hg : o.guard = none) (ho : o.op = .range t m) (hm : tev σ.s m = .row i) (hi : hf σ.h i = .ext (mapX P k e n D)) (ht : P.underlying t = some (.map k e))
    (h : ∀ g es clock r, Fit P k (plainElem (H := Unit) P e) es clock → es.size ≤ n → D = .map ((es.toList.map (rg P k (plainElem (H := Unit) P e))).foldr DataW.insert []) →
      TL P B w0 gh ops rest ⟨match o.dst with | some d => σ.s.set d (.v (.pointer (some ⟨r, 0, none⟩))) | none => σ.s, σ.h.set i (.ext (mapEX P k e n g es clock D)) ++ [.ext (iterX r g clock #[] clock)], σ.g⟩ Q) : TL P B w0 gh ops (o :: rest) σ Q := fun ρ a w hr => by
  have h1 := tev_dn hr.slots m
  rw [hm] at h1
  simp only [Dn] at h1
  obtain ⟨g, e1, es, clock, hb, F, hs, hD⟩ := (hr.rel.ext i _ hi).q
  have h4 : a.eval m = .map (some g) := h1.2.trans e1
  have hr2 := hr.turnX (x' := mapEX P k e n g es clock D) hi (g := g) e1 (grown_self _ _) (fun k hk => hk) rfl ⟨e1, hb, F, hs, hD⟩
  have hrun := run_range_map w t k e g es clock ht hb
  have hrun' : (execOp a.eval o).run P w = .ok (.value (.pointer (some ⟨w.heap.size, 0, none⟩))) (w.alloc (.mapIter (some g) clock #[] clock)) := by simp [execOp, ho, h4, hrun]
  refine wpList_plain hg fun K' hK => ?_
  unfold Oper.wp
  rw [hrun']
  have hbel : Below w.heap.size w (w.alloc (.mapIter (some g) clock #[] clock)) := (Below.refl _ _).alloc (Nat.le_refl _) _
  have hsz : (w.alloc (.mapIter (some g) clock #[] clock)).heap.size = w.heap.size + 1 := by show (w.heap.push _).size = _; simp
  have hp : ∀ j, (iterX w.heap.size g clock #[] clock).p (.map (some w.heap.size)) j → w.heap.size ≤ j ∧ j < (w.alloc (.mapIter (some g) clock #[] clock)).heap.size := fun j hj => by
    have hj' : Value.map (some w.heap.size) = .map (some j) := hj
    injection hj' with hj'
    injection hj' with hj'
    subst hj'
    omega
  have hnone : hf (σ.h.set i (.ext (mapEX P k e n g es clock D))) (σ.h.set i (.ext (mapEX P k e n g es clock D))).length = .none := hf_ge (Nat.le_refl _)
  have KK : Keeps (cxOf B ρ (hf (σ.h.set i (.ext (mapEX P k e n g es clock D)))) w) _ := .addX (x := iterX w.heap.size g clock #[] clock) (r := .map (some w.heap.size)) hnone hbel rfl hp
  have hat : (w.alloc (.mapIter (some g) clock #[] clock)).heap[w.heap.size]? = some (.mapIter (some g) clock #[] clock) := heap_alloc_new w _
  refine hK _ _ (h g es clock w.heap.size F hs hD (updf ρ (σ.h.set i (.ext (mapEX P k e n g es clock D))).length (.map (some w.heap.size))) _ _ ⟨?_, ?_, ?_, by rw [put_defers]; exact hr.defers⟩)
  · simp only [hf_app]
    exact put_dn (DnL.keep KK _ _ hr2.slots) (by simp [Dn])
  · simp only [hf_app]
    exact DnL.keep KK _ _ hr2.ghost
  · simp only [hf_app]
    exact hr2.rel.addX hnone hbel rfl rfl hp ⟨rfl, hat⟩
/-- A step of the iterator. -/
theorem TL.next {t k e : TypeId} {it : Operand} {i j n g r since c0 clock : Nat} {seen : Array Nat} {es : Array MapEntry} {D : DataW Unit} (hg : o.guard = none) (ho : o.op = .next it false) (hit : tev σ.s it = .v (.pointer (some ⟨r, 0, none⟩))) (hi : hf σ.h i = .ext (mapEX P k e n g es clock D)) (hj : hf σ.h j = .ext (iterX r g since seen c0))
    (hold : ∀ x ∈ es.toList, x.born < since) (hsc : since ≤ c0)
    (h0 : (_root_.Go.leftOf es seen).size = 0 → TL P B w0 gh ops rest ⟨match o.dst with | some d => σ.s.set d (.tup [.v (.bool false)]) | none => σ.s, σ.h, σ.g⟩ Q)
    (h1 : ∀ x ∈ (_root_.Go.leftOf es seen).toList, TL P B w0 gh ops rest ⟨match o.dst with | some d => σ.s.set d (.tup [.v (.bool true), .v x.key, .v x.val]) | none => σ.s, σ.h.set j (.ext (iterX r g since (seen.push x.born) clock)), σ.g⟩ Q) : TL P B w0 gh ops (o :: rest) σ Q := fun ρ a w hr => by
  have e1 := tev_dn hr.slots it
  rw [hit] at e1
  simp only [Dn] at e1
  obtain ⟨f1, f2, f3, f4, f5⟩ := (hr.rel.ext i _ hi).q
  obtain ⟨q1, q2⟩ := (hr.rel.ext j _ hj).q
  refine wpList_plain hg fun K' hK => ?_
  unfold Oper.wp
  rcases run_next_at (P := P) w o.type r g since c0 seen es clock q2 f2 hold hsc with ⟨hl, hrun⟩ | ⟨x, hx, w1, hal, hrun⟩
  · have hrun' : (execOp a.eval o).run P w = .ok (.value (.tuple #[.bool false])) w := by simp [execOp, ho, e1, hrun]
    rw [hrun']
    refine hK _ _ (h0 hl ρ _ _ ⟨put_dn hr.slots (by simp [Dn, DnL]), hr.ghost, hr.rel, by rw [put_defers]; exact hr.defers⟩)
  · have hrun' : (execOp a.eval o).run P w = .ok (.value (.tuple #[.bool true, x.key, x.val])) (setBlock w1 r (.mapIter (some g) since (seen.push x.born) clock)) := by simp [execOp, ho, e1, hrun]
    rw [hrun']
    have hr1 : w1.heap[r]? = some (.mapIter (some g) since seen c0) := by rcases hal with rfl | rfl <;> exact q2
    have hset := MapKept.heap_set (o' := .mapIter (some g) since (seen.push x.born) clock) hr1
    have hgw : w.grownBy (setBlock w1 r (.mapIter (some g) since (seen.push x.born) clock)) (some r) := by
      rcases hal with rfl | rfl <;> exact ⟨rfl, rfl, rfl, by simp [setBlock], fun i _ hi => hset.2 i (fun e1 => hi (by rw [e1]))⟩
    have hr2 := hr.turnX (x' := iterX r g since (seen.push x.born) clock) hj (g := r) q1 hgw (fun k hk => hk) rfl ⟨q1, hset.1⟩
    refine hK _ _ (h1 x hx ρ _ _ ⟨put_dn hr2.slots (by simp [Dn, DnL]), hr2.ghost, hr2.rel, by rw [put_defers]; exact hr.defers⟩)
/-- The entry at which the iterator stands. -/
theorem S_entry {h : List LB} {s : List TV} {k e : TypeId} {it : Operand} {i j n g r since clock : Nat} {seen : Array Nat} {es : Array MapEntry} {D : DataW Unit} {x : MapEntry} (ho : o.op = .entry it) (hit : tev s it = .v (.pointer (some ⟨r, 0, none⟩))) (hi : hf h i = .ext (mapEX P k e n g es clock D)) (hj : hf h j = .ext (iterX r g since (seen.push x.born) clock)) (hx : x ∈ es.toList)
    {tk : TV} (hpi : ∀ C : Cx, Dn C tk x.key) : ∀ (hn : (es.toList.map (·.born)).Nodup), TL P B w0 gh ops rest ⟨match o.dst with | some d => s.set d (.tup [tk, .v x.val]) | none => s, h, σ.g⟩ Q → o.guard = none → TL P B w0 gh ops (o :: rest) ⟨s, h, σ.g⟩ Q := fun hn hT hg ρ a w hr => by
  have e1 := tev_dn hr.slots it
  rw [hit] at e1
  simp only [Dn] at e1
  obtain ⟨f1, f2, f3, f4, f5⟩ := (hr.rel.ext i _ hi).q
  obtain ⟨q1, q2⟩ := (hr.rel.ext j _ hj).q
  refine wpList_plain hg fun K' hK => ?_
  unfold Oper.wp
  have hrun := run_entry_at (P := P) w r g since seen es clock x q2 f2 hx hn
  have hrun' : (execOp a.eval o).run P w = .ok (.value (.tuple #[x.key, x.val])) w := by simp [execOp, ho, e1, hrun]
  rw [hrun']
  exact hK _ _ (hT ρ _ _ ⟨put_dn hr.slots (by simp only [Dn, DnL]; exact ⟨_, rfl, _, _, rfl, hpi _, _, _, rfl, rfl, rfl⟩), hr.ghost, hr.rel, by rw [put_defers]; exact hr.defers⟩)
end
end Go.Proofs.Ytmhmldpccccjbaa

namespace Go.Proofs.Ytmhmldpccccjbaa
open Go.RowKit
open Go.WideElems (Fit rg rd pl)
open Go.ChangeMaps (setBlock modify_eq_set)
open Go.WideMaps (KeyLaw)
open Go.MapKept
set_option linter.unusedVariables false
set_option linter.unusedSimpArgs false
section
variable {H : Type} {P : Program} {w : World} {t k e : TypeId} {R : Value → Option (DataW H × List MemPlace)} {b : Nat} {es : Array MapEntry} {clock : Nat}
/-- The entry of 'm[k] op= x': what is there behind it. -/
theorem entry_at (K : KeyLaw P k) (ht : P.underlying t = some (.map k e)) {z : Value} (hz : ∀ u : World, (zeroValue e).run P u = .ok z u) (hb : w.heap[b]? = some (.map es clock)) (F : Fit P k R es clock) {zd : DataW H} (hzr : R z = some (zd, [])) (hroom : es.size < maxLen)
    {key : Value} {kl : Lit} (hkey : keyOf P k key = some kl) :
    ∃ (v0 : Value) (st : Nat) (es1 : Array MapEntry) (clock1 : Nat), (∀ w' : World, w'.heap[b]? = some (.map es clock) → (Instr.mapEntry t (.map (some b)) key).run P w' = .ok (.tuple #[v0, goInt st]) (setBlock w' b (.map es1 clock1))) ∧ Fit P k R es1 clock1 ∧
      ((∃ e0 ∈ es.toList, e0.key = key ∧ v0 = e0.val) ∨ ((∀ x ∈ es.toList, x.key ≠ key) ∧ v0 = z)) ∧ (∃ e0 ∈ es1.toList, e0.key = key ∧ e0.val = v0 ∧ e0.born = st) ∧
      ∀ (w2 : World) (val : Value), w2.heap[b]? = some (.map es1 clock1) → ∃ es' clock', (Instr.entryStore t (.map (some b)) (goInt st) val).run P w2 = .ok () (setBlock w2 b (.map es' clock')) ∧
        (Instr.mapUpdate t (.map (some b)) key val).run P w = .ok () (setBlock w b (.map es' clock')) := by
  obtain ⟨v0, st, es1, clock1, h1, h2, h3⟩ := Go.WideElems.entry_then_store K ht hz hb F hkey
  have hst : ∀ {a a' : Value} {s s' : Nat} {w1 w2 : World}, (Result.ok (Value.tuple #[a, goInt s]) w1 : Result Value) = .ok (.tuple #[a', goInt s']) w2 → a = a' ∧ s = s' := fun h => by
    injection h with h _
    injection h with h
    have := congrArg Array.toList h
    simp [goInt] at this
    exact ⟨this.1, by omega⟩
  refine ⟨v0, st, es1, clock1, ?_⟩
  rcases K.find w hkey es.toList F.keys with ⟨f1, f2⟩ | ⟨j, e0, f1, f2, f3⟩
  · have hrun : (Instr.mapEntry t (.map (some b)) key).run P w = .ok (.tuple #[z, goInt clock]) (setBlock w b (.map (es.push ⟨key, z, clock⟩) (clock + 1))) := by
      simp [Instr.mapEntry, run_underlying ht, MapKept.run_getObj_map hb, K.check w false hkey, f1, hz, MapKept.run_setObj_map _ hb, Result.andThen, setBlock]
    rw [hrun] at h1
    have hst' := (hst h1).2
    injection h1 with h4 h5
    have hv : v0 = z := by
      injection h4 with h4
      have := congrArg Array.toList h4
      simp at this
      exact this.1.symm
    have hes : es1 = es.push ⟨key, z, clock⟩ ∧ clock1 = clock + 1 := by
      have h6 := (MapKept.heap_set (o' := .map es1 clock1) hb).1
      have h7 := (MapKept.heap_set (o' := .map (es.push ⟨key, z, clock⟩) (clock + 1)) hb).1
      have h8 := congrArg (fun u : World => u.heap[b]?) h5
      simp only [setBlock] at h8
      rw [h6, h7] at h8
      injection h8 with h8
      injection h8 with h8 h9
      exact ⟨h8.symm, h9.symm⟩
    obtain ⟨es', clock', g1, g2, _⟩ := Maps.fit_store (.of_law K) ht hb F hroom (R' := R) (fun _ _ _ _ h => h) hkey hzr
    have hupd : (Instr.mapUpdate t (.map (some b)) key z).run P w = .ok () (setBlock w b (.map (es.push ⟨key, z, clock⟩) (clock + 1))) := by
      simp [Instr.mapUpdate, run_underlying ht, MapKept.run_getObj_map hb, K.check w false hkey, f1, MapKept.run_setObj_map _ hb, Result.andThen, setBlock]
    rw [hupd] at g1
    injection g1 with _ g1
    have hes2 : es' = es.push ⟨key, z, clock⟩ ∧ clock' = clock + 1 := by
      have h6 := (MapKept.heap_set (o' := .map es' clock') hb).1
      have h7 := (MapKept.heap_set (o' := .map (es.push ⟨key, z, clock⟩) (clock + 1)) hb).1
      have h8 := congrArg (fun u : World => u.heap[b]?) g1
      simp only [setBlock] at h8
      rw [h6, h7] at h8
      injection h8 with h8
      injection h8 with h8 h9
      exact ⟨h8.symm, h9.symm⟩
    refine ⟨fun w' hb' => ?_, ?_, h2, ⟨⟨key, z, clock⟩, by rw [hes.1]; simp, rfl, hv.symm, hst'⟩, h3⟩
    · rw [hv, ← hst', hes.1, hes.2]
      rcases K.find w' hkey es.toList F.keys with ⟨f1, f2⟩ | ⟨j, e0, f1, f3, f4⟩
      · simp [Instr.mapEntry, run_underlying ht, MapKept.run_getObj_map hb', K.check w' false hkey, f1, hz, MapKept.run_setObj_map _ hb', Result.andThen, setBlock]
      · exact absurd f4 (f2 e0 (List.mem_of_getElem? f3))
    · rw [hes.1, hes.2, ← hes2.1, ← hes2.2]
      exact g2
  · have hj : es[j]? = some e0 := by simpa using f2
    have hsame : es.modify j (fun e => { e with key := key }) = es := by
      apply Array.ext'
      rw [Array.toList_modify, modify_eq_set _ _ _ _ f2]
      have : ({ e0 with key := key } : MapEntry) = e0 := by rw [← f3]
      rw [this]
      exact Go.WideElems.set_self _ _ _ f2
    have hrun : (Instr.mapEntry t (.map (some b)) key).run P w = .ok (.tuple #[e0.val, goInt e0.born]) (setBlock w b (.map es clock)) := by
      simp [Instr.mapEntry, run_underlying ht, MapKept.run_getObj_map hb, K.check w false hkey, f1, hj, f3, K.stays w hkey, hsame, MapKept.run_setObj_map _ hb, Result.andThen, setBlock]
    rw [hrun] at h1
    have hst' := (hst h1).2
    injection h1 with h4 h5
    have hv : v0 = e0.val := by
      injection h4 with h4
      have := congrArg Array.toList h4
      simp at this
      exact this.1.symm
    have hes : es1 = es ∧ clock1 = clock := by
      have h6 := (MapKept.heap_set (o' := .map es1 clock1) hb).1
      have h7 := (MapKept.heap_set (o' := .map es clock) hb).1
      have h8 := congrArg (fun u : World => u.heap[b]?) h5
      simp only [setBlock] at h8
      rw [h6, h7] at h8
      injection h8 with h8
      injection h8 with h8 h9
      exact ⟨h8.symm, h9.symm⟩
    refine ⟨fun w' hb' => ?_, by rw [hes.1, hes.2]; exact F, h2, ⟨e0, by rw [hes.1]; exact List.mem_of_getElem? f2, f3, hv.symm, hst'⟩, h3⟩
    rw [hv, ← hst', hes.1, hes.2]
    rcases K.find w' hkey es.toList F.keys with ⟨f1', f2'⟩ | ⟨j', e0', f1', f2', f3'⟩
    · exact absurd f3 (f2' e0 (List.mem_of_getElem? f2))
    · have hee : e0' = e0 := Go.entry_eq_of_key ((stamped_iff es clock).1 F.stamped).2.2 (List.mem_of_getElem? f2') (List.mem_of_getElem? f2) (f3'.trans f3.symm)
      subst hee
      have hj' : es[j']? = some e0' := by simpa using f2'
      have hsame' : es.modify j' (fun e => { e with key := key }) = es := by
        apply Array.ext'
        rw [Array.toList_modify, modify_eq_set _ _ _ _ f2']
        have : ({ e0' with key := key } : MapEntry) = e0' := by rw [← f3]
        rw [this]
        exact Go.WideElems.set_self _ _ _ f2'
      simp [Instr.mapEntry, run_underlying ht, MapKept.run_getObj_map hb', K.check w' false hkey, f1', hj', f3, K.stays w' hkey, hsame', MapKept.run_setObj_map _ hb', Result.andThen, setBlock]
/-- Once more behind it: the same. -/
theorem entry_again (K : KeyLaw P k) (ht : P.underlying t = some (.map k e)) (hb : w.heap[b]? = some (.map es clock)) (F : Fit P k R es clock) {key v0 : Value} {st : Nat} {kl : Lit} (hkey : keyOf P k key = some kl) (hx : ∃ e0 ∈ es.toList, e0.key = key ∧ e0.val = v0 ∧ e0.born = st) :
    (Instr.mapEntry t (.map (some b)) key).run P w = .ok (.tuple #[v0, goInt st]) (setBlock w b (.map es clock)) := by
  obtain ⟨e0, h1, h2, rfl, rfl⟩ := hx
  rcases K.find w hkey es.toList F.keys with ⟨f1', f2'⟩ | ⟨j', e0', f1', f2', f3'⟩
  · exact absurd h2 (f2' e0 h1)
  · have hee : e0' = e0 := Go.entry_eq_of_key ((stamped_iff es clock).1 F.stamped).2.2 (List.mem_of_getElem? f2') h1 (f3'.trans h2.symm)
    subst hee
    have hj' : es[j']? = some e0' := by simpa using f2'
    have hsame' : es.modify j' (fun e => { e with key := key }) = es := by
      apply Array.ext'
      rw [Array.toList_modify, modify_eq_set _ _ _ _ f2']
      have : ({ e0' with key := key } : MapEntry) = e0' := by rw [← h2]
      rw [this]
      exact Go.WideElems.set_self _ _ _ f2'
    simp [Instr.mapEntry, run_underlying ht, MapKept.run_getObj_map hb, K.check w false hkey, f1', hj', h2, K.stays w hkey, hsame', MapKept.run_setObj_map _ hb, Result.andThen, setBlock]
/-- What a look-up yields where the key is there. -/
theorem look_in (K : KeyLaw P k) (ht : P.underlying t = some (.map k e)) {z : Value} (hz : ∀ u : World, (zeroValue e).run P u = .ok z u) (hb : w.heap[b]? = some (.map es clock)) (F : Fit P k R es clock) {key v0 : Value} {kl : Lit} (hkey : keyOf P k key = some kl) (hx : ∃ e0 ∈ es.toList, e0.key = key ∧ e0.val = v0) :
    (Instr.lookup t (.map (some b)) key false).run P w = .ok v0 w := by
  obtain ⟨e0, h1, h2, rfl⟩ := hx
  rcases Maps.fit_look false (.of_law K) ht (hz w) hb F hkey with ⟨_, h3, _⟩ | ⟨e1, y, h3, h4, h5, _⟩
  · exact absurd h2 (h3 e0 h1)
  · have : e1 = e0 := Go.entry_eq_of_key ((stamped_iff es clock).1 F.stamped).2.2 h3 h1 (h4.trans h2.symm)
    subst this
    exact h5
/-- Where it is not. -/
theorem look_out (K : KeyLaw P k) (ht : P.underlying t = some (.map k e)) {z : Value} (hz : ∀ u : World, (zeroValue e).run P u = .ok z u) (hb : w.heap[b]? = some (.map es clock)) (F : Fit P k R es clock) {key : Value} {kl : Lit} (hkey : keyOf P k key = some kl) (hx : ∀ x ∈ es.toList, x.key ≠ key) :
    (Instr.lookup t (.map (some b)) key false).run P w = .ok z w := by
  rcases Maps.fit_look false (.of_law K) ht (hz w) hb F hkey with ⟨h3, _, _⟩ | ⟨e1, y, h3, h4, _⟩
  · exact h3
  · exact absurd h4 (hx e1 h3)
end
end Go.Proofs.Ytmhmldpccccjbaa

namespace Go.Proofs.Ytmhmldpccccjbaa
open Go.RowKit

section
variable {R : World → World → Prop} {P : Program} {ops : Array Oper} {Q : Exit → Act → World → Prop}

/-- What a step of a region is asked: whatever the slots of those that it does not wait for hold. -/
def StepParR (R : World → World → Prop) (P : Program) (ops : Array Oper) (Q : Exit → Act → World → Prop) (a0 : Act) (w0 : World) (ds : List Tmp) (al : Nat → Bool) (Φ : Nat → Value → World → Prop) (i : Nat) (o : Oper) : Prop :=
  ∀ (x : Nat → Value) (w : World), R w0 w → (∀ e ∈ o.after.toList, Region.binds .any e = true → Φ e.on (x e.on) w) →
    ∀ K : Act → World → Prop, (∀ v w', Φ i v w' → R w w' → (al i = true → ∀ g, ptrBlock v = some g → w.heap.size ≤ g ∧ g < w'.heap.size) → K ((frameOf a0 ds x).put o.dst v) w') →
      if Region.wanted o (yielded ops (frameOf a0 ds x).tmps) = true then o.wp P (frameOf a0 ds x) w K Q else K ((frameOf a0 ds x).put o.dst undef) w

def StepsParR (R : World → World → Prop) (P : Program) (ops : Array Oper) (Q : Exit → Act → World → Prop) (a0 : Act) (w0 : World) (ds : List Tmp) (al : Nat → Bool) (Φ : Nat → Value → World → Prop) : List Oper → Nat → Prop
  | [], _ => True
  | o :: l, i => StepParR R P ops Q a0 w0 ds al Φ i o ∧ StepsParR R P ops Q a0 w0 ds al Φ l (i + 1)

theorem stepsParR_at {a0 : Act} {w0 : World} {ds : List Tmp} {al : Nat → Bool} {Φ : Nat → Value → World → Prop} : ∀ (l : List Oper) (k i : Nat) (o : Oper), StepsParR R P ops Q a0 w0 ds al Φ l k → l[i]? = some o → StepParR R P ops Q a0 w0 ds al Φ (k + i) o
  | [], _, _, _, _, h => by simp at h
  | o' :: l, k, 0, o, h, ho => by
    simp only [List.getElem?_cons_zero, Option.some.injEq] at ho
    subst ho
    exact h.1
  | o' :: l, k, i + 1, o, h, ho => by
    have := stepsParR_at l (k + 1) i o h.2 (by simpa using ho)
    rwa [show k + 1 + i = k + (i + 1) by omega] at this

theorem wpAny_parR {l : List Oper} {a : Act} {w : World} (n : Nat) (ds : List Tmp) (al : Nat → Bool) (Φ : Nat → Value → World → Prop) (hrefl : R w w.drew) (htrans : ∀ a b c, R a b → R b c → R a c) (hsize : ∀ a b : World, R a b → a.heap.size ≤ b.heap.size) (hm : P.follows .mixedOrders = true)
    (hB : (backB l.toArray && decide (n ≤ l.length) && dstsB (l.take n) ds) = true)
    (hno : ∀ listed, HeadInv .any l.toArray n listed → (∃ i, i < n ∧ listed.getD i true = false) → ∀ t, n ≤ t → t ∉ Region.ready .any l.toArray listed)
    (hstab : ∀ i v w1 w2, Φ i v w1 → R w1 w2 → Φ i v w2)
    (hsteps : StepsParR R P l.toArray Q a w ds al Φ (l.take n) 0)
    (hfin : ∀ (x : Nat → Value) (w' : World), R w w' → (∀ i, i < n → Φ i (x i) w') → (∀ i j, i < n → j < n → al i = true → al j = true → i ≠ j → ∀ g, ptrBlock (x i) = some g → ptrBlock (x j) ≠ some g) → wpAny P .any l.toArray Q (l.length - n) (headOf n l.length) (frameOf a ds x) w') :
    wpAny P .any l.toArray Q l.toArray.size (Array.replicate l.toArray.size false) a w.drew := by
  simp only [Bool.and_eq_true, decide_eq_true_eq, dstsB] at hB
  obtain ⟨⟨hb, hn⟩, hds, hnd⟩ := hB
  have hlen : ds.length = n := by
    have := congrArg List.length hds
    simp at this
    omega
  have inv0 : HeadInv .any l.toArray n (Array.replicate l.toArray.size false) :=
    ⟨by simp, fun j oj _ hl => (by rw [getD_replicate_false] at hl; cases hl), fun t _ ht => getD_in (by simpa using ht) (getD_replicate_false _ _)⟩
  have hn' : n ≤ l.toArray.size := by simpa using hn
  have key := wpAny_inv (P := P) (ops := l.toArray) (Q := Q) (n := n) hb hn' hno
    (fun listed a' w' => R w w' ∧ ∃ x : Nat → Value, a' = frameOf a ds x ∧ (∀ i, i < n → listed.getD i false = true → Φ i (x i) w') ∧ (∀ i, i < n → listed.getD i false = true → al i = true → ∀ g, ptrBlock (x i) = some g → g < w'.heap.size) ∧ (∀ i j, i < n → j < n → listed.getD i false = true → listed.getD j false = true → al i = true → al j = true → i ≠ j → ∀ g, ptrBlock (x i) = some g → ptrBlock (x j) ≠ some g))
    (fun listed a' w' i inv hI hi hl hdeps => by
      obtain ⟨hbw, x, rfl, hx, hlt, hne⟩ := hI
      have hil : i < l.length := by omega
      have ho : l.toArray[i]? = some l[i] := by simp [hil]
      have hst := stepsParR_at (l.take n) 0 i l[i] hsteps (by simp [hi, hil])
      rw [Nat.zero_add] at hst
      have hd : (l[i]).dst = some (ds[i]'(by omega)) := by
        have h1 : ((l.take n).map (·.dst))[i]? = (ds.map some)[i]? := by rw [hds]
        simp [hi, hil, show i < ds.length by omega] at h1
        exact h1
      have hds2 : ds[i]? = some (ds[i]'(by omega)) := by simp [show i < ds.length by omega]
      refine wpOp_step ho fun K hK => hst x w' hbw (fun e he hbe => hx e.on (by have := backB_spec hb ho e (by simpa using he) hbe; omega) (hdeps _ ho e (by simpa using he) hbe)) K (fun v w'' hv hb2 hfr => ?_)
      refine hK _ _ ⟨htrans _ _ _ hbw hb2, upd x i v, ?_, fun j hj hlj => ?_, fun j hj hlj haj g hg => ?_, fun j k hj hk hlj hlk haj hak hjk g hgj hgk => ?_⟩
      · rw [hd]
        unfold frameOf Act.put
        simp only
        have := slots_put x v ds 0 i a.tmps _ hnd hds2
        rw [Nat.zero_add] at this
        rw [this]
      · unfold upd
        by_cases hji : j = i
        · subst hji; rw [if_pos rfl]; exact hv
        · rw [if_neg hji]
          rw [getD_set_ne false (fun e => hji e.symm)] at hlj
          exact hstab j _ _ _ (hx j hj hlj) hb2
      · unfold upd at hg
        by_cases hji : j = i
        · subst hji; rw [if_pos rfl] at hg; exact (hfr haj g hg).2
        · rw [if_neg hji] at hg
          rw [getD_set_ne false (fun e => hji e.symm)] at hlj
          exact Nat.lt_of_lt_of_le (hlt j hj hlj haj g hg) (hsize _ _ hb2)
      · unfold upd at hgj hgk
        by_cases hji : j = i
        · have hki : ¬ k = i := fun e => hjk (hji.trans e.symm)
          subst hji
          rw [if_pos rfl] at hgj
          rw [if_neg hki] at hgk
          rw [getD_set_ne false (fun e => hki e.symm)] at hlk
          have h1 := (hfr haj g hgj).1
          have h2 := hlt k hk hlk hak g hgk
          omega
        · rw [if_neg hji] at hgj
          rw [getD_set_ne false (fun e => hji e.symm)] at hlj
          by_cases hki : k = i
          · subst hki
            rw [if_pos rfl] at hgk
            have h1 := (hfr hak g hgk).1
            have h2 := hlt j hj hlj haj g hgj
            omega
          · rw [if_neg hki] at hgk
            rw [getD_set_ne false (fun e => hki e.symm)] at hlk
            exact hne j k hj hk hlj hlk haj hak hjk g hgj hgk)
    (fun listed a' w' inv hall hI => by
      obtain ⟨hbw, x, rfl, hx, hlt, hne⟩ := hI
      have := headOf_eq hn' inv hall
      subst this
      have hl : ∀ i, i < n → (headOf n l.toArray.size).getD i false = true := fun i hi => by
        have h1 := hall i hi
        have h2 : i < (headOf n l.toArray.size).size := by rw [inv.size]; omega
        simp only [Array.getD, h2, dite_true] at h1 ⊢
        exact h1
      have := hfin x w' hbw (fun i hi => hx i hi (hl i hi)) (fun i j hi hj hai haj hij => hne i j hi hj (hl i hi) (hl j hj) hai haj hij)
      simpa using this)
    (leftOf n (Array.replicate l.toArray.size false)) _ a w.drew inv0 rfl
    ⟨hrefl, fun i => a.tmps.getD (ds.getD i 0) undef, by unfold frameOf; rw [slots_self]; intro j d hj; simp [hj], fun i _ hl => by (rw [getD_replicate_false] at hl; cases hl), fun i _ hl => by (rw [getD_replicate_false] at hl; cases hl), fun i _ _ _ hl => by (rw [getD_replicate_false] at hl; cases hl)⟩
  have hleft : leftOf n (Array.replicate l.toArray.size false) = n := by
    unfold leftOf
    rw [List.filter_eq_self.2]
    · simp
    · intro i hi
      rw [List.mem_range] at hi
      have : i < l.length := by omega
      simp [this]
  rw [hleft, show n + (l.toArray.size - n) = l.toArray.size by omega] at key
  exact key
end

section
variable {R : World → World → Prop} {P : Program} {Q : Exit → Act → World → Prop} {id : Nat} {l : List Oper} {a : Act} {w : World}
/-- The first n keep one another's facts; behind them the order is forced. -/
theorem wpAny_parR_tail (n : Nat) (ds : List Tmp) (al : Nat → Bool) (Φ : Nat → Value → World → Prop) (hrefl : R w w.drew) (htrans : ∀ a b c, R a b → R b c → R a c) (hsize : ∀ a b : World, R a b → a.heap.size ≤ b.heap.size) (hm : P.follows .mixedOrders = true)
    (hB : (backB l.toArray && decide (n < l.length) && dstsB (l.take n) ds && Region.sinkB .any l.toArray n && Region.chainB .any l.toArray n && Region.seqB .any l.toArray (l.length - n) n (headOf n l.length)) = true)
    (hstab : ∀ i v w1 w2, Φ i v w1 → R w1 w2 → Φ i v w2)
    (hsteps : StepsParR R P l.toArray Q a w ds al Φ (l.take n) 0)
    (hfin : ∀ (x : Nat → Value) (w' : World), R w w' → (∀ i, i < n → Φ i (x i) w') → (∀ i j, i < n → j < n → al i = true → al j = true → i ≠ j → ∀ g, ptrBlock (x i) = some g → ptrBlock (x j) ≠ some g) → wpList P l.toArray Q (l.drop n) (frameOf a ds x) w') :
    wpAny P .any l.toArray Q l.toArray.size (Array.replicate l.toArray.size false) a w.drew := by
  simp only [Bool.and_eq_true, decide_eq_true_eq] at hB
  obtain ⟨⟨⟨⟨⟨hb, hn⟩, hd⟩, hs⟩, hc⟩, hq⟩ := hB
  have hn' : n < l.toArray.size := by simpa using hn
  refine wpAny_parR n ds al Φ hrefl htrans hsize hm (by simp [hb, hd]; omega) (fun listed inv ⟨i, hi, hl⟩ t ht => tail_waits hs hc hn' inv (n - i) i rfl hi hl t ht) hstab hsteps (fun x w' hb hx hne => ?_)
  have := wpAny_of_seq (P := P) (ops := l.toArray) (md := .any) (Q' := Q) (l.drop n) n (headOf n l.length) (frameOf a ds x) w' (fun j => by simp [List.getElem?_drop]) (by rw [List.length_drop]; exact hq) (hfin x w' hb hx hne)
  rwa [List.length_drop] at this
end
end Go.Proofs.Ytmhmldpccccjbaa

namespace Go.Proofs.Ytmhmldpccccjbaa
open Go.RowKit
open Go.WideElems (Fit rg rd pl)
open Go.ChangeMaps (setBlock)
open Go.WideMaps (KeyLaw)
set_option linter.unusedVariables false
set_option linter.unusedSimpArgs false

theorem slots_get (x : Nat → Value) : ∀ (ds : List Tmp) (k : Nat) (t : Array Value) (j : Nat) (d : Tmp), ds.Nodup → ds[j]? = some d → d < t.size → (slots x ds k t)[d]? = some (x (k + j))
  | [], _, _, _, _, _, h, _ => by simp at h
  | e :: ds, k, t, 0, d, hn, h, hd => by
    simp only [List.getElem?_cons_zero, Option.some.injEq] at h
    subst h
    unfold slots
    rw [slots_other x (x k) ds (k + 1) t e (List.nodup_cons.1 hn).1]
    have : (slots x ds (k + 1) t).size = t.size := slots_size x ds (k + 1) t
    simp [this, hd]
  | e :: ds, k, t, j + 1, d, hn, h, hd => by
    simp only [List.getElem?_cons_succ] at h
    unfold slots
    rw [slots_get x ds (k + 1) _ j d (List.nodup_cons.1 hn).2 h (by simpa using hd), show k + 1 + j = k + (j + 1) by omega]
where
  slots_size (x : Nat → Value) : ∀ (ds : List Tmp) (k : Nat) (t : Array Value), (slots x ds k t).size = t.size
    | [], _, _ => rfl
    | e :: ds, k, t => by
      unfold slots
      rw [slots_size x ds (k + 1) _]
      simp
theorem slots_out (x : Nat → Value) : ∀ (ds : List Tmp) (k : Nat) (t : Array Value) (d : Tmp), d ∉ ds → (slots x ds k t)[d]? = t[d]?
  | [], _, _, _, _ => rfl
  | e :: ds, k, t, d, h => by
    simp only [List.mem_cons, not_or] at h
    unfold slots
    rw [slots_out x ds (k + 1) _ d h.2]
    rw [Array.getElem?_setIfInBounds_ne (fun e => h.1 e.symm)]
def offB (ds : List Tmp) : Operand → Bool
  | .tmp d => !ds.contains d
  | _ => true
theorem eval_off {a : Act} {ds : List Tmp} {x : Nat → Value} : ∀ {y : Operand}, offB ds y = true → (frameOf a ds x).eval y = a.eval y
  | .tmp d, h => by
    have hd : d ∉ ds := by simpa [offB] using h
    show (slots x ds 0 a.tmps).getD d undef = a.tmps.getD d undef
    rw [Array.getD_eq_getD_getElem?, Array.getD_eq_getD_getElem?, slots_out x ds 0 _ d hd]
  | .const _, _ => rfl
  | .global _, _ => rfl
  | .func _, _ => rfl
theorem eval_at {a : Act} {ds : List Tmp} {x : Nat → Value} {j : Nat} {d : Tmp} (hn : ds.Nodup) (hd : ds[j]? = some d) (hs : d < a.tmps.size) : (frameOf a ds x).eval (.tmp d) = x j := by
  show (slots x ds 0 a.tmps).getD d undef = _
  rw [Array.getD_eq_getD_getElem?, slots_get x ds 0 _ j d hn hd hs, Nat.zero_add]
  rfl
/-- Slots of which nothing is known. -/
def anyS (s : List TV) : List Tmp → List TV
  | [] => s
  | d :: ds => anyS (s.set d .any) ds
theorem anyS_dn {C : Cx} (x : Nat → Value) : ∀ (ds : List Tmp) (k : Nat) (s : List TV) (t : Array Value), DnL C s t.toList → DnL C (anyS s ds) (slots x ds k t).toList
  | [], _, _, _, h => h
  | d :: ds, k, s, t, h => by
    unfold slots anyS
    exact anyS_dn x ds (k + 1) _ _ (by rw [Array.toList_setIfInBounds]; exact h.set d (by simp [Dn]))
theorem RelS.frame {B : Nat} {w0 w : World} {gh : List Value} {ρ : Nat → Value} {s g : List TV} {h : List LB} {a : Act} {ds : List Tmp} {x : Nat → Value} (hr : RelS B w0 gh ρ ⟨s, h, g⟩ a w) : RelS B w0 gh ρ ⟨anyS s ds, h, g⟩ (frameOf a ds x) w :=
  ⟨anyS_dn x ds 0 s a.tmps hr.slots, hr.ghost, hr.rel, hr.defers⟩
/-- The map's block while the region runs. -/
def bumpX (g : Nat) (es es1 : Array MapEntry) (clock clock1 : Nat) : Ext where
  p v j := v = .map (some j)
  Q v w := v = .map (some g) ∧ (w.heap[g]? = some (.map es clock) ∨ w.heap[g]? = some (.map es1 clock1))
  st v w w' hQ hb := ⟨hQ.1, by rw [hb g hQ.1]; exact hQ.2⟩
/-- What each operation of it keeps. -/
def BR (g : Nat) (es es1 : Array MapEntry) (clock clock1 : Nat) (a b : World) : Prop := a.grownBy b (some g) ∧ (a.heap[g]? = some (.map es clock) → b.heap[g]? = some (.map es clock) ∨ b.heap[g]? = some (.map es1 clock1)) ∧ (a.heap[g]? = some (.map es1 clock1) → b.heap[g]? = some (.map es1 clock1))
section
variable {g : Nat} {es es1 : Array MapEntry} {clock clock1 : Nat}
theorem BR.trans {a b c : World} (h : BR g es es1 clock clock1 a b) (k : BR g es es1 clock clock1 b c) : BR g es es1 clock clock1 a c :=
  ⟨h.1.trans k.1, fun e => (h.2.1 e).elim k.2.1 fun e1 => .inr (k.2.2 e1), fun e => k.2.2 (h.2.2 e)⟩
theorem BR.same {a b : World} (h : Below a.heap.size a b) (hg : g < a.heap.size) : BR g es es1 clock clock1 a b :=
  ⟨⟨h.os, h.tape, h.output, h.size, fun k hk _ => h.block k hk⟩, fun e => .inl ((h.block g hg).trans e), fun e => (h.block g hg).trans e⟩
theorem BR.drew (a : World) : BR g es es1 clock clock1 a a.drew := ⟨⟨rfl, rfl, rfl, Nat.le_refl _, fun _ _ _ => rfl⟩, .inl, id⟩
theorem BR.or {a b : World} (h : BR g es es1 clock clock1 a b) (ha : a.heap[g]? = some (.map es clock)) : b.heap[g]? = some (.map es clock) ∨ b.heap[g]? = some (.map es1 clock1) := h.2.1 ha
end
/-- What the slots hold: a value, or (none) what the entry's step has told. -/
def bPhi (ks : List (Option Value)) (u : Value) (g : Nat) (es1 : Array MapEntry) (clock1 : Nat) (j : Nat) (v : Value) (w : World) : Prop := match ks[j]? with
  | some (some x) => v = x
  | some none => v = u ∧ w.heap[g]? = some (.map es1 clock1)
  | none => False
def depB (o : Oper) (j : Nat) : Bool := o.after.toList.any fun e => Nat.beq e.on j && Region.binds .any e
theorem depB_spec {o : Oper} {j : Nat} (h : depB o j = true) : ∃ e ∈ o.after.toList, e.on = j ∧ Region.binds .any e = true := by
  unfold depB at h
  obtain ⟨e, h1, h2⟩ := List.any_eq_true.1 h
  simp only [Bool.and_eq_true] at h2
  exact ⟨e, h1, Nat.eq_of_beq_eq_true h2.1, h2.2⟩
section
variable {P : Program} {ops : Array Oper} {Q : Exit → Act → World → Prop} {a : Act} {w : World} {ds : List Tmp} {ks : List (Option Value)} {u : Value} {g : Nat} {es es1 : Array MapEntry} {clock clock1 : Nat} {j : Nat} {o : Oper}
theorem bPhi_at {x : Nat → Value} {w1 : World} {i : Nat} {v : Value} (hdep : depB o i = true) (hks : ks[i]? = some (some v)) (hd : ∀ e ∈ o.after.toList, Region.binds .any e = true → bPhi ks u g es1 clock1 e.on (x e.on) w1) : x i = v := by
  obtain ⟨e, h1, h2, h3⟩ := depB_spec hdep
  have := hd e h1 h3
  rw [h2] at this
  simpa [bPhi, hks] using this
/-- A step that only reads. -/
theorem bump_pure {v : Value} (hg : o.guard = none) (hks : ks[j]? = some (some v)) (hw : w.heap[g]? = some (.map es clock))
    (h : ∀ (x : Nat → Value) (w1 : World), BR g es es1 clock clock1 w w1 → (∀ e ∈ o.after.toList, Region.binds .any e = true → bPhi ks u g es1 clock1 e.on (x e.on) w1) → (execOp (frameOf a ds x).eval o).run P w1 = .ok (.value v) w1) :
    StepParR (BR g es es1 clock clock1) P ops Q a w ds (fun _ => false) (bPhi ks u g es1 clock1) j o := fun x w1 hb hd K hK => by
  have hwt : Region.wanted o (yielded ops (frameOf a ds x).tmps) = true := by simp [Region.wanted, hg]
  rw [if_pos hwt]
  unfold Oper.wp
  rw [h x w1 hb hd]
  refine hK v w1 (by simp [bPhi, hks]) ⟨⟨rfl, rfl, rfl, Nat.le_refl _, fun _ _ _ => rfl⟩, .inl, id⟩ (fun e => by cases e)
/-- The entry's step. -/
theorem bump_ent {t : TypeId} {d0 d1 : Tmp} {key : Value} (hg : o.guard = none) (ho : o.op = .mapEntry t (.tmp d0) (.tmp d1)) (h0 : depB o 0 = true) (h1 : depB o 1 = true) (hn : ds.Nodup) (e0 : ds[0]? = some d0) (e1 : ds[1]? = some d1) (s0 : d0 < a.tmps.size) (s1 : d1 < a.tmps.size)
    (hk0 : ks[0]? = some (some (.map (some g)))) (hk1 : ks[1]? = some (some key)) (hks : ks[j]? = some none) (hw : w.heap[g]? = some (.map es clock))
    (hrun : ∀ w1 : World, (w1.heap[g]? = some (.map es clock) ∨ w1.heap[g]? = some (.map es1 clock1)) → (Instr.mapEntry t (.map (some g)) key).run P w1 = .ok u (setBlock w1 g (.map es1 clock1))) :
    StepParR (BR g es es1 clock clock1) P ops Q a w ds (fun _ => false) (bPhi ks u g es1 clock1) j o := fun x w1 hb hd K hK => by
  have hwt : Region.wanted o (yielded ops (frameOf a ds x).tmps) = true := by simp [Region.wanted, hg]
  rw [if_pos hwt]
  have hor := hb.or hw
  have hgs : ∃ o', w1.heap[g]? = some o' := by rcases hor with h | h <;> exact ⟨_, h⟩
  obtain ⟨o', hgs⟩ := hgs
  have hset := MapKept.heap_set (o' := .map es1 clock1) hgs
  unfold Oper.wp
  have e2 : (frameOf a ds x).eval (.tmp d0) = .map (some g) := (eval_at hn e0 s0).trans (bPhi_at h0 hk0 hd)
  have e3 : (frameOf a ds x).eval (.tmp d1) = key := (eval_at hn e1 s1).trans (bPhi_at h1 hk1 hd)
  have hr : (execOp (frameOf a ds x).eval o).run P w1 = .ok (.value u) (setBlock w1 g (.map es1 clock1)) := by simp [execOp, ho, e2, e3, hrun w1 hor]
  rw [hr]
  refine hK u _ (by unfold bPhi; rw [hks]; exact ⟨rfl, hset.1⟩) ⟨⟨rfl, rfl, rfl, by simp [setBlock], fun k hk hne => hset.2 k (fun e => hne (by rw [e]))⟩, fun _ => .inr hset.1, fun _ => hset.1⟩ (fun e => by cases e)
end
section
variable {P : Program} {w : World} {t k e : TypeId} {g n : Nat} {D d zd : DataW Unit} {key z u val : Value} {kl : Lit} {ps : List MemPlace}
/-- What the three operations do. -/
theorem bump_core (K : KeyLaw P k) (ht : P.underlying t = some (.map k e)) (hz : ∀ w, (zeroValue e).run P w = .ok z w) (hzd : plainElem (H := Unit) P e z = some (zd, [])) (hown : w.ownsMap P k (plainElem (H := Unit) P e) g n D) (hn : n < maxLen) (hkey : keyOf P k key = some kl)
    (hu : ∀ v ps, plainElem (H := Unit) P e v = some (D.atKey kl zd, ps) → v = u) (hval : plainElem (H := Unit) P e val = some (d, ps)) :
    ∃ (es es1 : Array MapEntry) (clock clock1 st : Nat), w.heap[g]? = some (.map es clock) ∧
      (∀ w1 : World, (w1.heap[g]? = some (.map es clock) ∨ w1.heap[g]? = some (.map es1 clock1)) → (Instr.lookup t (.map (some g)) key false).run P w1 = .ok u w1 ∧ (Instr.mapEntry t (.map (some g)) key).run P w1 = .ok (.tuple #[u, goInt st]) (setBlock w1 g (.map es1 clock1))) ∧
      ∀ w1 : World, w1.heap[g]? = some (.map es1 clock1) → ∃ w2, (Instr.entryStore t (.map (some g)) (goInt st) val).run P w1 = .ok () w2 ∧ w1.grownBy w2 (some g) ∧ w2.ownsMap P k (plainElem (H := Unit) P e) g (n + 1) (D.put kl d) := by
  obtain ⟨v, ps1, hrun1, hv⟩ := hown.lookup (.of_law K) ht (hz w) hzd hkey
  have hvu := hu v ps1 hv
  subst hvu
  obtain ⟨w', hupd, hown', hgr⟩ := hown.update (.of_law K) ht hn hkey hval
  obtain ⟨es, clock, hb, F, hs, hD⟩ := hown
  obtain ⟨v0, st, es1, clock1, h1, F1, h2, h3, h4⟩ := entry_at K ht hz hb F hzd (Nat.lt_of_le_of_lt hs hn) hkey
  have h3' : ∃ e0 ∈ es1.toList, e0.key = key ∧ e0.val = v0 := by obtain ⟨e0, a1, a2, a3, _⟩ := h3; exact ⟨e0, a1, a2, a3⟩
  have hl : ∀ w1 : World, w1.heap[g]? = some (.map es clock) → (Instr.lookup t (.map (some g)) key false).run P w1 = .ok v0 w1 := fun w1 hw1 => by
    rcases h2 with ⟨e0, a1, a2, rfl⟩ | ⟨a1, rfl⟩
    · exact look_in K ht hz hw1 F hkey ⟨e0, a1, a2, rfl⟩
    · exact look_out K ht hz hw1 F hkey a1
  have hvv : v = v0 := by
    have := hrun1.symm.trans (hl w hb)
    injection this
  subst hvv
  refine ⟨es, es1, clock, clock1, st, hb, fun w1 hw1 => ?_, fun w1 hw1 => ?_⟩
  · rcases hw1 with hw1 | hw1
    · exact ⟨hl w1 hw1, h1 w1 hw1⟩
    · exact ⟨look_in K ht hz hw1 F1 hkey h3', entry_again K ht hw1 F1 hkey h3⟩
  · obtain ⟨es', clock', r1, r2⟩ := h4 w1 val hw1
    have hset := MapKept.heap_set (o' := .map es' clock') hw1
    refine ⟨_, r1, ⟨rfl, rfl, rfl, by simp [setBlock], fun k hk hne => hset.2 k (fun e => hne (by rw [e]))⟩, ?_⟩
    rw [hupd] at r2
    injection r2 with _ r2
    obtain ⟨es2, clock2, q1, q2⟩ := hown'
    have q1' := (congrArg (fun u : World => u.heap[g]?) r2).symm.trans q1
    have q1 := (MapKept.heap_set (o' := .map es' clock') hb).1.symm.trans q1'
    injection q1 with q1
    injection q1 with q1 q3
    subst q1; subst q3
    exact ⟨es', clock', hset.1, q2⟩
end
section
variable {P : Program} {B : Nat} {w0 : World} {gh : List Value} {Q : Exit → St → Prop} {σ : St}
set_option maxHeartbeats 1600000 in
/-- 'm[k] += y' (m, the key and y in slots). -/
theorem TA.bump8 {om ok ol ov oa oe ox os : Oper} {t k e tk0 : TypeId} {m src y : Operand} {i n d0 d1 d2 d3 d4 d5 d6 : Nat} {D d zd : DataW Unit} {key z u val yv : Value} {kl : Lit} {ps : List MemPlace} {tvk : TV} (hm : P.follows .mixedOrders = true)
    (hB : (backB [om, ok, ol, ov, oa, oe, ox, os].toArray && decide (7 < [om, ok, ol, ov, oa, oe, ox, os].length) && dstsB ([om, ok, ol, ov, oa, oe, ox, os].take 7) [d0, d1, d2, d3, d4, d5, d6] && Region.sinkB .any [om, ok, ol, ov, oa, oe, ox, os].toArray 7 && Region.chainB .any [om, ok, ol, ov, oa, oe, ox, os].toArray 7 && Region.seqB .any [om, ok, ol, ov, oa, oe, ox, os].toArray ([om, ok, ol, ov, oa, oe, ox, os].length - 7) 7 (headOf 7 [om, ok, ol, ov, oa, oe, ox, os].length)) = true)
    (hg : ([om, ok, ol, ov, oa, oe, ox, os].all fun o => o.guard.isNone) = true) (hdb : (depB ol 0 && depB ol 1 && depB oa 2 && depB oa 3 && depB oe 0 && depB oe 1 && depB ox 5) = true) (hoff : (offB [d0, d1, d2, d3, d4, d5, d6] m && offB [d0, d1, d2, d3, d4, d5, d6] src && offB [d0, d1, d2, d3, d4, d5, d6] y) = true)
    (hm0 : om.op = .move m) (hk0 : ok.op = .load tk0 src) (hl0 : ol.op = .lookup t (.tmp d0) (.tmp d1) false) (hv0 : ov.op = .move y) (he0 : oe.op = .mapEntry t (.tmp d0) (.tmp d1)) (hx0 : ox.op = .extract (.tmp d5) 1) (hs0 : os.op = .entryStore t (.tmp d0) (.tmp d6) (.tmp d4)) (hsd : os.dst = none)
    (hsz : ([d0, d1, d2, d3, d4, d5, d6].all fun d => Nat.blt d σ.s.length) = true)
    (hma : tev σ.s m = .row i) (hya : tev σ.s y = .v yv) (hi : hf σ.h i = .ext (mapX P k e n D))
    (hT : ∀ X, TStep P B w0 (σ.h.set i (.ext X)) σ.s ok tvk none) (hkey0 : ∀ (C : Cx) (v : Value), Dn C tvk v → v = key)
    (hadd : ∀ (ev : Operand → Value) (w : World), ev (.tmp d2) = u → ev (.tmp d3) = yv → (execOp ev oa).run P w = .ok (.value val) w)
    (K : KeyLaw P k) (ht : P.underlying t = some (.map k e)) (hz : ∀ w, (zeroValue e).run P w = .ok z w) (hzd : plainElem (H := Unit) P e z = some (zd, [])) (hn : n < maxLen) (hkey : keyOf P k key = some kl)
    (hu : ∀ v ps, plainElem (H := Unit) P e v = some (D.atKey kl zd, ps) → v = u) (hval : plainElem (H := Unit) P e val = some (d, ps))
    (h : Q .normal ⟨anyS σ.s [d0, d1, d2, d3, d4, d5, d6], σ.h.set i (.ext (mapX P k e (n + 1) (D.put kl d))), σ.g⟩) : TA P B w0 gh [om, ok, ol, ov, oa, oe, ox, os].toArray σ Q := fun ρ a w hr => by
  have e1 := tev_dn hr.slots m
  have e2 := tev_dn hr.slots y
  rw [hma] at e1
  rw [hya] at e2
  simp only [Dn] at e1 e2
  obtain ⟨g, e3, hown⟩ := (hr.rel.ext i _ hi).q
  obtain ⟨es, es1, clock, clock1, st, hb, hlk, hst⟩ := bump_core K ht hz hzd hown hn hkey hu hval
  have e1' : a.eval m = .map (some g) := e1.2.trans e3
  have hR1 : ∀ w1, BR g es es1 clock clock1 w w1 → RelS B w0 gh ρ ⟨σ.s, σ.h.set i (.ext (bumpX g es es1 clock clock1)), σ.g⟩ a w1 := fun w1 hw1 =>
    hr.turnX hi (g := g) e3 hw1.1 (fun k hk => hk) rfl ⟨e3, hw1.or hb⟩
  have hgsz : g < w.heap.size := (Array.getElem?_eq_some_iff.1 hb).1
  have htsz : a.tmps.size = σ.s.length := by have := hr.slots.len; simpa using this
  simp only [List.all_cons, List.all_nil, Bool.and_true, Bool.and_eq_true, Option.isNone_iff_eq_none] at hg hdb hoff hsz
  obtain ⟨g0, g1, g2, g3, g4, g5, g6, g7⟩ := hg
  obtain ⟨⟨⟨⟨⟨⟨b1, b2⟩, b3⟩, b4⟩, b5⟩, b6⟩, b7⟩ := hdb
  obtain ⟨⟨o1, o2⟩, o3⟩ := hoff
  obtain ⟨z0, z1, z2, z3, z4, z5, z6⟩ := hsz
  have zz : ∀ {d : Nat}, Nat.blt d σ.s.length = true → d < a.tmps.size := fun h => by rw [htsz]; exact Nat.le_of_ble_eq_true h
  have hnd : [d0, d1, d2, d3, d4, d5, d6].Nodup := by
    simp only [Bool.and_eq_true, dstsB, decide_eq_true_eq] at hB
    exact hB.1.1.1.2.2
  refine wpAny_parR_tail (R := BR g es es1 clock clock1) 7 [d0, d1, d2, d3, d4, d5, d6] (fun _ => false) (bPhi [some (.map (some g)), some key, some u, some yv, some val, none, some (goInt st)] (.tuple #[u, goInt st]) g es1 clock1) (BR.drew w) (fun _ _ _ => BR.trans) (fun _ _ h => h.1.size) hm hB ?_ ?_ ?_
  · intro j v w1 w2 h1 h2
    unfold bPhi at h1 ⊢
    split <;> simp_all
    exact h2.2.2 h1.2
  · simp only [List.take_succ_cons, List.take_zero, StepsParR]
    refine ⟨?_, ?_, ?_, ?_, ?_, ?_, ?_, trivial⟩
    · exact bump_pure g0 rfl hb fun x w1 hb1 hd => by simp [execOp, hm0, eval_off o1, e1']
    · refine fun x w1 hb1 hd K' hK => ?_
      have hwt : Region.wanted ok (yielded [om, ok, ol, ov, oa, oe, ox, os].toArray (frameOf a [d0, d1, d2, d3, d4, d5, d6] x).tmps) = true := by simp [Region.wanted, g1]
      rw [if_pos hwt]
      have R1 := hR1 w1 hb1
      refine hT (bumpX g es es1 clock clock1) ρ _ w1 _ (fun _ _ => .inr rfl) (fun e => by cases e) R1.rel (fun q hq => ?_) K' _ fun u' w' ρ' R' KK bel dn => ?_
      · have : q = src := by simpa [hk0, Op.operands] using hq
        subst this
        rw [eval_off o2]
        exact tev_dn R1.slots q
      · exact hK u' w' (by show u' = key; exact hkey0 _ _ dn) (.same bel (by have := hb1.1.size; omega)) (fun e => by cases e)
    · refine bump_pure g2 rfl hb fun x w1 hb1 hd => ?_
      have q0 : (frameOf a [d0, d1, d2, d3, d4, d5, d6] x).eval (.tmp d0) = .map (some g) := (eval_at (j := 0) hnd rfl (zz z0)).trans (bPhi_at b1 rfl hd)
      have q1 : (frameOf a [d0, d1, d2, d3, d4, d5, d6] x).eval (.tmp d1) = key := (eval_at (j := 1) hnd rfl (zz z1)).trans (bPhi_at b2 rfl hd)
      simp [execOp, hl0, q0, q1, (hlk w1 (hb1.or hb)).1]
    · exact bump_pure g3 rfl hb fun x w1 hb1 hd => by simp [execOp, hv0, eval_off o3, e2]
    · refine bump_pure g4 rfl hb fun x w1 hb1 hd => ?_
      exact hadd _ _ ((eval_at (j := 2) hnd rfl (zz z2)).trans (bPhi_at b3 rfl hd)) ((eval_at (j := 3) hnd rfl (zz z3)).trans (bPhi_at b4 rfl hd))
    · exact bump_ent g5 he0 b5 b6 hnd rfl rfl (zz z0) (zz z1) rfl rfl rfl hb fun w1 hw1 => (hlk w1 hw1).2
    · refine bump_pure g6 rfl hb fun x w1 hb1 hd => ?_
      obtain ⟨e', f1, f2, f3⟩ := depB_spec b7
      have h5 := hd e' f1 f3
      rw [f2] at h5
      have q5 : (frameOf a [d0, d1, d2, d3, d4, d5, d6] x).eval (.tmp d5) = .tuple #[u, goInt st] := (eval_at (j := 5) hnd rfl (zz z5)).trans h5.1
      simp [execOp, hx0, q5, Instr.extract]
  · intro x w' hR hΦ _
    have h0 : x 0 = .map (some g) := by have := hΦ 0 (by omega); simpa [bPhi] using this
    have h4 : x 4 = val := by have := hΦ 4 (by omega); simpa [bPhi] using this
    have h5 : x 5 = .tuple #[u, goInt st] ∧ w'.heap[g]? = some (.map es1 clock1) := by have := hΦ 5 (by omega); simpa [bPhi] using this
    have h6 : x 6 = goInt st := by have := hΦ 6 (by omega); simpa [bPhi] using this
    obtain ⟨w2, r1, r2, r3⟩ := hst w' h5.2
    simp only [List.drop_succ_cons, List.drop_zero]
    refine wpList_plain g7 fun K' hK => ?_
    unfold Oper.wp
    have q0 : (frameOf a [d0, d1, d2, d3, d4, d5, d6] x).eval (.tmp d0) = .map (some g) := (eval_at (j := 0) hnd rfl (zz z0)).trans h0
    have q4 : (frameOf a [d0, d1, d2, d3, d4, d5, d6] x).eval (.tmp d4) = val := (eval_at (j := 4) hnd rfl (zz z4)).trans h4
    have q6 : (frameOf a [d0, d1, d2, d3, d4, d5, d6] x).eval (.tmp d6) = goInt st := (eval_at (j := 6) hnd rfl (zz z6)).trans h6
    have hr2 : (execOp (frameOf a [d0, d1, d2, d3, d4, d5, d6] x).eval os).run P w' = .ok .skip w2 := by simp [execOp, hs0, q0, q4, q6, r1]
    rw [hr2]
    have hg2 : w.grownBy w2 (some g) := hR.1.trans r2
    have hrr := hr.turnX (x' := mapX P k e (n + 1) (D.put kl d)) hi (g := g) e3 hg2 (fun k hk => hk) rfl ⟨g, e3, r3⟩
    refine hK _ _ ?_
    rw [hsd]
    have hfin := hrr.frame (ds := [d0, d1, d2, d3, d4, d5, d6]) (x := x)
    show liftQ B w0 gh Q .normal ((frameOf a [d0, d1, d2, d3, d4, d5, d6] x).put none _) w2
    exact ⟨_, ρ, h, hfin⟩
set_option maxHeartbeats 1600000 in
/-- 'm[k] += y' (y no slot that is moved first). -/
theorem TA.bump7 {om ok ol oa oe ox os : Oper} {t k e tk0 : TypeId} {m src y : Operand} {i n d0 d1 d2 d3 d4 d5 : Nat} {D d zd : DataW Unit} {key z u val yv : Value} {kl : Lit} {ps : List MemPlace} {tvk : TV} (hm : P.follows .mixedOrders = true)
    (hB : (backB [om, ok, ol, oa, oe, ox, os].toArray && decide (6 < [om, ok, ol, oa, oe, ox, os].length) && dstsB ([om, ok, ol, oa, oe, ox, os].take 6) [d0, d1, d2, d3, d4, d5] && Region.sinkB .any [om, ok, ol, oa, oe, ox, os].toArray 6 && Region.chainB .any [om, ok, ol, oa, oe, ox, os].toArray 6 && Region.seqB .any [om, ok, ol, oa, oe, ox, os].toArray ([om, ok, ol, oa, oe, ox, os].length - 6) 6 (headOf 6 [om, ok, ol, oa, oe, ox, os].length)) = true)
    (hg : ([om, ok, ol, oa, oe, ox, os].all fun o => o.guard.isNone) = true) (hdb : (depB ol 0 && depB ol 1 && depB oa 2 && depB oe 0 && depB oe 1 && depB ox 4) = true) (hoff : (offB [d0, d1, d2, d3, d4, d5] m && offB [d0, d1, d2, d3, d4, d5] src && offB [d0, d1, d2, d3, d4, d5] y) = true)
    (hm0 : om.op = .move m) (hk0 : ok.op = .load tk0 src) (hl0 : ol.op = .lookup t (.tmp d0) (.tmp d1) false) (he0 : oe.op = .mapEntry t (.tmp d0) (.tmp d1)) (hx0 : ox.op = .extract (.tmp d4) 1) (hs0 : os.op = .entryStore t (.tmp d0) (.tmp d5) (.tmp d3)) (hsd : os.dst = none)
    (hsz : ([d0, d1, d2, d3, d4, d5].all fun d => Nat.blt d σ.s.length) = true)
    (hma : tev σ.s m = .row i) (hya : tev σ.s y = .v yv) (hi : hf σ.h i = .ext (mapX P k e n D))
    (hT : ∀ X, TStep P B w0 (σ.h.set i (.ext X)) σ.s ok tvk none) (hkey0 : ∀ (C : Cx) (v : Value), Dn C tvk v → v = key)
    (hadd : ∀ (ev : Operand → Value) (w : World), ev (.tmp d2) = u → ev y = yv → (execOp ev oa).run P w = .ok (.value val) w)
    (K : KeyLaw P k) (ht : P.underlying t = some (.map k e)) (hz : ∀ w, (zeroValue e).run P w = .ok z w) (hzd : plainElem (H := Unit) P e z = some (zd, [])) (hn : n < maxLen) (hkey : keyOf P k key = some kl)
    (hu : ∀ v ps, plainElem (H := Unit) P e v = some (D.atKey kl zd, ps) → v = u) (hval : plainElem (H := Unit) P e val = some (d, ps))
    (h : Q .normal ⟨anyS σ.s [d0, d1, d2, d3, d4, d5], σ.h.set i (.ext (mapX P k e (n + 1) (D.put kl d))), σ.g⟩) : TA P B w0 gh [om, ok, ol, oa, oe, ox, os].toArray σ Q := fun ρ a w hr => by
  have e1 := tev_dn hr.slots m
  have e2 := tev_dn hr.slots y
  rw [hma] at e1
  rw [hya] at e2
  simp only [Dn] at e1 e2
  obtain ⟨g, e3, hown⟩ := (hr.rel.ext i _ hi).q
  obtain ⟨es, es1, clock, clock1, st, hb, hlk, hst⟩ := bump_core K ht hz hzd hown hn hkey hu hval
  have e1' : a.eval m = .map (some g) := e1.2.trans e3
  have hR1 : ∀ w1, BR g es es1 clock clock1 w w1 → RelS B w0 gh ρ ⟨σ.s, σ.h.set i (.ext (bumpX g es es1 clock clock1)), σ.g⟩ a w1 := fun w1 hw1 =>
    hr.turnX hi (g := g) e3 hw1.1 (fun k hk => hk) rfl ⟨e3, hw1.or hb⟩
  have hgsz : g < w.heap.size := (Array.getElem?_eq_some_iff.1 hb).1
  have htsz : a.tmps.size = σ.s.length := by have := hr.slots.len; simpa using this
  simp only [List.all_cons, List.all_nil, Bool.and_true, Bool.and_eq_true, Option.isNone_iff_eq_none] at hg hdb hoff hsz
  obtain ⟨g0, g1, g2, g4, g5, g6, g7⟩ := hg
  obtain ⟨⟨⟨⟨⟨b1, b2⟩, b3⟩, b5⟩, b6⟩, b7⟩ := hdb
  obtain ⟨⟨o1, o2⟩, o3⟩ := hoff
  obtain ⟨z0, z1, z2, z4, z5, z6⟩ := hsz
  have zz : ∀ {d : Nat}, Nat.blt d σ.s.length = true → d < a.tmps.size := fun h => by rw [htsz]; exact Nat.le_of_ble_eq_true h
  have hnd : [d0, d1, d2, d3, d4, d5].Nodup := by
    simp only [Bool.and_eq_true, dstsB, decide_eq_true_eq] at hB
    exact hB.1.1.1.2.2
  refine wpAny_parR_tail (R := BR g es es1 clock clock1) 6 [d0, d1, d2, d3, d4, d5] (fun _ => false) (bPhi [some (.map (some g)), some key, some u, some val, none, some (goInt st)] (.tuple #[u, goInt st]) g es1 clock1) (BR.drew w) (fun _ _ _ => BR.trans) (fun _ _ h => h.1.size) hm hB ?_ ?_ ?_
  · intro j v w1 w2 h1 h2
    unfold bPhi at h1 ⊢
    split <;> simp_all
    exact h2.2.2 h1.2
  · simp only [List.take_succ_cons, List.take_zero, StepsParR]
    refine ⟨?_, ?_, ?_, ?_, ?_, ?_, trivial⟩
    · exact bump_pure g0 rfl hb fun x w1 hb1 hd => by simp [execOp, hm0, eval_off o1, e1']
    · refine fun x w1 hb1 hd K' hK => ?_
      have hwt : Region.wanted ok (yielded [om, ok, ol, oa, oe, ox, os].toArray (frameOf a [d0, d1, d2, d3, d4, d5] x).tmps) = true := by simp [Region.wanted, g1]
      rw [if_pos hwt]
      have R1 := hR1 w1 hb1
      refine hT (bumpX g es es1 clock clock1) ρ _ w1 _ (fun _ _ => .inr rfl) (fun e => by cases e) R1.rel (fun q hq => ?_) K' _ fun u' w' ρ' R' KK bel dn => ?_
      · have : q = src := by simpa [hk0, Op.operands] using hq
        subst this
        rw [eval_off o2]
        exact tev_dn R1.slots q
      · exact hK u' w' (by show u' = key; exact hkey0 _ _ dn) (.same bel (by have := hb1.1.size; omega)) (fun e => by cases e)
    · refine bump_pure g2 rfl hb fun x w1 hb1 hd => ?_
      have q0 : (frameOf a [d0, d1, d2, d3, d4, d5] x).eval (.tmp d0) = .map (some g) := (eval_at (j := 0) hnd rfl (zz z0)).trans (bPhi_at b1 rfl hd)
      have q1 : (frameOf a [d0, d1, d2, d3, d4, d5] x).eval (.tmp d1) = key := (eval_at (j := 1) hnd rfl (zz z1)).trans (bPhi_at b2 rfl hd)
      simp [execOp, hl0, q0, q1, (hlk w1 (hb1.or hb)).1]
    · refine bump_pure g4 rfl hb fun x w1 hb1 hd => ?_
      exact hadd _ _ ((eval_at (j := 2) hnd rfl (zz z2)).trans (bPhi_at b3 rfl hd)) ((eval_off o3).trans e2)
    · exact bump_ent g5 he0 b5 b6 hnd rfl rfl (zz z0) (zz z1) rfl rfl rfl hb fun w1 hw1 => (hlk w1 hw1).2
    · refine bump_pure g6 rfl hb fun x w1 hb1 hd => ?_
      obtain ⟨e', f1, f2, f3⟩ := depB_spec b7
      have h5 := hd e' f1 f3
      rw [f2] at h5
      have q5 : (frameOf a [d0, d1, d2, d3, d4, d5] x).eval (.tmp d4) = .tuple #[u, goInt st] := (eval_at (j := 4) hnd rfl (zz z5)).trans h5.1
      simp [execOp, hx0, q5, Instr.extract]
  · intro x w' hR hΦ _
    have h0 : x 0 = .map (some g) := by have := hΦ 0 (by omega); simpa [bPhi] using this
    have h4 : x 3 = val := by have := hΦ 3 (by omega); simpa [bPhi] using this
    have h5 : x 4 = .tuple #[u, goInt st] ∧ w'.heap[g]? = some (.map es1 clock1) := by have := hΦ 4 (by omega); simpa [bPhi] using this
    have h6 : x 5 = goInt st := by have := hΦ 5 (by omega); simpa [bPhi] using this
    obtain ⟨w2, r1, r2, r3⟩ := hst w' h5.2
    simp only [List.drop_succ_cons, List.drop_zero]
    refine wpList_plain g7 fun K' hK => ?_
    unfold Oper.wp
    have q0 : (frameOf a [d0, d1, d2, d3, d4, d5] x).eval (.tmp d0) = .map (some g) := (eval_at (j := 0) hnd rfl (zz z0)).trans h0
    have q4 : (frameOf a [d0, d1, d2, d3, d4, d5] x).eval (.tmp d3) = val := (eval_at (j := 3) hnd rfl (zz z4)).trans h4
    have q6 : (frameOf a [d0, d1, d2, d3, d4, d5] x).eval (.tmp d5) = goInt st := (eval_at (j := 5) hnd rfl (zz z6)).trans h6
    have hr2 : (execOp (frameOf a [d0, d1, d2, d3, d4, d5] x).eval os).run P w' = .ok .skip w2 := by simp [execOp, hs0, q0, q4, q6, r1]
    rw [hr2]
    have hg2 : w.grownBy w2 (some g) := hR.1.trans r2
    have hrr := hr.turnX (x' := mapX P k e (n + 1) (D.put kl d)) hi (g := g) e3 hg2 (fun k hk => hk) rfl ⟨g, e3, r3⟩
    refine hK _ _ ?_
    rw [hsd]
    have hfin := hrr.frame (ds := [d0, d1, d2, d3, d4, d5]) (x := x)
    show liftQ B w0 gh Q .normal ((frameOf a [d0, d1, d2, d3, d4, d5] x).put none _) w2
    exact ⟨_, ρ, h, hfin⟩
end
end Go.Proofs.Ytmhmldpccccjbaa
