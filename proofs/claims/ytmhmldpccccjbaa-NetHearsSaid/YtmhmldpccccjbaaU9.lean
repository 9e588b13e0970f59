/- Calls that write numbers over numbers in what was made behind a mark: what is left known. No condition. -/
import Derived.Test.YtmhmldpccccjbaaU8
namespace Go.Proofs.Ytmhmldpccccjbaa
open Go.RowKit
set_option linter.unusedVariables false
set_option linter.unusedSimpArgs false

/-- A cell holds some number. -/
def ICell (w : World) (a : Addr) (k : IntKind) : Prop := ∃ x, w.cell? a = some (.int k x)
theorem ICell.set {w : World} {a q : Addr} {k k' : IntKind} (h : ICell w a k) (hq : ICell w q k') (y : Int) : ICell (w.setCell q (.int k' y)) a k := by
  obtain ⟨x, hx⟩ := h
  obtain ⟨z, hz⟩ := hq
  by_cases e : q = a
  · subst e
    rw [hx] at hz
    injection hz with hz
    injection hz with h1 h2
    subst h1
    exact ⟨y, World.cell?_setCell_same w q _ hx⟩
  · exact ⟨x, (World.cell?_setCell_other w q a _ e).trans hx⟩
theorem cell_set {w : World} {a q : Addr} {k' : IntKind} {A : Option Addr} {n c : Nat} (h : w.cell? a = some (.slice A n c)) (hq : ICell w q k') (y : Int) : (w.setCell q (.int k' y)).cell? a = some (.slice A n c) := by
  obtain ⟨z, hz⟩ := hq
  by_cases e : q = a
  · subst e
    rw [h] at hz
    cases hz
  · exact (World.cell?_setCell_other w q a _ e).trans h
theorem Unf.set {w : World} {k : Nat} (h : Unf w k) (q : Addr) (u : Value) : Unf (w.setCell q u) k := by
  obtain ⟨cur, ty, h⟩ := h
  by_cases e : k = q.block
  · subst e
    refine ⟨if q.spot.isSome then cur else cur.setIfInBounds q.off u, ty, ?_⟩
    unfold World.setCell
    simp only [Array.getElem?_modify, if_true, h, Option.map_some]
  · exact ⟨cur, ty, by rw [Below.heap_setCell w q u k e]; exact h⟩
theorem Unf.frozen {w : World} {a : Addr} (h : Unf w a.block) : w.frozen? a = false := by
  obtain ⟨cur, ty, h⟩ := h
  unfold World.frozen?
  rw [h]
  simp
theorem ICell.grow {w w' : World} {a : Addr} {k : IntKind} (h : ICell w a k) (hb : Below w.heap.size w w') : ICell w' a k := by
  obtain ⟨x, hx⟩ := h
  exact ⟨x, (hb.cell (World.block_lt_of_cell? w a hx)).trans hx⟩
theorem Unf.lt_ {w : World} {k : Nat} (h : Unf w k) : k < w.heap.size := by
  obtain ⟨cur, ty, h⟩ := h
  exact (Array.getElem?_eq_some_iff.1 h).1
theorem Unf.grow {w w' : World} {k : Nat} (h : Unf w k) (hb : Below w.heap.size w w') : Unf w' k := by
  unfold Unf
  rw [hb.block k h.lt_]
  exact h
/-- Numbers are written over numbers, and nothing else, in what was made behind a mark. -/
structure Shp (M : Nat) (w w' : World) : Prop where
  below : Below M w w'
  cell : ∀ a v, w.cell? a = some v → w'.cell? a = some v ∨ ∃ k x y, v = .int k x ∧ w'.cell? a = some (.int k y)
  unf : ∀ k, Unf w k → Unf w' k
theorem Shp.refl (M : Nat) (w : World) : Shp M w w := ⟨Below.refl _ _, fun _ _ h => .inl h, fun _ h => h⟩
theorem Shp.grow {M : Nat} {w w' w2 : World} (h : Shp M w w') (hM : M ≤ w'.heap.size) (hb : Below w'.heap.size w' w2) : Shp M w w2 where
  below := h.below.trans (hb.mono hM)
  cell a v hv := by
    have key : ∀ u, w'.cell? a = some u → w2.cell? a = some u := fun u hu => (hb.cell (World.block_lt_of_cell? w' a hu)).trans hu
    rcases h.cell a v hv with h1 | ⟨k, x, y, h1, h2⟩
    · exact .inl (key _ h1)
    · exact .inr ⟨k, x, y, h1, key _ h2⟩
  unf k hk := (h.unf k hk).grow hb
theorem Shp.set {M : Nat} {w w' : World} (h : Shp M w w') {q : Addr} (hq : M ≤ q.block) {k : IntKind} (hc : ICell w' q k) (y : Int) : Shp M w (w'.setCell q (.int k y)) where
  below := h.below.setCell hq _
  cell a v hv := by
    obtain ⟨z, hz⟩ := hc
    by_cases e : q = a
    · subst e
      rcases h.cell q v hv with h1 | ⟨k', x, y', h1, h2⟩
      · rw [hz] at h1
        injection h1 with h1
        exact .inr ⟨k, z, y, h1.symm, World.cell?_setCell_same w' q _ hz⟩
      · rw [hz] at h2
        injection h2 with h2
        injection h2 with h2 h3
        subst h2
        exact .inr ⟨k, x, y, h1, World.cell?_setCell_same w' q _ hz⟩
    · rcases h.cell a v hv with h1 | ⟨k', x, y', h1, h2⟩
      · exact .inl ((World.cell?_setCell_other w' q a _ e).trans h1)
      · exact .inr ⟨k', x, y', h1, (World.cell?_setCell_other w' q a _ e).trans h2⟩
  unf k' hk := (h.unf k' hk).set q _
/-- A function that writes numbers over numbers in what was made behind a mark. -/
def SpB (P : Program) (f : FuncId) (ts : List TV) : Prop := entB P f = true ∧ ∀ (C : Cx) (vals : List Value), C.B ≤ C.w.heap.size → DnL C ts vals → Calls P f vals.toArray C.w fun e w' => e = .returned (.tuple #[]) ∧ Shp C.B C.w w'
theorem SpB.sp {P : Program} {f : FuncId} {ts : List TV} (h : SpB P f ts) : SpM P f ts := ⟨h.1, fun C vals hB hd => (h.2 C vals hB hd).mono fun e w' hh => ⟨hh.1, hh.2.below⟩⟩
section
variable {P : Program} {B : Nat} {w0 : World} {T : Tab} {n : Nat} {e : Env} {h : List XLB} {gs : Frames} {K : XQ} {c : Code}
/-- Nothing is known of local blocks any more. -/
theorem XT.clear (hx : forceE (mapE (lowX 0) e) fun e' => XT P B w0 n c e' [] (mapG (lowX 0) gs) K) : XT P B w0 n c e h gs K := ⟨fun gh Q hq => by
  have hx := forceE_ok (k := fun e' => XT P B w0 n c e' [] (mapG (lowX 0) gs) K) hx
  refine TW.le (hx.ok gh Q hq) ?_
  have key : ∀ (m : Nat) (e : Env), toL m (mapE (lowX 0) e) = kpL (low 0) (toL m e) := fun m e => by
    rw [kpL_map]
    simp only [toL, List.map_map]
    exact List.map_congr_left fun d _ => by simp only [Function.comp, look_map (f := lowX 0) rfl, lowX_den]
  have key2 : ∀ gs : Frames, denG (mapG (lowX 0) gs) = kpL (low 0) (denG gs) := by
    intro gs
    induction gs with
    | nil => rfl
    | cons f r ih => simp only [mapG, denG, key, ih, kpL_map, List.map_append]
  have lr : ∀ l : List TV, LeL l l := fun l => leL_of rfl fun i t t' h1 h2 => by rw [h1] at h2; injection h2 with h2; exact .inr (.inl h2)
  refine SLe.back (σ := xst n e h gs) 0 ?_ (by simp [xst, LeB]) ?_
  · show LeL _ (toL n (mapE (lowX 0) e))
    rw [key]; exact lr _
  · show LeL _ (denG (mapG (lowX 0) gs))
    rw [key2]; exact lr _⟩
def keepE (e : Env) : List Nat → Env
  | [] => []
  | k :: r => (k, lowX 0 (look e k)) :: keepE e r
theorem keepE_look : ∀ {ks : List Nat} {e b : Env} (d : Nat), look (keepE e ks ++ b) d = lowX 0 (look e d) ∨ look (keepE e ks ++ b) d = look b d
  | [], e, b, d => .inr rfl
  | k :: r, e, b, d => by
    by_cases hd : k = d
    · subst hd
      exact .inl (look_same (keepE e r ++ b) k (lowX 0 (look e k)))
    · have : Go.Proofs.Ytmhmldpccccjbaa.look (keepE e (k :: r) ++ b) d = Go.Proofs.Ytmhmldpccccjbaa.look (keepE e r ++ b) d := look_ne (keepE e r ++ b) (lowX 0 (look e k)) hd
      rw [this]
      exact keepE_look d
theorem sp_le (v : XV) : LeT (kp (low 0) v.den) (spX v).den := by
  cases v <;> first | exact .inl rfl | exact .inr (.inl rfl) | (rename_i t hp; cases t <;> first | exact .inl rfl | exact .inr (.inl rfl))
/-- Nothing is known of local blocks any more, and of slots but plain ones, pins, and some. -/
theorem XT.clear2 (ks : List Nat) (hx : forceE (keepE e ks ++ mapE spX e) fun e' => XT P B w0 n c e' [] (anyG gs) K) : XT P B w0 n c e h gs K := ⟨fun gh Q hq => by
  have hx := forceE_ok (k := fun e' => XT P B w0 n c e' [] (anyG gs) K) hx
  refine TW.le (hx.ok gh Q hq) ?_
  refine SLe.back (σ := xst n e h gs) 0 ?_ (by simp [xst, LeB]) ?_
  · refine leL_of (by simp [xst, kpL_map, toL]) fun i t t' h1 h2 => ?_
    have h3 := toL_at h2
    rw [kpL_map, List.getElem?_map] at h1
    cases h4 : (xst n e h gs).s[i]? with
    | none => rw [h4] at h1; cases h1
    | some t0 =>
      rw [h4] at h1
      simp only [Option.map_some, Option.some.injEq] at h1
      obtain ⟨_, rfl⟩ := toL_at h4
      rw [← h1, h3.2]
      rcases keepE_look (ks := ks) (e := e) (b := mapE spX e) i with h5 | h5
      · rw [h5, lowX_den]; exact .inr (.inl rfl)
      · rw [h5, look_map (f := spX) rfl]; exact sp_le _
  · show LeL (kpL (low 0) (denG gs)) (denG (anyG gs))
    have key : ∀ gs : Frames, LeL (kpL (low 0) (denG gs)) (denG (anyG gs)) := by
      intro gs
      induction gs with
      | nil => rfl
      | cons f r ih =>
        simp only [denG, anyG, kpL_map, List.map_append] at ih ⊢
        refine LeL.append (leL_of (by simp [toL]) fun i t t' h1 h2 => ?_) ih
        obtain ⟨_, rfl⟩ := toL_at h2
        exact .inl rfl
    exact key gs⟩
theorem spb_enters {w0 : World} {h : List LB} {s : List TV} {o : Oper} {cl : Call} {fop : Operand} {f : FuncId} {caps ts : List TV} (ho : o.op = .call cl) (hcl : cl.callee = .value fop) (hf : tev s fop = .fn (.func f) caps) (hE : entB P f = true)
    (ha : argPL h (cl.args.toList.map (tev s) ++ caps) = some ts) (hm : ∀ (C : Cx) (vals : List Value), C.B ≤ C.w.heap.size → DnL C ts vals → Calls P f vals.toArray C.w fun e w' => e = .returned (.tuple #[]) ∧ Shp C.B C.w w') {ρ : Nat → Value} {h' : Nat → LB} {w : World} {a : Act} (H : HS h h') (R : Rel B w0 ρ h' w) (hx : ∀ x ∈ o.op.operands.toList, Dn (cxOf B ρ h' w) (tev s x) (a.eval x))
    {K : Act → World → Prop} {Q : Exit → Act → World → Prop} (hK : ∀ w', Shp B w w' → K (a.put o.dst (.tuple #[])) w') : o.wp P a w K Q := by
  have h1 := hx fop (by simp [ho, Op.operands, Call.operands, hcl])
  rw [hf] at h1
  simp only [Dn] at h1
  obtain ⟨cv, h2, h3⟩ := h1
  have h4 : DnL (cxOf B ρ h' w) (cl.args.toList.map (tev s) ++ caps) (cl.args.toList.map a.eval ++ cv) := (eval_list _ fun x hx' => hx x (by simp [ho, Op.operands, Call.operands, hcl] at hx' ⊢; exact .inr hx')).append h3
  have h5 := argPL_dn H R _ _ _ ha h4
  have h6 := hm (cxAll B ρ h' w) _ R.size h5
  have e1 : (cl.args.map a.eval ++ cv.toArray) = (cl.args.toList.map a.eval ++ cv).toArray := by
    apply Array.ext'
    simp
  unfold Oper.wp
  rw [call_run ho hcl h2 hE]
  unfold Oper.upon
  rw [e1]
  refine h6.mono ?_
  rintro e w' ⟨rfl, hb⟩
  exact hK w' hb
/-- One slot's value is known by its shape behind the call. -/
theorem WCall.spoilB {f : FuncId} {vs : List XV} {dst : Option Tmp} {k : KK} {ts : List TV} {Y : Type} (d : Nat) (v : Y → XV) (r : Y → Prop) (hs : SpB P f ts) (ha : argPL (h.map XLB.den) (XV.denL vs) = some ts) (hd : Nat.blt d n = true)
    (hbl : ∀ (C C' : Cx) (u : Value), Shp C.B C.w C'.w → C'.B = C.B → (∀ k, C'.S k) → Dn C (look e d).den u → ∃ y, r y ∧ Dn C' (v y).den u) (hk : ∀ y, r y → forceE ((d, v y) :: mapE spX e) fun e2 => putK n e2 dst .any fun e' => k e' [] (anyG gs)) : WCall P B w0 f vs n e h gs dst k := ⟨by
  intro gh Q ops rest o cl fop cvs hg ho hcl hf hvs hdst hK ρ a w hr
  subst hdst
  refine wpList_plain hg fun K0 hK0 => ?_
  have e1 : XV.denL vs = cl.args.toList.map (tev (toL n e)) ++ XV.denL cvs := by rw [hvs, denL_map (_ ++ _), List.map_append, ← denL_map, ← denL_map, evL_den]
  rw [e1] at ha
  refine spb_enters ho hcl hf hs.1 ha hs.2 (fun i _ => .inr rfl) hr.rel (fun x _ => tev_dn hr.slots x) fun w' hb => ?_
  have hdn := Nat.blt_eq.mp hd
  obtain ⟨u, hu, hu2⟩ := hr.slots.at_ d _ (toL_get? e hdn)
  obtain ⟨y, hy, hv⟩ := hbl (cxOf B ρ (Go.Proofs.Ytmhmldpccccjbaa.hf (h.map XLB.den)) w) (cxOf B ρ (Go.Proofs.Ytmhmldpccccjbaa.hf []) w') u hb rfl (fun k i hi => by simp [Go.Proofs.Ytmhmldpccccjbaa.hf, LB.here] at hi) hu2
  obtain ⟨e', he', hk⟩ := putK_ok (forceE_ok (k := fun e2 => putK n e2 o.dst .any fun e' => k e' [] (anyG gs)) (hk y hy))
  have hK := hK _ _ _ hk
  refine hK0 _ _ (hK ρ _ _ ⟨?_, anyG_dn hr.ghost, Rel.none hr.rel.gl0 (hr.rel.below.trans hb.below) (Nat.le_trans hr.rel.size hb.below.size), by rw [put_defers]; exact hr.defers⟩)
  show DnL _ (toL n e') _
  rw [he', toL_set _ _ hdn]
  refine put_dn ?_ (by simp [XV.den, Dn])
  have h1 := (sp_dn (C' := cxOf B ρ (Go.Proofs.Ytmhmldpccccjbaa.hf []) w') hr.slots).set d hv
  have e2 : a.tmps.toList.set d u = a.tmps.toList := by
    apply List.ext_getElem?
    intro i
    rw [List.getElem?_set]
    split
    · rename_i hi; subst hi; split
      · exact hu.symm
      · rename_i h2; rw [List.getElem?_eq_none (by omega)]
    · rfl
  rw [e2] at h1
  exact h1⟩
end
end Go.Proofs.Ytmhmldpccccjbaa
