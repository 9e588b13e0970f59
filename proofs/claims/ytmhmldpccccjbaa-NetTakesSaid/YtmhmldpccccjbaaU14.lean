/- Functions that take a local row and hand it back with an element more, or less. No condition. -/
import Derived.Test.YtmhmldpccccjbaaU4
namespace Go.Proofs.Ytmhmldpccccjbaa
open Go.RowKit
set_option linter.unusedVariables false
set_option linter.unusedSimpArgs false

/-- slices.Insert of one element, as it is asked of. -/
def InsC (P : Program) (f : FuncId) (e : TypeId) (sz : Nat) : Prop := ∀ (base : Nat) (A : Option Addr) (n c k vb vc : Nat) (xs vs : List Value) (w : World), w.ownsRow base e sz (.slice A n c) n xs → w.ownsRow base e sz (.slice (some ⟨vb, 0, none⟩) 1 vc) 1 vs → (∀ g, Value.ownBlock (.slice A n c) = some g → vb ≠ g) →
  base ≤ w.heap.size → k ≤ n → n ≤ 100000 → (∀ v ∈ xs, v.oneCell' = true) → (∀ v ∈ vs, v.oneCell' = true) →
  Calls P f #[.slice A n c, .int .i64 k, .slice (some ⟨vb, 0, none⟩) 1 vc] w fun e' w' => ∃ A' c', e' = .returned (.slice A' (n + 1) c') ∧ w'.ownsRow base e sz (.slice A' (n + 1) c') (n + 1) (xs.take (k * sz) ++ vs ++ xs.drop (k * sz)) ∧ w.grownBy w' (Value.ownBlock (.slice A n c)) ∧
    (Value.ownBlock (.slice A' (n + 1) c') = Value.ownBlock (.slice A n c) ∨ Value.ownBlock (.slice A' (n + 1) c') = some w.heap.size)
/-- slices.Delete of one element. -/
def DelC (P : Program) (f : FuncId) (e : TypeId) (sz : Nat) : Prop := ∀ (base : Nat) (A : Option Addr) (n c k : Nat) (xs : List Value) (w : World), w.ownsRow base e sz (.slice A n c) n xs → k < n → n ≤ 100000 → (∀ v ∈ xs, v.oneCell' = true) →
  Calls P f #[.slice A n c, .int .i64 k, .int .i64 ((k : Int) + 1)] w fun e' w' => e' = .returned (.slice A (n - 1) c) ∧ w'.ownsRow base e sz (.slice A (n - 1) c) (n - 1) (xs.take (k * sz) ++ xs.drop ((k + 1) * sz)) ∧ w.grownBy w' (Value.ownBlock (.slice A n c))

section
variable {P : Program} {B : Nat} {w0 : World} {gh : List Value}
/-- A local row that was handed to a function and came back another one. -/
theorem RelS.renew {σ : St} {ρ : Nat → Value} {a : Act} {w : World} (hr : RelS B w0 gh ρ σ a w) {i : Nat} {e0 : TypeId} {sz : Nat} {els els' : List (List TV)} (hi : hf σ.h i = .row e0 sz els) {A A' : Option Addr} {c c' : Nat} {css css' : List (List Value)} {w' : World} (r1 : ρ i = .slice A els.length c) (r2 : w.ownsRow B e0 sz (.slice A els.length c) els.length css.flatten)
    (hown : w'.ownsRow B e0 sz (.slice A' els'.length c') els'.length css'.flatten) (hgr : w.grownBy w' (Value.ownBlock (.slice A els.length c))) (hor : Value.ownBlock (.slice A' els'.length c') = Value.ownBlock (.slice A els.length c) ∨ Value.ownBlock (.slice A' els'.length c') = some w.heap.size)
    (r3 : ∀ y ∈ css', y.length = sz) (r4 : DnLL (cxOf B ρ (hf σ.h) w) els' css') (dst : Option Tmp) :
    RelS B w0 gh (updf ρ i (.slice A' els'.length c')) ⟨match dst with | some d => (kpL (bar i) σ.s).set d (.row i) | none => kpL (bar i) σ.s, (σ.h.map (LB.kp (bar i))).set i (.row e0 sz (kpLL (bar i) els')), kpL (bar i) σ.g⟩ (a.put dst (.slice A' els'.length c')) w' := by
  have R := hr.rel
  have hhere : (hf σ.h i).here := by rw [hi]; trivial
  have hblk : blkOf (ρ i) = Value.ownBlock (.slice A els.length c) := by rw [r1]; cases A <;> rfl
  have hown' : blkOf (.slice A' els'.length c') = Value.ownBlock (.slice A' els'.length c') := by cases A' <;> rfl
  have hBn : ∀ g, blkOf (ρ i) = some g → B ≤ g := fun g hgg => by
    rw [hblk] at hgg
    exact (r2.lt g hgg).1
  have hr' : ∀ g, blkOf (.slice A' els'.length c') = some g → g < w'.heap.size ∧ (blkOf (ρ i) = some g ∨ w.heap.size ≤ g) := fun g hgg => by
    rw [hown'] at hgg
    refine ⟨(hown.lt g hgg).2, ?_⟩
    rw [hblk]
    rcases hor with h1 | h1
    · exact .inl (h1 ▸ hgg)
    · rw [h1] at hgg
      injection hgg with hgg
      exact .inr (by omega)
  have hgr' : w.grownBy w' (blkOf (ρ i)) := by rw [hblk]; exact hgr
  have hil : i < σ.h.length := hf_lt hi (by simp)
  have KK : Keeps ((cxOf B ρ (hf σ.h) w).less (bar i)) (cxOf B (updf ρ i (.slice A' els'.length c')) (updf (fun j => (hf σ.h j).kp (bar i)) i (.row e0 sz (kpLL (bar i) els'))) w') := .renew hhere hgr' (fun g hgg => (hr' g hgg).2)
  refine ⟨?_, ?_, ?_, by rw [put_defers]; exact hr.defers⟩
  · simp only [hf_map_set hil]
    refine put_dn (DnL.keep KK _ _ (DnL.kp (bar i) _ _ hr.slots)) ?_
    simp only [Dn]
    refine ⟨?_, ?_⟩
    · show LB.here (updf _ i _ i)
      rw [updf_same]; trivial
    · show _ = updf ρ i _ i
      rw [updf_same]
  · simp only [hf_map_set hil]
    exact DnL.keep KK _ _ (DnL.kp (bar i) _ _ hr.ghost)
  · simp only [hf_map_set hil]
    refine R.renew hhere hgr' hBn hr' (fun t cs e => by cases e) (fun e sz els2 e' => ?_)
    injection e' with e2 e3 e4
    subst e2 e3 e4
    refine ⟨A', c', css', by simp [kpLL_len], ?_, r3, DnLL.keep KK _ _ (DnLL.kp (bar i) _ _ r4)⟩
    have : (kpLL (bar i) els').length = els'.length := by simp [kpLL_len]
    rw [this]
    exact hown
theorem flat_take {α : Type} {sz : Nat} : ∀ {css : List (List α)} (k : Nat), (∀ x ∈ css, x.length = sz) → css.flatten.take (k * sz) = (css.take k).flatten
  | [], k, _ => by simp
  | x :: css, 0, _ => by simp
  | x :: css, k + 1, h => by
    have hx := h x (by simp)
    simp only [List.flatten_cons, List.take_succ_cons]
    rw [Nat.succ_mul, Nat.add_comm, ← hx, List.take_length_add_append, hx, flat_take k fun y hy => h y (by simp [hy])]
theorem flat_drop {α : Type} {sz : Nat} : ∀ {css : List (List α)} (k : Nat), (∀ x ∈ css, x.length = sz) → css.flatten.drop (k * sz) = (css.drop k).flatten
  | [], k, _ => by simp
  | x :: css, 0, _ => by simp
  | x :: css, k + 1, h => by
    have hx := h x (by simp)
    simp only [List.flatten_cons, List.drop_succ_cons]
    rw [Nat.succ_mul, Nat.add_comm, ← hx, List.drop_length_add_append, hx, flat_drop k fun y hy => h y (by simp [hy])]
end
section
variable {P : Program} {B : Nat} {w0 : World} {T : Tab} {n : Nat} {e : Env} {h : List XLB} {gs : Frames}
theorem WCall.ins {f : FuncId} {e0 : TypeId} {sz : Nat} (hC : InsC P f e0 sz) (hE : entB P f = true) {i j : Nat} {k : Nat} {hpk : Nl (.v (.int .i64 (k : Int)))} {els els' : List (List TV)} {hpe : NlLL els} {y : List TV} {hpy : NlLL [y]} {dst : Option Tmp} {K : KK} (hne : Nat.beq i j = false)
    (hi : hget h i = .row e0 sz els hpe) (hj : hget h j = .row e0 sz [y] hpy) (hk : k ≤ els.length) (hn : els.length ≤ 100000) (h1 : ∀ c ∈ els, c.all TV.one = true) (h2 : y.all TV.one = true) (he : els.take k ++ [y] ++ els.drop k = els') (hp' : NlLL els')
    (hx : turnK (kpX i) e h gs fun e' h' gs' => setK h' i (.row e0 sz els' hp') fun h'' => putK n e' dst (.row i) fun e'' => K e'' h'' gs') : WCall P B w0 f [.row i, .p (.v (.int .i64 (k : Int))) hpk, .row j] n e h gs dst K := ⟨by
  intro gh Q ops rest o cl fop cvs hg ho hcl hf hvs hdst hK ρ a w hr
  subst hdst
  have hi2 : Go.Proofs.Ytmhmldpccccjbaa.hf (h.map XLB.den) i = .row e0 sz els := by rw [← hget_den, hi]; rfl
  have hj2 : Go.Proofs.Ytmhmldpccccjbaa.hf (h.map XLB.den) j = .row e0 sz [y] := by rw [← hget_den, hj]; rfl
  have hij : i ≠ j := fun e => by subst e; simp at hne
  refine wpList_plain hg fun K0 hK0 => ?_
  have e1 : XV.denL [XV.row i, .p (.v (.int .i64 (k : Int))) hpk, .row j] = cl.args.toList.map (tev (toL n e)) ++ XV.denL cvs := by rw [hvs, denL_map (_ ++ _), List.map_append, ← denL_map, ← denL_map, evL_den]
  have g1 := tev_dn hr.slots fop
  rw [show (xst n e h gs).s = toL n e from rfl, hf] at g1
  simp only [Dn] at g1
  obtain ⟨cv, g2, g3⟩ := g1
  have g4 : DnL (cxOf B ρ (Go.Proofs.Ytmhmldpccccjbaa.hf (h.map XLB.den)) w) (cl.args.toList.map (tev (toL n e)) ++ XV.denL cvs) (cl.args.toList.map a.eval ++ cv) := (eval_list _ fun x _ => tev_dn hr.slots x).append g3
  rw [← e1] at g4
  simp only [XV.denL, XV.den, DnL, Dn] at g4
  obtain ⟨u0, us0, e2, ⟨_, rfl⟩, u1, us1, rfl, rfl, u2, us2, rfl, ⟨_, rfl⟩, rfl⟩ := g4
  obtain ⟨A, c, css, r1, r2, r3, r4⟩ := hr.rel.row i _ _ _ hi2
  obtain ⟨A2, c2, css2, s1, s2, s3, s4⟩ := hr.rel.row j _ _ _ hj2
  rw [show (cxOf B ρ (Go.Proofs.Ytmhmldpccccjbaa.hf (h.map XLB.den)) w).ρ i = ρ i from rfl, show (cxOf B ρ (Go.Proofs.Ytmhmldpccccjbaa.hf (h.map XLB.den)) w).ρ j = ρ j from rfl] at e2
  obtain ⟨vb, rfl⟩ : ∃ vb, A2 = some ⟨vb, 0, none⟩ := by
    rw [s1] at s2
    rcases s2.2 with ⟨hv, h0⟩ | ⟨g, cap, cur, hv, _⟩
    · simp at h0
    · injection hv with hv
      exact ⟨g, hv⟩
  obtain ⟨y0, rfl⟩ : ∃ y0, css2 = [y0] := by
    have := s4.len
    match css2, this with
    | [z], _ => exact ⟨z, rfl⟩
  have hvb : ∀ g, Value.ownBlock (.slice A els.length c) = some g → vb ≠ g := fun g hgg e => by
    subst e
    refine hij (hr.rel.sep i j vb (by show LB.here (Go.Proofs.Ytmhmldpccccjbaa.hf (h.map XLB.den) i); rw [hi2]; trivial) (by show LB.here (Go.Proofs.Ytmhmldpccccjbaa.hf (h.map XLB.den) j); rw [hj2]; trivial) ?_ ?_)
    · rw [r1]; cases A with
      | none => cases hgg
      | some ad => exact hgg
    · rw [s1]; rfl
  have R1 := r2
  have R2 := s2
  rw [r1] at R1
  rw [s1] at R2
  have hraw := hC B A els.length c k vb c2 css.flatten [y0].flatten w R1 (by simpa using R2) hvb hr.rel.size hk hn (elems_one hr.rel r4 h1) (elems_one hr.rel s4 (fun c hc => by rw [List.mem_singleton.1 hc]; exact h2))
  unfold Oper.wp
  rw [call_run ho hcl g2 hE]
  unfold Oper.upon
  have e3 : (cl.args.map a.eval ++ cv.toArray) = #[.slice A els.length c, .int .i64 k, .slice (some ⟨vb, 0, none⟩) 1 c2] := by
    apply Array.ext'
    rw [r1, s1] at e2
    simpa using e2
  rw [e3]
  refine hraw.mono ?_
  rintro e' w' ⟨A', c', rfl, ho', hgr, hor⟩
  rw [flat_take k r3, flat_drop k r3, ← List.flatten_append, ← List.flatten_append] at ho'
  have hl' : els'.length = els.length + 1 := by rw [← he]; simp; omega
  have hd' : DnLL (cxOf B ρ (Go.Proofs.Ytmhmldpccccjbaa.hf (h.map XLB.den)) w) els' (css.take k ++ [y0] ++ css.drop k) := by
    rw [← he]
    exact ((DnLL.take k r4).append s4).append (r4.drop k)
  have hr2 := RelS.renew hr hi2 r1 R1 (els' := els') (css' := css.take k ++ [y0] ++ css.drop k) (A' := A') (c' := c') (by rw [hl']; exact ho') hgr (by rw [hl']; exact hor) (fun z hz => by
    rcases List.mem_append.1 hz with hz | hz
    · rcases List.mem_append.1 hz with hz | hz
      · exact r3 z (List.mem_of_mem_take hz)
      · exact s3 z hz
    · exact r3 z (List.mem_of_mem_drop hz)) hd' o.dst
  have hh := setK_ok (k := fun h'' => putK n _ o.dst (.row i) fun e'' => K e'' h'' _) (turnK_ok hx)
  obtain ⟨e'', he', hh⟩ := putK_ok hh
  rw [hl'] at hr2
  have e4 : xst n e'' ((h.map (mapB (kpX i))).set i (.row e0 sz els' hp')) (mapG (kpX i) gs) = ⟨match o.dst with | some d => (kpL (bar i) (xst n e h gs).s).set d (.row i) | none => kpL (bar i) (xst n e h gs).s, ((xst n e h gs).h.map (LB.kp (bar i))).set i (.row e0 sz (kpLL (bar i) els')), kpL (bar i) (xst n e h gs).g⟩ := by
    simp only [xst, he', toL_kp, List.map_set, hmap_kp, denG_kp, XLB.den, XV.den, hp'.k]
    try (cases o.dst <;> rfl)
  rw [← e4] at hr2
  exact hK0 _ _ (hK _ _ _ hh _ _ _ hr2)⟩
theorem WCall.del {f : FuncId} {e0 : TypeId} {sz : Nat} (hC : DelC P f e0 sz) (hE : entB P f = true) {i : Nat} {k : Nat} {m : Int} {hpk : Nl (.v (.int .i64 (k : Int)))} {hpm : Nl (.v (.int .i64 m))} {els els' : List (List TV)} {hpe : NlLL els} {dst : Option Tmp} {K : KK}
    (hm : m = (k : Int) + 1) (hi : hget h i = .row e0 sz els hpe) (hk : k < els.length) (hn : els.length ≤ 100000) (h1 : ∀ c ∈ els, c.all TV.one = true) (he : els.take k ++ els.drop (k + 1) = els') (hp' : NlLL els')
    (hx : turnK (kpX i) e h gs fun e' h' gs' => setK h' i (.row e0 sz els' hp') fun h'' => putK n e' dst (.row i) fun e'' => K e'' h'' gs') : WCall P B w0 f [.row i, .p (.v (.int .i64 (k : Int))) hpk, .p (.v (.int .i64 m)) hpm] n e h gs dst K := ⟨by
  intro gh Q ops rest o cl fop cvs hg ho hcl hf hvs hdst hK ρ a w hr
  subst hdst hm
  have hi2 : Go.Proofs.Ytmhmldpccccjbaa.hf (h.map XLB.den) i = .row e0 sz els := by rw [← hget_den, hi]; rfl
  refine wpList_plain hg fun K0 hK0 => ?_
  have e1 : XV.denL [XV.row i, .p (.v (.int .i64 (k : Int))) hpk, .p (.v (.int .i64 ((k : Int) + 1))) hpm] = cl.args.toList.map (tev (toL n e)) ++ XV.denL cvs := by rw [hvs, denL_map (_ ++ _), List.map_append, ← denL_map, ← denL_map, evL_den]
  have g1 := tev_dn hr.slots fop
  rw [show (xst n e h gs).s = toL n e from rfl, hf] at g1
  simp only [Dn] at g1
  obtain ⟨cv, g2, g3⟩ := g1
  have g4 : DnL (cxOf B ρ (Go.Proofs.Ytmhmldpccccjbaa.hf (h.map XLB.den)) w) (cl.args.toList.map (tev (toL n e)) ++ XV.denL cvs) (cl.args.toList.map a.eval ++ cv) := (eval_list _ fun x _ => tev_dn hr.slots x).append g3
  rw [← e1] at g4
  simp only [XV.denL, XV.den, DnL, Dn] at g4
  obtain ⟨u0, us0, e2, ⟨_, rfl⟩, u1, us1, rfl, rfl, u2, us2, rfl, rfl, rfl⟩ := g4
  obtain ⟨A, c, css, r1, r2, r3, r4⟩ := hr.rel.row i _ _ _ hi2
  rw [show (cxOf B ρ (Go.Proofs.Ytmhmldpccccjbaa.hf (h.map XLB.den)) w).ρ i = ρ i from rfl] at e2
  have R1 := r2
  rw [r1] at R1
  have hraw := hC B A els.length c k css.flatten w R1 hk hn (elems_one hr.rel r4 h1)
  unfold Oper.wp
  rw [call_run ho hcl g2 hE]
  unfold Oper.upon
  have e3 : (cl.args.map a.eval ++ cv.toArray) = #[.slice A els.length c, .int .i64 k, .int .i64 ((k : Int) + 1)] := by
    apply Array.ext'
    rw [r1] at e2
    simpa using e2
  rw [e3]
  refine hraw.mono ?_
  rintro e' w' ⟨rfl, ho', hgr⟩
  rw [flat_take k r3, flat_drop (k + 1) r3, ← List.flatten_append] at ho'
  have hl' : els'.length = els.length - 1 := by rw [← he]; simp; omega
  have hd' : DnLL (cxOf B ρ (Go.Proofs.Ytmhmldpccccjbaa.hf (h.map XLB.den)) w) els' (css.take k ++ css.drop (k + 1)) := by
    rw [← he]
    exact (DnLL.take k r4).append (r4.drop (k + 1))
  have hr2 := RelS.renew hr hi2 r1 R1 (els' := els') (css' := css.take k ++ css.drop (k + 1)) (A' := A) (c' := c) (by rw [hl']; exact ho') hgr (.inl (by cases A <;> rfl)) (fun z hz => by
    rcases List.mem_append.1 hz with hz | hz
    · exact r3 z (List.mem_of_mem_take hz)
    · exact r3 z (List.mem_of_mem_drop hz)) hd' o.dst
  have hh := setK_ok (k := fun h'' => putK n _ o.dst (.row i) fun e'' => K e'' h'' _) (turnK_ok hx)
  obtain ⟨e'', he', hh⟩ := putK_ok hh
  rw [hl'] at hr2
  have e4 : xst n e'' ((h.map (mapB (kpX i))).set i (.row e0 sz els' hp')) (mapG (kpX i) gs) = ⟨match o.dst with | some d => (kpL (bar i) (xst n e h gs).s).set d (.row i) | none => kpL (bar i) (xst n e h gs).s, ((xst n e h gs).h.map (LB.kp (bar i))).set i (.row e0 sz (kpLL (bar i) els')), kpL (bar i) (xst n e h gs).g⟩ := by
    simp only [xst, he', toL_kp, List.map_set, hmap_kp, denG_kp, XLB.den, XV.den, hp'.k]
    try (cases o.dst <;> rfl)
  rw [← e4] at hr2
  exact hK0 _ _ (hK _ _ _ hh _ _ _ hr2)⟩
end
end Go.Proofs.Ytmhmldpccccjbaa
