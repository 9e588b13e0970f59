/- Numbers counted up in place, in bytes made behind a mark, where local blocks stay. No condition. -/
import Derived.Test.YtekpmlfcmnlmiaaGreatDoorU17
import Derived.Test.YtekpmlfcmnlmiaaGreatDoorU17
import Derived.Test.YtekpmlfcmnlmiaaGreatDoorU17
namespace Go.Proofs.YtekpmlfcmnlmiaaGreatDoor
open Go.RowKit
set_option linter.unusedVariables false
set_option linter.unusedSimpArgs false

section
variable {P : Program} {B : Nat} {w0 : World} {n : Nat} {e : Env} {h : List XLB} {gs : Frames}
/-- What local blocks and slots are behind numbers that were written over numbers. -/
theorem shpS_rel {gh : List Value} {ρ : Nat → Value} {a : Act} {w w' : World} {Y : Type} (ds : List (Nat × (Y → List XV))) (ss : List (Nat × (Y → XV))) (r : Y → Prop) (hr : RelS B w0 gh ρ (xst n e h gs) a w) (hb : ShpS (cxOf B ρ (Go.Proofs.YtekpmlfcmnlmiaaGreatDoor.hf (h.map XLB.den)) w).S B w w') (hss : (ss.all fun p => Nat.blt p.1 n) = true) (hcs : (ds.all fun p => isCells (hget h p.1)) = true)
    (hbl : ∀ (C C' : Cx), ShpS C.S C.B C.w C'.w → C'.B = C.B → (∀ k, C.S k → C'.S k) → ∀ (us : Nat → List Value) (xs : Nat → Value), (∀ i t cs, hget h i = .cells t cs → DnL C (XV.denL cs) (us i)) → (∀ p ∈ ss, Dn C (look e p.1).den (xs p.1)) → ∃ y, r y ∧ (∀ i V t cs, dsL ds i = some V → hget h i = .cells t cs → DnL C' (XV.denL (V y)) (us i)) ∧ ∀ p ∈ ss, Dn C' (p.2 y).den (xs p.1)) :
    ∃ y, r y ∧ Rel B w0 ρ (Go.Proofs.YtekpmlfcmnlmiaaGreatDoor.hf ((keepH ds y 0 h).map XLB.den)) w' ∧ DnL (cxOf B ρ (Go.Proofs.YtekpmlfcmnlmiaaGreatDoor.hf ((keepH ds y 0 h).map XLB.den)) w') (toL n (ssE ss y ++ mapE (dgX ds) e)) a.tmps.toList := by
  have R := hr.rel
  have hblk : ∀ i, ∃ us : List Value, ∀ t cs, hget h i = .cells t cs → (∃ g, ρ i = .pointer (some ⟨g, 0, none⟩) ∧ Blk w g t us.toArray ∧ B ≤ g) ∧ DnL (cxOf B ρ (Go.Proofs.YtekpmlfcmnlmiaaGreatDoor.hf (h.map XLB.den)) w) (XV.denL cs) us := fun i => by
    cases hi : hget h i with
    | cells t cs =>
      have h2 : Go.Proofs.YtekpmlfcmnlmiaaGreatDoor.hf (h.map XLB.den) i = .cells t (XV.denL cs) := by rw [← hget_den, hi]; rfl
      obtain ⟨g, us, q1, q2, q3, q4⟩ := R.blk i _ _ h2
      exact ⟨us, fun t' cs' e => by injection e with e1 e2; subst e1 e2; exact ⟨⟨g, q1, q2, q3⟩, q4⟩⟩
    | _ => exact ⟨[], fun t cs e => by cases e⟩
  obtain ⟨us, hus⟩ := Classical.axiomOfChoice hblk
  obtain ⟨xs, hxs⟩ : ∃ xs : Nat → Value, ∀ d (u : Value), a.tmps.toList[d]? = some u → xs d = u := ⟨fun d => (a.tmps.toList[d]?).getD .nilFunc, fun d u hu => by simp [hu]⟩
  have hssn : ∀ p ∈ ss, p.1 < n := fun p hp => Nat.blt_eq.mp (List.all_eq_true.1 hss p hp)
  obtain ⟨hx, hhx⟩ : ∃ hx : Nat → LB, ∀ i, (hx i).here ↔ ∃ V t cs, dsL ds i = some V ∧ hget h i = .cells t cs := by
    classical
    refine ⟨fun i => if ∃ V t cs, dsL ds i = some V ∧ hget h i = .cells t cs then .cells 0 [] else .none, fun i => ?_⟩
    by_cases hc : ∃ V t cs, dsL ds i = some V ∧ hget h i = .cells t cs
    · simp only [if_pos hc]; exact ⟨fun _ => hc, fun _ => trivial⟩
    · simp only [if_neg hc]; exact ⟨fun hh => hh.elim, fun hh => absurd hh hc⟩
  have hin : ∀ i, (hx i).here → (Go.Proofs.YtekpmlfcmnlmiaaGreatDoor.hf (h.map XLB.den) i).here := fun i hi => by
    obtain ⟨V, t, cs, _, h2⟩ := (hhx i).1 hi
    rw [← hget_den, h2]
    trivial
  obtain ⟨y, hy, hy1, hy2⟩ := hbl (cxOf B ρ (Go.Proofs.YtekpmlfcmnlmiaaGreatDoor.hf (h.map XLB.den)) w) (cxOf B ρ hx w') hb rfl (fun k hk i hi => hk i (hin i hi)) us xs (fun i t cs hi => (hus i t cs hi).2) (fun p hp => by
    obtain ⟨u, hu, hu2⟩ := hr.slots.at_ p.1 _ (toL_get? e (hssn p hp))
    rw [hxs _ _ hu]; exact hu2)
  have hden : ∀ i, Go.Proofs.YtekpmlfcmnlmiaaGreatDoor.hf ((keepH ds y 0 h).map XLB.den) i = (keepB ds y i (hget h i)).den := fun i => by rw [← hget_den, keepH_get, Nat.zero_add]
  have hiff : ∀ i, (Go.Proofs.YtekpmlfcmnlmiaaGreatDoor.hf ((keepH ds y 0 h).map XLB.den) i).here ↔ (hx i).here := fun i => by
    rw [hden, hhx]
    cases h2 : hget h i with
    | cells t cs =>
      cases h1 : dsL ds i with
      | none => simp [keepB, h1, XLB.den, LB.here]
      | some V => simp [keepB, h1, XLB.den, LB.here]
    | none => simp [keepB, XLB.den, LB.here]
    | row _ _ _ _ => simp [keepB, XLB.den, LB.here]
  have hC : cxOf B ρ (Go.Proofs.YtekpmlfcmnlmiaaGreatDoor.hf ((keepH ds y 0 h).map XLB.den)) w' = cxOf B ρ hx w' := cxOf_here hiff
  have hcell : ∀ i t cs, Go.Proofs.YtekpmlfcmnlmiaaGreatDoor.hf ((keepH ds y 0 h).map XLB.den) i = .cells t cs → ∃ V cs0, dsL ds i = some V ∧ hget h i = .cells t cs0 ∧ cs = XV.denL (V y) := fun i t cs hi => by
    rw [hden] at hi
    cases h2 : hget h i with
    | cells t2 cs2 =>
      rw [h2] at hi
      cases h1 : dsL ds i with
      | none => simp only [keepB, h1, XLB.den] at hi; cases hi
      | some V =>
        simp only [keepB, h1, XLB.den] at hi
        injection hi with hi1 hi2
        subst hi1 hi2
        exact ⟨V, cs2, rfl, rfl, rfl⟩
    | none => rw [h2] at hi; simp only [keepB, XLB.den] at hi; cases hi
    | row _ _ _ _ => rw [h2] at hi; simp only [keepB, XLB.den] at hi; cases hi
  have hrow : ∀ i e0 sz els, Go.Proofs.YtekpmlfcmnlmiaaGreatDoor.hf ((keepH ds y 0 h).map XLB.den) i ≠ .row e0 sz els := fun i e0 sz els hi => by
    rw [hden] at hi
    cases h2 : hget h i with
    | cells t2 cs2 =>
      rw [h2] at hi
      cases h1 : dsL ds i <;> simp only [keepB, h1, XLB.den] at hi <;> cases hi
    | none => rw [h2] at hi; simp only [keepB, XLB.den] at hi; cases hi
    | row _ _ _ _ => rw [h2] at hi; simp only [keepB, XLB.den] at hi; cases hi
  refine ⟨y, hy, {
    below := R.below.trans hb.s.below
    oth := R.oth.trans hb.s.oth
    gl0 := R.gl0
    size := Nat.le_trans R.size hb.s.below.size
    blk := fun i t cs hi => by
      obtain ⟨V, cs0, h1, h2, rfl⟩ := hcell i t cs hi
      obtain ⟨⟨g, q1, q2, q3⟩, _⟩ := hus i t cs0 h2
      refine ⟨g, us i, q1, ?_, q3, by rw [hC]; exact hy1 i V t cs0 h1 h2⟩
      have hh : (Go.Proofs.YtekpmlfcmnlmiaaGreatDoor.hf (h.map XLB.den) i).here := by rw [← hget_den, h2]; trivial
      have hlt : g < w.heap.size := q2.lt
      show w'.heap[g]? = _
      rw [hb.k g hlt fun hS => hS i hh (by rw [q1]; rfl)]
      exact q2
    row := fun i e0 sz els hi => absurd hi (hrow i e0 sz els)
    sep := fun i j g hi hj h1 h2 => R.sep i j g (hin i ((hiff i).1 hi)) (hin j ((hiff j).1 hj)) h1 h2
    inj := fun i g hi h1 => Nat.lt_of_lt_of_le (R.inj i g (hin i ((hiff i).1 hi)) h1) hb.s.below.size }, ?_⟩
  rw [hC]
  refine DnL.of_at (by rw [hr.slots.len]; exact (toL_len n _).trans (toL_len n e).symm) fun i t u ht hu => ?_
  obtain ⟨hi, rfl⟩ := toL_at ht
  obtain ⟨u', h3, h4⟩ := hr.slots.at_ i _ (toL_get? e hi)
  rw [hu] at h3
  injection h3 with h3
  subst h3
  rcases ssE_look (ss := ss) (y := y) (e := mapE (dgX ds) e) (d := i) with ⟨p, h5, h6, h7⟩ | h5
  · rw [h7]
    have := hy2 p h5
    rwa [h6, hxs i u hu] at this
  · rw [h5, look_map (f := dgX ds) rfl]
    refine dg_dn (C := cxOf B ρ (Go.Proofs.YtekpmlfcmnlmiaaGreatDoor.hf (h.map XLB.den)) w) (fun j hj hpj => ⟨?_, rfl⟩) h4
    show (hx j).here
    rw [hhx]
    cases hd : dsL ds j with
    | none => rw [hd] at hj; cases hj
    | some V =>
      cases h8 : hget h j with
      | cells t cs => exact ⟨V, t, cs, rfl, rfl⟩
      | none => exact absurd hpj (by show ¬ (Go.Proofs.YtekpmlfcmnlmiaaGreatDoor.hf (h.map XLB.den) j).here; rw [← hget_den, h8]; simp [XLB.den, LB.here])
      | row e1 sz els hp => exact absurd (dsL_all (q := fun j => isCells (hget h j)) hcs hd) (by simp [h8, isCells])
end
section
variable {P : Program} {B : Nat} {w0 : World} {gh : List Value} {ops : Array Oper}
end
section
variable {P : Program} {B : Nat} {w0 : World} {T : Tab} {n : Nat} {e : Env} {h : List XLB} {gs : Frames} {K : XQ} {c : Code}
def lowsB (m : Nat) : Env → Bool
  | [] => true
  | x :: r => match lowB m x.2 with
    | true => lowsB m r
    | false => false
theorem memN_iff {d : Nat} : ∀ {ds : List Nat}, memN d ds = true ↔ d ∈ ds
  | [] => by simp [memN]
  | x :: r => by
    simp only [memN, List.mem_cons]
    cases hb : Nat.beq x d with
    | true => simp [(Nat.eq_of_beq_eq_true hb).symm]
    | false =>
      have hne : ¬ d = x := fun e => by subst e; simp at hb
      simp [hne, memN_iff (ds := r)]
theorem dropE_at : ∀ {e : Env} {ds : List Nat} {x : Nat × XV}, x ∈ dropE ds e → look e x.1 = x.2 ∧ x.1 ∉ ds
  | [], ds, x, h => by simp [dropE] at h
  | y :: r, ds, x, h => by
    simp only [dropE] at h
    cases hm : memN y.1 ds with
    | true =>
      rw [hm] at h
      obtain ⟨h1, h2⟩ := dropE_at h
      have hne : y.1 ≠ x.1 := fun e => h2 (e ▸ memN_iff.1 hm)
      exact ⟨(look_ne r y.2 hne).trans h1, h2⟩
    | false =>
      rw [hm] at h
      rcases List.mem_cons.1 h with rfl | h
      · exact ⟨look_same r x.1 x.2, fun hx => by rw [memN_iff.2 hx] at hm; cases hm⟩
      · obtain ⟨h1, h2⟩ := dropE_at h
        have hne : y.1 ≠ x.1 := fun e => h2 (e ▸ List.mem_cons_self)
        exact ⟨(look_ne r y.2 hne).trans h1, fun hx => h2 (List.mem_cons_of_mem _ hx)⟩
theorem leEnv_of {m : Nat} {e : Env} : ∀ {e' : Env}, (∀ x ∈ e', LeV (lowX m (look e x.1)) x.2) → LeEnv m e e'
  | [], _ => trivial
  | x :: r, h => ⟨h x (by simp), leEnv_of fun y hy => h y (by simp [hy])⟩
theorem lowsB_mem {m : Nat} : ∀ {e : Env}, lowsB m e = true → ∀ x ∈ e, lowB m x.2 = true
  | [], _, x, hx => by simp at hx
  | y :: r, h, x, hx => by
    simp only [lowsB] at h
    split at h
    · rename_i hy
      rcases List.mem_cons.1 hx with rfl | hx
      · exact hy
      · exact lowsB_mem h x hx
    · cases h
theorem leEnv_mem {m : Nat} {e : Env} : ∀ {e' : Env}, LeEnv m e e' → ∀ x ∈ e', LeV (lowX m (look e x.1)) x.2
  | [], _, x, hx => by simp at hx
  | y :: r, h, x, hx => by
    rcases List.mem_cons.1 hx with rfl | hx
    · exact h.1
    · exact leEnv_mem h.2 x hx
/-- The slots that were not written, in one step. -/
theorem leEnv_app {m : Nat} {e1 us e : Env} {ds : List Nat} (h2 : dropE ds e1 = dropE ds e) (h3 : lowsB m (dropE ds e) = true) (h1 : LeEnv m e1 us) : LeEnv m e1 (us ++ dropE ds e) := leEnv_of fun x hx => by
  rcases List.mem_append.1 hx with hx | hx
  · exact leEnv_mem h1 x hx
  · have h4 := lowX_id x.2 (lowsB_mem h3 x hx)
    rw [← h2] at hx
    rw [(dropE_at hx).1, h4]
    exact .rfl
/-- What a state says at least, when some rows are written no more. -/
def LeFz (e' : Env) (h' : List XLB) (gs' : Frames) : List Nat → Env → List XLB → Frames → Prop
  | [], e, h, gs => LeX e h gs e' h' gs'
  | j :: js, e, h, gs => frzK e h gs j fun e1 h1 gs1 => LeFz e' h' gs' js e1 h1 gs1
theorem LeFz.sle {e' : Env} {h' : List XLB} {gs' : Frames} (gh : List Value) : ∀ {js : List Nat} {e : Env} {h : List XLB} {gs : Frames}, LeFz e' h' gs' js e h gs → SLe B w0 gh (xst n e h gs) (xst n e' h' gs')
  | [], e, h, gs, hh => LeX.sle hh gh
  | j :: js, e, h, gs, hh => by
    obtain ⟨e1, h1, g1, h2, h3⟩ := frzK_ok (n := n) (B := B) (w0 := w0) hh
    exact (h2 gh).trans (LeFz.sle gh h3)
/-- Ways that meet: what is behind them is walked once. -/
theorem XT.cut (O : TabOk P T) {Y : Type} (ds : List Nat) (us : Y → Env) (hs : Y → List (Nat × XLB)) (r : Y → Prop)
    (ha : X P B w0 T n c e h gs fun ex e1 h1 g1 => match ex with
      | .normal => ∃ y, r y ∧ ∃ js, LeFz (us y ++ dropE ds e) (setsH h (hs y)) gs js e1 h1 g1
      | ex => K ex e1 h1 g1)
    (hb : ∀ y, r y → forceE (us y ++ dropE ds e) fun e' => forceH (setsH h (hs y)) fun h' => K .normal e' h' gs) : XT P B w0 n c e h gs K := ⟨fun gh Q hq ρ a w hr => by
  refine wp_mono ((X_ok O ha).ok gh (fun ex σ => match ex with
    | .normal => ∃ σ', SLe B w0 gh σ σ' ∧ Q .normal σ'
    | ex => Q ex σ) (fun ex e1 h1 gs1 hk => ?_) ρ a w hr) fun ex a w ⟨σ, ρ, h1, h2⟩ => ?_
  · cases ex with
    | normal =>
      obtain ⟨y, hy, js, hl⟩ := hk
      have := forceH_ok (k := fun h' => K .normal _ h' gs) (forceE_ok (k := fun e' => forceH (setsH h (hs y)) fun h' => K .normal e' h' gs) (hb y hy))
      exact ⟨_, hl.sle gh, hq _ _ _ _ this⟩
    | _ => exact hq _ _ _ _ hk
  · cases ex with
    | normal =>
      obtain ⟨σ', h3, h4⟩ := h1
      obtain ⟨ρ', h5⟩ := h3 ρ a w h2
      exact ⟨σ', ρ', h4, h5⟩
    | _ => exact ⟨σ, ρ, h1, h2⟩⟩
/-- The walk goes on behind a place where it stopped. -/
theorem XT.pass (O : TabOk P T) {a b : Code} (hx : X P B w0 T n a e h gs fun ex e h gs => match ex with
    | .normal => X P B w0 T n b e h gs K
    | ex => K ex e h gs) : XT P B w0 n (.seq a b) e h gs K := ⟨fun gh Q hq => by
  refine .seq ((X_ok O hx).ok gh _ fun ex e h gs h1 => ?_)
  cases ex with
  | normal => exact (X_ok O h1).ok gh Q hq
  | _ => exact hq _ _ _ _ h1⟩
/-- Some local blocks and slots are known by their shape, plain slots as they are, nothing else is known any more. -/
theorem XT.keep {Y : Type} (ds : List (Nat × (Y → List XV))) (ss : List (Nat × (Y → XV))) (r : Y → Prop) (hss : (ss.all fun p => Nat.blt p.1 n) = true) (hcs : (ds.all fun p => isCells (hget h p.1)) = true)
    (hbl : ∀ (C C' : Cx), ShpS C.S C.B C.w C'.w → C'.B = C.B → (∀ k, C.S k → C'.S k) → ∀ (us : Nat → List Value) (xs : Nat → Value), (∀ i t cs, hget h i = .cells t cs → DnL C (XV.denL cs) (us i)) → (∀ p ∈ ss, Dn C (look e p.1).den (xs p.1)) → ∃ y, r y ∧ (∀ i V t cs, dsL ds i = some V → hget h i = .cells t cs → DnL C' (XV.denL (V y)) (us i)) ∧ ∀ p ∈ ss, Dn C' (p.2 y).den (xs p.1))
    (hx : ∀ y, r y → keepK ds y 0 h fun h2 => forceE (ssE ss y ++ mapE (dgX ds) e) fun e2 => XT P B w0 n c e2 h2 (anyG gs) K) : XT P B w0 n c e h gs K := ⟨fun gh Q hq ρ a w hr => by
  obtain ⟨y, hy, hR2, hv⟩ := shpS_rel ds ss r hr (ShpS.refl _ _ _) hss hcs hbl
  refine (forceE_ok (k := fun e2 => XT P B w0 n c e2 (keepH ds y 0 h) (anyG gs) K) (keepK_ok (hx y hy))).ok gh Q hq ρ a w ⟨?_, anyG_dn hr.ghost, hR2, hr.defers⟩
  exact hv⟩
end
end Go.Proofs.YtekpmlfcmnlmiaaGreatDoor
