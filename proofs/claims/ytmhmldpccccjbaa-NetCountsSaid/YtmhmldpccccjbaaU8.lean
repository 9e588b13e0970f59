/- Marks: code that may change what was made behind a mark, and what was there ahead of it stays. No condition. -/
import Derived.Test.YtmhmldpccccjbaaU4
namespace Go.Proofs.Ytmhmldpccccjbaa
open Go.RowKit
set_option linter.unusedVariables false
set_option linter.unusedSimpArgs false

theorem DnL.of_at {C : Cx} : ∀ {ts : List TV} {us : List Value}, ts.length = us.length → (∀ (i : Nat) (t : TV) (u : Value), ts[i]? = some t → us[i]? = some u → Dn C t u) → DnL C ts us
  | [], us, hl, _ => by simp only [DnL]; exact List.eq_nil_of_length_eq_zero hl.symm
  | t :: ts, [], hl, _ => by simp at hl
  | t :: ts, u :: us, hl, hh => DnL.cons (hh 0 t u rfl rfl) (DnL.of_at (by simpa using hl) fun i a b ha hb => hh (i + 1) a b (by simpa using ha) (by simpa using hb))
theorem toL_at {n i : Nat} {e : Env} {t : TV} (h : (toL n e)[i]? = some t) : i < n ∧ t = (look e i).den := by
  have hi : i < n := by
    have := (List.getElem?_eq_some_iff.1 h).1
    rwa [toL_len] at this
  rw [toL_get? e hi] at h
  exact ⟨hi, (Option.some.inj h).symm⟩
section
variable {P : Program} {B : Nat} {w0 : World} {T : Tab} {n : Nat} {e : Env} {h : List XLB} {gs : Frames} {K : XQ} {c : Code}
/-- What is known of a slot behind a mark. -/
inductive MarkV (n : Nat) (h : List XLB) (us : Nat → Value) (e : Env) (d : Nat) : XV → Prop
  | any : MarkV n h us e d .any
  | val {x : Value} {hp : Nl (.v x)} (hv : look e d = .p (.v x) hp) : MarkV n h us e d (.p (.v x) hp)
  | pin {t0 t : TV} {hn : Nl t} (hd : Nat.blt d n = true) (ha : argP (h.map XLB.den) (look e d).den = some t0) (hp : Pu t0) (hu : untag t0 = t) : MarkV n h us e d (.pin (us d) t hn)
def MarkE (n : Nat) (h : List XLB) (us : Nat → Value) (e : Env) : Env → Prop
  | [] => True
  | x :: r => MarkV n h us e x.1 x.2 ∧ MarkE n h us e r
theorem MarkE.look {us : Nat → Value} : ∀ {e' : Env}, MarkE n h us e e' → ∀ d, MarkV n h us e d (look e' d)
  | [], _, d => .any
  | x :: r, hh, d => by
    by_cases hd : x.1 = d
    · have e1 : Go.Proofs.Ytmhmldpccccjbaa.look (x :: r) d = x.2 := by
        have := look_same r x.1 x.2
        rw [← hd]; exact this
      rw [e1, ← hd]
      exact hh.1
    · have e1 : Go.Proofs.Ytmhmldpccccjbaa.look (x :: r) d = Go.Proofs.Ytmhmldpccccjbaa.look r d := look_ne r x.2 hd
      rw [e1]
      exact MarkE.look hh.2 d
def PinsE (M : Nat) (w1 : World) : Env → Prop
  | [] => True
  | x :: r => (match x.2 with
    | .pin u t _ => PinOk M w1 u t
    | _ => True) ∧ PinsE M w1 r
def valX : XV → XV
  | .p (.v x) h => .p (.v x) h
  | _ => .any
theorem markV_val {us : Nat → Value} (d : Nat) : MarkV n h us e d (valX (look e d)) := by
  unfold valX
  split
  · rename_i x hp hx; exact .val hx
  · exact .any
theorem look_app : ∀ {a b : Env} (d : Nat), (∃ x ∈ a, x.1 = d ∧ look (a ++ b) d = look a d) ∨ ((∀ x ∈ a, x.1 ≠ d) ∧ look (a ++ b) d = look b d)
  | [], b, d => .inr ⟨by simp, rfl⟩
  | x :: r, b, d => by
    by_cases hd : x.1 = d
    · subst hd
      refine .inl ⟨x, by simp, rfl, ?_⟩
      have e1 := look_same (r ++ b) x.1 x.2
      have e2 := look_same r x.1 x.2
      exact e1.trans e2.symm
    · have e1 : Go.Proofs.Ytmhmldpccccjbaa.look ((x :: r) ++ b) d = Go.Proofs.Ytmhmldpccccjbaa.look (r ++ b) d := look_ne (r ++ b) x.2 hd
      have e2 : Go.Proofs.Ytmhmldpccccjbaa.look (x :: r) d = Go.Proofs.Ytmhmldpccccjbaa.look r d := look_ne r x.2 hd
      rcases look_app (a := r) (b := b) d with ⟨y, h1, h2, h3⟩ | ⟨h1, h2⟩
      · exact .inl ⟨y, by simp [h1], h2, by rw [e1, e2, h3]⟩
      · refine .inr ⟨fun y hy => ?_, by rw [e1, h2]⟩
        rcases List.mem_cons.1 hy with rfl | hy
        · exact hd
        · exact h1 y hy
/-- The slots that were pinned, as they were. -/
def bkE (e : Env) : List Nat → Env
  | [] => []
  | k :: r => (k, look e k) :: bkE e r
def KeptP (n : Nat) (us : Nat → Value) (e1 : Env) : List Nat → Prop
  | [] => True
  | k :: r => (∃ t hn, look e1 k = .pin (us k) t hn) ∧ Nat.blt k n = true ∧ KeptP n us e1 r
/-- What is known of a slot behind the marked code. -/
inductive BackV (n : Nat) (us : Nat → Value) (e : Env) (w : XV) : XV → Prop
  | any : BackV n us e w .any
  | val {x y : Value} {hp : Nl (.v x)} {hq : Nl (.v y)} (hv : w = .p (.v x) hp) (hx : x = y) : BackV n us e w (.p (.v y) hq)
  | pin {k : Nat} {t : TV} {hn : Nl t} (hv : w = .pin (us k) t hn) (hk : Nat.blt k n = true) : BackV n us e w (look e k)
theorem back_look {us : Nat → Value} {e1 : Env} : ∀ {ks : List Nat}, KeptP n us e1 ks → ∀ d, BackV n us e (look e1 d) (look (bkE e ks ++ mapE valX e1) d)
  | [], _, d => by
    show BackV n us e (look e1 d) (look (mapE valX e1) d)
    rw [look_map (f := valX) rfl]
    unfold valX
    split
    · rename_i x hp hx; rw [hx]; exact .val rfl rfl
    · exact .any
  | k :: r, hh, d => by
    obtain ⟨⟨t, hn, h1⟩, h2, h3⟩ := hh
    by_cases hd : k = d
    · subst hd
      have : Go.Proofs.Ytmhmldpccccjbaa.look (bkE e (k :: r) ++ mapE valX e1) k = look e k := look_same (bkE e r ++ mapE valX e1) k (look e k)
      rw [this]
      exact .pin h1 h2
    · have : Go.Proofs.Ytmhmldpccccjbaa.look (bkE e (k :: r) ++ mapE valX e1) d = look (bkE e r ++ mapE valX e1) d := look_ne (bkE e r ++ mapE valX e1) (look e k) hd
      rw [this]
      exact back_look h3 d
def backQ (n : Nat) (us : Nat → Value) (ks : List Nat) (e : Env) (h : List XLB) (gs : Frames) (K : XQ) : XQ := fun ex e1 _ _ => KeptP n us e1 ks ∧ forceE (bkE e ks ++ mapE valX e1) fun eo => K ex eo h gs
def backC (P : Program) (B : Nat) (w0 : World) (n : Nat) (us : Nat → Value) (ks : List Nat) (e : Env) (h : List XLB) (gs : Frames) (K : XQ) : Code → Env → List XLB → Frames → Prop := fun r e1 _ _ => KeptP n us e1 ks ∧ forceE (bkE e ks ++ mapE valX e1) fun eo => XT P B w0 n r eo h gs K
/-- The first m + 1 statements of a row; Kb: what is to be shown of the others. -/
def XChR (P : Program) (B : Nat) (w0 : World) (T : Tab) (n : Nat) : XQ → (Code → Env → List XLB → Frames → Prop) → Frames → List XLB → Env → Code → Nat → Prop
  | K, Kb, gs, h, e, .seq a b, 0 => XR P B w0 T n (fun ex e h gs => match ex with
    | .normal => Kb b e h gs
    | ex => K ex e h gs) gs h e a
  | K, Kb, gs, h, e, .seq a b, m + 1 => XR P B w0 T n (fun ex e h gs => match ex with
    | .normal => XChR P B w0 T n K Kb gs h e b m
    | ex => K ex e h gs) gs h e a
  | _, _, _, _, _, _, _ => False
abbrev XCh (P : Program) (B : Nat) (w0 : World) (T : Tab) (n : Nat) (m : Nat) (c : Code) (e : Env) (h : List XLB) (gs : Frames) (K : XQ) (Kb : Code → Env → List XLB → Frames → Prop) : Prop := XChR P B w0 T n K Kb gs h e c m
theorem xch_ok (O : TabOk P T) : ∀ (m : Nat) {c : Code} {e : Env} {h : List XLB} {gs : Frames} {K : XQ} {Kb : Code → Env → List XLB → Frames → Prop}, XCh P B w0 T n m c e h gs K Kb → ∀ {gh : List Value} {F : Exit → Act → World → Prop},
    (∀ ex e h gs, K ex e h gs → ∀ ρ a w, RelS B w0 gh ρ (xst n e h gs) a w → F ex a w) → (∀ r e h gs, Kb r e h gs → ∀ ρ a w, RelS B w0 gh ρ (xst n e h gs) a w → r.wp P F a w) → ∀ ρ a w, RelS B w0 gh ρ (xst n e h gs) a w → c.wp P F a w
  | 0, .seq x y, e, h, gs, K, Kb, hx, gh, F, hK, hb, ρ, a, w, hr => by
    simp only [XCh, XChR] at hx
    refine wp_seq (wp_mono ((X_ok O hx).ok gh (fun ex σ => match ex with
      | .normal => ∀ ρ a w, RelS B w0 gh ρ σ a w → y.wp P F a w
      | ex => ∀ ρ a w, RelS B w0 gh ρ σ a w → F ex a w) (fun ex e h gs h1 => ?_) ρ a w hr) fun ex a w ⟨σ, ρ, h1, h2⟩ => ?_)
    · cases ex <;> first | exact hb _ _ _ _ h1 | exact hK _ _ _ _ h1
    · cases ex <;> exact h1 ρ a w h2
  | m + 1, .seq x y, e, h, gs, K, Kb, hx, gh, F, hK, hb, ρ, a, w, hr => by
    simp only [XCh, XChR] at hx
    refine wp_seq (wp_mono ((X_ok O hx).ok gh (fun ex σ => match ex with
      | .normal => ∀ ρ a w, RelS B w0 gh ρ σ a w → y.wp P F a w
      | ex => ∀ ρ a w, RelS B w0 gh ρ σ a w → F ex a w) (fun ex e h gs h1 => ?_) ρ a w hr) fun ex a w ⟨σ, ρ, h1, h2⟩ => ?_)
    · cases ex <;> first | exact xch_ok O m h1 hK hb | exact hK _ _ _ _ h1
    · cases ex <;> exact h1 ρ a w h2
theorem Rel.none {M : Nat} {w : World} {ρ : Nat → Value} (hg : GlB M w0) (hb : Below M w0 w) (hs : M ≤ w.heap.size) (ho : Oth w0 w) : Rel M w0 ρ (hf []) w where
  oth := ho
  below := hb
  gl0 := hg
  size := hs
  blk i t cs hi := by simp [hf] at hi
  row i e sz els hi := by simp [hf] at hi
  sep i j g hi hj _ _ := by simp [hf, LB.here] at hi
  ext i x hi := by simp [hf] at hi
  inj i g hi _ := by simp [hf, LB.here] at hi
/-- Marked code: it changes only what was made behind the mark; what is told of the pinned slots is as it was. -/
theorem XT.markM (g0 : Frames) (hg : denG g0 = []) (O : TabOk P T) (m : Nat) (ks : List Nat) (hx : ∀ (M : Nat) (w1 : World) (us : Nat → Value), ∃ pins : Env, MarkE n h us e pins ∧ (PinsE M w1 pins → forceE (pins ++ mapE valX e) fun e' => XCh P M w1 T n m c e' [] g0 (backQ n us ks e h gs K) (backC P B w0 n us ks e h gs K))) : XT P B w0 n c e h gs K := ⟨fun gh Q hq ρ a w hr => by
  have hlen : a.tmps.toList.length = n := by have := hr.slots.len; rw [this]; exact toL_len n e
  obtain ⟨pins, hm, hx⟩ := hx w.heap.size w fun d => (a.tmps.toList[d]?).getD Value.nilFunc
  have hus : ∀ (d : Nat) (u : Value), a.tmps.toList[d]? = some u → (a.tmps.toList[d]?).getD Value.nilFunc = u := fun d u hu => by rw [hu]; rfl
  have hat : ∀ d : Nat, d < n → ∃ u, a.tmps.toList[d]? = some u ∧ Dn (cxOf B ρ (hf (h.map XLB.den)) w) (look e d).den u := fun d hd => hr.slots.at_ d _ (toL_get? e hd)
  have hpin : ∀ (d : Nat) (v : XV), MarkV n h (fun d => (a.tmps.toList[d]?).getD Value.nilFunc) e d v → ∀ t hn, v = .pin ((a.tmps.toList[d]?).getD Value.nilFunc) t hn → PinOk w.heap.size w ((a.tmps.toList[d]?).getD Value.nilFunc) t := fun d v hv t hn e1 => by
    cases hv with
    | any => cases e1
    | val _ => cases e1
    | pin hd ha hp hu =>
      injection e1 with _ e2
      subst e2
      obtain ⟨u, h1, h2⟩ := hat d (Nat.blt_eq.mp hd)
      rw [hus d u h1]
      have h3 := argP_dn (h' := hf (h.map XLB.den)) (fun i _ => .inr rfl) hr.rel _ _ u ha h2
      rw [← hu]
      exact Dn.pu (C := cxAll B ρ (hf (h.map XLB.den)) w) (C' := pinCx w.heap.size w) rfl (fun k hk => hk) _ _ hp h3
  have hpins : ∀ e2 : Env, MarkE n h (fun d => (a.tmps.toList[d]?).getD Value.nilFunc) e e2 → PinsE w.heap.size w e2 := by
    intro e2
    induction e2 with
    | nil => intro _; trivial
    | cons x r ih =>
      intro hh
      refine ⟨?_, ih hh.2⟩
      have h1 := hh.1
      split
      · rename_i u t hn hx2
        rw [hx2] at h1
        have h2 := h1
        cases h1 with
        | pin hd ha hp hu => exact hpin x.1 _ h2 _ _ rfl
      · trivial
  have hml : ∀ d, MarkV n h (fun d => (a.tmps.toList[d]?).getD Value.nilFunc) e d (Go.Proofs.Ytmhmldpccccjbaa.look (pins ++ mapE valX e) d) := fun d => by
    rcases look_app (a := pins) (b := mapE valX e) d with ⟨x, _, _, h3⟩ | ⟨_, h3⟩
    · rw [h3]; exact hm.look d
    · rw [h3, look_map (f := valX) rfl]; exact markV_val d
  have R' : RelS w.heap.size w [] (fun _ => .nilFunc) (xst n (pins ++ mapE valX e) [] g0) a w := by
    refine ⟨DnL.of_at (by rw [hlen]; exact toL_len n _) fun i t u ht hu => ?_, by show DnL _ (denG g0) _; rw [hg]; exact DnL.nil, Rel.none hr.rel.glb (Below.refl _ _) (Nat.le_refl _) (Oth.refl _), hr.defers⟩
    obtain ⟨hi, rfl⟩ := toL_at ht
    have hv := hml i
    obtain ⟨u', h1, h2⟩ := hat i hi
    rw [hu] at h1
    injection h1 with h1
    subst h1
    generalize Go.Proofs.Ytmhmldpccccjbaa.look (pins ++ mapE valX e) i = v at hv ⊢
    cases hv with
    | any => simp [XV.den, Dn]
    | val hv2 => rw [hv2] at h2; simp only [XV.den, Dn] at h2 ⊢; exact h2
    | pin hd ha hp hu2 => simp only [XV.den, Dn]; rw [hu]; rfl
  have out : ∀ e1 h1 g1 ρ' a' w', KeptP n (fun d => (a.tmps.toList[d]?).getD Value.nilFunc) e1 ks → RelS w.heap.size w [] ρ' (xst n e1 h1 g1) a' w' → RelS B w0 gh ρ (xst n (bkE e ks ++ mapE valX e1) h gs) a' w' := by
    intro e1 h1 g1 ρ' a' w' hb hr'
    obtain ⟨eo, heo⟩ : ∃ eo, eo = bkE e ks ++ mapE valX e1 := ⟨_, rfl⟩
    rw [← heo]
    have hbel : Below w.heap.size w w' := hr'.rel.below
    refine ⟨?_, DnL.keep (.grow hbel) _ _ hr.ghost, hr.rel.grow hbel, hr'.defers⟩
    refine DnL.of_at ?_ fun i t u ht hu => ?_
    · have := hr'.slots.len
      rw [this]
      exact (toL_len n eo).trans (toL_len n e1).symm
    obtain ⟨hi, rfl⟩ := toL_at ht
    obtain ⟨u', h3, h4⟩ := hr'.slots.at_ i _ (toL_get? e1 hi)
    rw [hu] at h3
    injection h3 with h3
    subst h3
    have hv := back_look (e := e) hb i
    rw [← heo] at hv
    generalize Go.Proofs.Ytmhmldpccccjbaa.look eo i = v at hv ⊢
    generalize Go.Proofs.Ytmhmldpccccjbaa.look e1 i = x at hv h4
    cases hv with
    | any => simp [XV.den, Dn]
    | val hv2 hx => subst hv2; subst hx; simp only [XV.den, Dn] at h4 ⊢; exact h4
    | pin hv2 hk2 =>
      rename_i k t hn
      subst hv2
      simp only [XV.den, Dn] at h4
      obtain ⟨u2, h5, h6⟩ := hat k (Nat.blt_eq.mp hk2)
      rw [hus k u2 h5] at h4
      subst h4
      exact Dn.keep (.grow hbel) _ _ h6
  refine xch_ok O m (forceE_ok (hx (hpins pins hm))) (gh := []) (F := liftQ B w0 gh Q) ?_ ?_ _ a w R'
  · rintro ex e1 h1 g1 ⟨hb, hk⟩ ρ' a' w' hr'
    exact ⟨_, ρ, hq _ _ _ _ (forceE_ok (k := fun eo => K ex eo h gs) hk), out e1 h1 g1 ρ' a' w' hb hr'⟩
  · rintro r e1 h1 g1 ⟨hb, hk⟩ ρ' a' w' hr'
    exact (forceE_ok (k := fun eo => XT P B w0 n r eo h gs K) hk).ok gh Q hq ρ a' w' (out e1 h1 g1 ρ' a' w' hb hr')⟩
theorem XT.mark (O : TabOk P T) (m : Nat) (ks : List Nat) (hx : ∀ (M : Nat) (w1 : World) (us : Nat → Value), ∃ pins : Env, MarkE n h us e pins ∧ (PinsE M w1 pins → forceE (pins ++ mapE valX e) fun e' => XCh P M w1 T n m c e' [] [] (backQ n us ks e h gs K) (backC P B w0 n us ks e h gs K))) : XT P B w0 n c e h gs K := XT.markM [] rfl O m ks hx
/-- What is left known of a slot behind a call that writes over all that was made behind the mark. -/
inductive SpV (w : XV) : XV → Prop
  | any : SpV w .any
  | val {x : Value} {hp hq : Nl (.v x)} (hv : w = .p (.v x) hp) : SpV w (.p (.v x) hq)
  | pin {u : Value} {t t' : TV} {hp : Nl t} {hq : Nl t'} (hv : w = .pin u t hp) : SpV w (.pin u t' hq)
def spX : XV → XV
  | .p (.v x) h => .p (.v x) h
  | .pin u t h => .pin u t h
  | _ => .any
theorem spX_ok (w : XV) : SpV w (spX w) := by
  cases w <;> first | exact .any | exact .pin rfl | (rename_i t hp; cases t <;> first | exact .any | exact .val rfl)
theorem sp_dn {C C' : Cx} {us : List Value} (hd : DnL C (toL n e) us) : DnL C' (toL n (mapE spX e)) us := by
  refine DnL.of_at (by rw [hd.len]; exact (toL_len n _).trans (toL_len n e).symm) fun i t u ht hu => ?_
  obtain ⟨hi, rfl⟩ := toL_at ht
  obtain ⟨u', h3, h4⟩ := hd.at_ i _ (toL_get? e hi)
  rw [hu] at h3
  injection h3 with h3
  subst h3
  rw [look_map (f := spX) rfl]
  have hv := spX_ok (look e i)
  generalize spX (look e i) = v at hv ⊢
  generalize look e i = x at hv h4
  cases hv with
  | any => simp [XV.den, Dn]
  | val hv2 => subst hv2; simp only [XV.den, Dn] at h4 ⊢; exact h4
  | pin hv2 => subst hv2; simp only [XV.den, Dn] at h4 ⊢; exact h4
/-- The waiting frames, of which nothing is known any more. -/
def anyG : Frames → Frames
  | [] => []
  | f :: r => (f.1, []) :: anyG r
theorem DnL.split {C : Cx} : ∀ {a b : List TV} {us : List Value}, DnL C (a ++ b) us → ∃ u1 u2, us = u1 ++ u2 ∧ DnL C a u1 ∧ DnL C b u2
  | [], b, us, h => ⟨[], us, rfl, DnL.nil, h⟩
  | t :: a, b, us, h => by
    simp only [List.cons_append, DnL] at h
    obtain ⟨u, us', rfl, h1, h2⟩ := h
    obtain ⟨u1, u2, rfl, h3, h4⟩ := DnL.split h2
    exact ⟨u :: u1, u2, rfl, DnL.cons h1 h3, h4⟩
theorem anyG_dn {C C' : Cx} : ∀ {gs : Frames} {us : List Value}, DnL C (denG gs) us → DnL C' (denG (anyG gs)) us
  | [], us, h => by simp only [denG, anyG, DnL] at h ⊢; exact h
  | f :: r, us, h => by
    simp only [denG] at h
    obtain ⟨u1, u2, rfl, h1, h2⟩ := DnL.split h
    simp only [anyG, denG]
    refine DnL.append ?_ (anyG_dn h2)
    have : toL f.1 [] = List.replicate f.1 .any := by
      apply List.ext_getElem?
      intro i
      by_cases hi : i < f.1
      · rw [toL_get? [] hi]; simp [Go.Proofs.Ytmhmldpccccjbaa.look, XV.den, hi]
      · rw [List.getElem?_eq_none (by rw [toL_len]; omega), List.getElem?_eq_none (by simp; omega)]
    rw [this]
    exact DnL.anys _ _ (by have := h1.len; rw [this]; exact toL_len _ _)
/-- A function that writes over what was made behind a mark, and over nothing else. -/
structure BelO (B : Nat) (w w' : World) : Prop extends Below B w w' where
  oth : Oth w w'
def SpM (P : Program) (f : FuncId) (ts : List TV) : Prop := entB P f = true ∧ ∀ (C : Cx) (vals : List Value), C.B ≤ C.w.heap.size → DnL C ts vals → Calls P f vals.toArray C.w fun e w' => e = .returned (.tuple #[]) ∧ BelO C.B C.w w'
/-- As XMeets.of_X, with regions ahead of which the walk stops. -/
theorem XMeets.of_XM (ms : Env) (O : TabOk P T) {f : FuncId} {fn : Func} {c : Code} {args : List TV} {avs : List XV} {r : XV} (e0 : Env) (hE : entB P f = true) (hfn : P.funcs[f]? = some fn) (hb : fn.body = some c) (hp : PuL args) (hu : untagL args = XV.denL avs) (he : envA avs 0 = e0) (hle : Nat.ble avs.length fn.ntmps = true)
    (hx : ∀ B w0, X P B w0 T fn.ntmps c e0 [] [(0, ms)] (finQ T fn.ntmps fn.results.toList r.den)) : XMeets P f args r := ⟨hE, TMeets.of_TW hfn hb hp fun B w0 => by
  have hle := Nat.le_of_ble_eq_true hle
  have hl : args.length = (XV.denL avs).length := by rw [← hu]; exact (XMeets.of_X.untagL_len args).symm
  rw [hu, hl, ← toL_envA hle, he]
  have e1 : xst fn.ntmps e0 [] [(0, ms)] = ⟨toL fn.ntmps e0, [], []⟩ := rfl
  have := (X_ok O (hx B w0)).ok [] (endT P fn r.den) (fun ex e h gs hk => by
    have fin : ∀ {ex : Exit}, (ex = .normal ∨ ex = .ret) → (resX T fn.ntmps e h fn.results.toList fun v => FinG h v r.den) → endT P fn r.den ex (xst fn.ntmps e h gs) := fun hex hk => by
      obtain ⟨v, hv, q, ho, hq⟩ := resX_ok O (g := denG gs) hk
      exact ⟨hex, v.den, q, hv, ho, hq⟩
    cases ex with
    | normal => exact fin (.inl rfl) hk
    | ret => exact fin (.inr rfl) hk
    | _ => exact hk.elim)
  rw [e1] at this
  exact this⟩
end
end Go.Proofs.Ytmhmldpccccjbaa
