/- A function that ranges over a function, as a proposition that is reckoned. Condition: what the program's table says of types. -/
import Derived.Test.YtekpmlfcmnlmiaaGreatDoorU4
import Derived.Test.YtekpmlfcmnlmiaaGreatDoorT24
namespace Go.Proofs.YtekpmlfcmnlmiaaGreatDoor
open Go.RowKit
set_option linter.unusedVariables false
set_option linter.unusedSimpArgs false

section
variable {P : Program} {B : Nat} {w0 : World} {T : Tab} {n : Nat}
/-- Code without loops in a round of a range over a function (as XR). -/
def XBR (P : Program) (B : Nat) (w0 : World) (T : Tab) (n : Nat) : XQ → Frames → List XLB → Env → Code → Prop
  | K, gs, h, e, .skip => K .normal e h gs
  | K, gs, h, e, .region _ ops draw => match ops.toList.all noDefer with
    | false => False
    | true => match draw with
      | false => XL P B w0 T n ops.toList ops.toList e h gs fun e h gs => K .normal e h gs
      | true => RegG P B w0 T n ops.toList e h gs fun e h gs => K .normal e h gs
  | K, gs, h, e, .seq a b => XBR P B w0 T n (fun ex e h gs => match ex with
      | .normal => XBR P B w0 T n K gs h e b
      | ex => K ex e h gs) gs h e a
  | K, gs, h, e, .cond c a b => boolK (xev n e c) fun v => bcase v (XBR P B w0 T n K gs h e a) (XBR P B w0 T n K gs h e b)
  | K, gs, h, e, .block id c => XBR P B w0 T n (fun ex e h gs => match ex with
    | .exit id' => match Nat.beq id' id with
      | true => K .normal e h gs
      | false => K (.exit id') e h gs
    | ex => K ex e h gs) gs h e c
  | K, gs, h, e, .exit id => K (.exit id) e h gs
  | K, gs, h, e, .ret => K .ret e h gs
  | _, _, _, _, _ => False
theorem XBR_ok (O : TabOk P T) {gh : List Value} : ∀ {c : Code} {e : Env} {h : List XLB} {gs : Frames} {K : XQ} {Q : Exit → St → Prop}, XBR P B w0 T n K gs h e c → (∀ ex e h gs, K ex e h gs → Q ex (xst n e h gs)) → (∀ σ, ¬ Q .outgrown σ) → TQ P B w0 gh c (xst n e h gs) Q
  | .skip, e, h, gs, K, Q, hh, hq, ho => .skip (hq _ _ _ _ hh)
  | .region id ops draw, e, h, gs, K, Q, hh, hq, ho => by
    simp only [XBR] at hh
    split at hh
    · exact hh.elim
    · rename_i hd
      split at hh
      · exact TL.ti hd ho (XL_ok O ops gh Q hh fun e h gs h1 => hq _ _ _ _ h1)
      · have := regG_ta (gh := gh) (Q := Q) O hh fun e h gs h1 => hq _ _ _ _ h1
        refine TA.ti O.mo hd ho ?_
        simpa using this
  | .seq a b, e, h, gs, K, Q, hh, hq, ho => by
    simp only [XBR] at hh
    refine .seq (XBR_ok O hh (fun ex e h gs h1 => ?_) fun σ h1 => ho σ h1)
    cases ex with
    | normal => exact XBR_ok O h1 hq ho
    | _ => exact hq _ _ _ _ h1
  | .cond c a b, e, h, gs, K, Q, hh, hq, ho => by
    simp only [XBR] at hh
    obtain ⟨v, hv, hh⟩ := boolK_ok hh
    rw [xev_den] at hv
    refine .cond (σ := xst n e h gs) hv (fun hb => ?_) (fun hb => ?_)
    · subst hb; exact XBR_ok (c := a) O hh hq ho
    · subst hb; exact XBR_ok (c := b) O hh hq ho
  | .block id c, e, h, gs, K, Q, hh, hq, ho => by
    simp only [XBR] at hh
    refine .block (XBR_ok O hh (fun ex e h gs h1 => ?_) fun σ h1 => ho σ h1)
    cases ex with
    | exit id' =>
      simp only [inBlockT, if_beq]
      cases hb : Nat.beq id' id with
      | true => simp only [hb] at h1 ⊢; exact hq _ _ _ _ h1
      | false => simp only [hb] at h1 ⊢; exact hq _ _ _ _ h1
    | _ => exact hq _ _ _ _ h1
  | .exit id, e, h, gs, K, Q, hh, hq, ho => .exit (hq _ _ _ _ hh)
  | .ret, e, h, gs, K, Q, hh, hq, ho => .ret (hq _ _ _ _ hh)
  | .goto l, e, h, gs, K, Q, hh, hq, ho => hh.elim
  | .label l, e, h, gs, K, Q, hh, hq, ho => hh.elim
  | .scope c, e, h, gs, K, Q, hh, hq, ho => hh.elim
  | .loop c, e, h, gs, K, Q, hh, hq, ho => hh.elim
  | .rangeFunc .., e, h, gs, K, Q, hh, hq, ho => hh.elim
  | .refuse _, e, h, gs, K, Q, hh, hq, ho => hh.elim

/-- What an iterator has captured is told in a state. -/
def capX (n : Nat) (g : Operand) (gf : FuncId) (caps : List TV) (h : List XLB) (e : Env) : Prop := match xev n e g with
  | .fu (.func f) vs => f = gf ∧ ∃ ts, argPL (h.map XLB.den) (XV.denL vs) = some ts ∧ CapLe ts caps
  | _ => False
theorem capX_ok {g : Operand} {gf : FuncId} {caps : List TV} {h : List XLB} {e : Env} (hh : capX n g gf caps h e) : CapSt g gf caps (toL n e) (h.map XLB.den) := by
  unfold capX at hh
  split at hh
  · rename_i f vs hv
    obtain ⟨rfl, ts, h1, h2⟩ := hh
    refine ⟨XV.denL vs, ts, ?_, h1, h2⟩
    rw [← xev_den, hv]; rfl
  · exact hh.elim
/-- Slots that are set, one behind the other. -/
def setE (n : Nat) : List Tmp → List XV → Env → (Env → Prop) → Prop
  | [], _, e, k => k e
  | _ :: _, [], e, k => k e
  | p :: ps, v :: vs, e, k => match Nat.blt p n with
    | true => setE n ps vs ((p, v) :: e) k
    | false => False
theorem setE_ok : ∀ {ps : List Tmp} {vs : List XV} {e : Env} {k : Env → Prop}, setE n ps vs e k → ∃ e', toL n e' = setsT (toL n e) (ps.zip (XV.denL vs)) ∧ k e'
  | [], _, e, k, hh => ⟨e, by simp [setsT], hh⟩
  | p :: ps, [], e, k, hh => ⟨e, by simp [setsT, XV.denL], hh⟩
  | p :: ps, v :: vs, e, k, hh => by
    simp only [setE] at hh
    cases hb : Nat.blt p n with
    | true =>
      rw [hb] at hh
      obtain ⟨e', h1, h2⟩ := setE_ok hh
      exact ⟨e', by rw [h1, toL_set e v (Nat.blt_eq.mp hb)]; rfl, h2⟩
    | false => rw [hb] at hh; exact hh.elim
/-- The end of what is assigned ahead of a round's body: what waits is as it was. -/
def headX (n : Nat) (g : Operand) (gf : FuncId) (caps : List TV) (h : List XLB) : Frames → Prop
  | f :: _ => f.1 = n ∧ capX n g gf caps h f.2
  | [] => False
abbrev XQF := Bool → World → XQ
/-- A range over a function, from a state told so that it lasts. -/
inductive XRG0 (P : Program) (B : Nat) (T : Tab) (n : Nat) (g : Operand) (ps : Array Tmp) (assign body : Code) (e : Env) (h : List XLB) (gs : Frames) (K : XQF) : Prop
  | mk {α Y Z : Type} (gf : FuncId) (caps : List TV) {encx : α → List XV} {encv : α → Array Value} {S Sp : List α → Prop} {N : Nat} (hseq : SeqX P gf caps encv S Sp N) (hen : ∀ (C : Cx) x, DnL C (XV.denL (encx x)) (encv x).toList) (hps : ∀ x, (encv x).size = ps.size)
    (ds : List Nat) (hs : Y → List (Nat × XLB)) (inv : List α → Y → Prop) (hz : Z → List (Nat × XLB)) (invx : Exit → List α → Z → Prop) (y0 : Y) (h0 : inv [] y0) (hle : LeX e h gs (dropE ds e) (setsH h (hs y0)) gs)
    (hcap : ∀ pre y, inv pre y → capX n g gf caps (setsH h (hs y)) (dropE ds e))
    (hround : ∀ (W : World) pre x y, inv pre y → pre.length < N → forceE (dropE ds e) fun e0 => forceH (setsH h (hs y)) fun h1 => setE n ps.toList (encx x) e0 fun e1 => XBR P B W T n (fun ex e2 h2 g2 => match ex with
        | .normal => headX n g gf caps h2 g2 ∧ ∀ W2 : World, XBR P B W2 T n (fun ex e3 h3 g3 => match ex with
          | .normal => ∃ z, inv (pre ++ [x]) z ∧ LeX [] h3 g3 [] (setsH h (hs z)) ((n, dropE ds e) :: gs)
          | .ret => ∃ z, invx .ret (pre ++ [x]) z ∧ LeX [] h3 g3 [] (setsH h (hz z)) ((n, dropE ds e) :: gs)
          | .exit id => ∃ z, invx (.exit id) (pre ++ [x]) z ∧ LeX [] h3 g3 [] (setsH h (hz z)) ((n, dropE ds e) :: gs)
          | _ => False) g2 h2 e2 body
        | _ => False) ((n, e0) :: gs) h1 e1 assign)
    (hdone : ∀ (w1 : World) xs y, S xs → inv xs y → forceE (dropE ds e) fun e0 => forceH (setsH h (hs y)) fun h1 => K true w1 .normal e0 h1 gs)
    (hstop : ∀ (w1 : World) ex pre z, Sp pre → invx ex pre z → forceE (dropE ds e) fun e0 => forceH (setsH h (hz z)) fun h1 => K true w1 ex e0 h1 gs) : XRG0 P B T n g ps assign body e h gs K
/-- A range over a function; nilc: a nil slice in a local block is a row of nothing. -/
inductive XRG (P : Program) (B : Nat) (T : Tab) (n : Nat) (g : Operand) (ps : Array Tmp) (assign body : Code) (e : Env) (h : List XLB) (gs : Frames) (K : XQF) : Prop
  | of (hx : XRG0 P B T n g ps assign body e h gs K) : XRG P B T n g ps assign body e h gs K
  | nilc (i j : Nat) (ty : TypeId) (sz : Nat) {t : TypeId} {cs : List XV} {hp : Nl .nil_} (hi : hget h i = .cells t cs) (hj : cs[j]? = some (.p .nil_ hp))
    (hx : forceH ((h ++ [XLB.row ty sz [] .nil]).set i (XLB.cells t (cs.set j (XV.row h.length)))) fun h' => XRG0 P B T n g ps assign body e h' gs K) : XRG P B T n g ps assign body e h gs K
theorem leX_pop {h : List XLB} {g : Frames} {e0 : Env} {h' : List XLB} {gs : Frames} (hh : LeX [] h g [] h' ((n, e0) :: gs)) (W : World) (gh : List Value) : SLe B W gh ⟨(denG g).take n, h.map XLB.den, (denG g).drop n⟩ (xst n e0 h' gs) := by
  have hg := hh.g
  cases g with
  | nil => simp only [LeFr] at hg; cases hg
  | cons f r =>
    simp only [LeFr] at hg
    obtain ⟨f', r', e1, h1, h2, h3⟩ := hg
    injection e1 with e1 e2
    subst e1 e2
    have h1' : f.1 = n := h1
    have hl : (toL f.1 f.2).length = n := by rw [toL_len]; exact h1'
    have := LeX.sle (B := B) (w0 := W) (n := n) (e := f.2) (h := h) (gs := r) (e' := e0) (h' := h') (gs' := gs) ⟨h2, hh.h, h3⟩ gh
    simp only [xst, denG] at this ⊢
    rw [← hl, List.take_left, List.drop_left, hl, h1']
    exact this
theorem XRG0_ok (O : TabOk P T) {gh : List Value} {g : Operand} {ps : Array Tmp} {assign body : Code} {e : Env} {h : List XLB} {gs : Frames} {K : XQF} {Q : QF} (hh : XRG0 P B T n g ps assign body e h gs K) (hq : ∀ w1 ex e h gs, K true w1 ex e h gs → Q true w1 ex (xst n e h gs)) :
    TF P false B w0 w0 gh (.rangeFunc g ps assign body) (xst n e h gs) Q := by
  obtain ⟨gf, caps, hseq, hen, hps, ds, hs, inv, hz, invx, y0, h0, hle, hcap, hround, hdone, hstop⟩ := hh
  obtain ⟨e0, he0⟩ : ∃ e0, dropE ds e = e0 := ⟨_, rfl⟩
  rw [he0] at hle
  simp only [he0] at hcap hround hdone hstop
  replace hround := fun W pre x y h1 h2 => forceE_ok (hround W pre x y h1 h2)
  replace hdone := fun w1 xs y h1 h2 => forceE_ok (hdone w1 xs y h1 h2)
  replace hstop := fun w1 ex pre z h1 h2 => forceE_ok (hstop w1 ex pre z h1 h2)
  rename_i encx encv S Sp N
  have key : TF P false B w0 w0 gh (.rangeFunc g ps assign body) (xst n e0 (setsH h (hs y0)) gs) Q := by
    refine TF.range (n := n) hseq hen hps (fun pre σ => ∃ y, inv pre y ∧ σ = xst n e0 (setsH h (hs y)) gs) (fun c pre σ => (c = .ret ∧ ∃ z, invx .ret pre z ∧ σ = xst n e0 (setsH h (hz z)) gs) ∨ ∃ id, c = .exit id ∧ ∃ z, invx (.exit id) pre z ∧ σ = xst n e0 (setsH h (hz z)) gs)
      ?_ ⟨y0, h0, rfl⟩ (capX_ok (hcap _ _ h0)) ?_ ?_ ?_ ?_ ?_
    · rintro pre σ ⟨y, _, rfl⟩; exact toL_len n e0
    · rintro pre x σ' W gh' ⟨y, hy, rfl⟩ hlen
      obtain ⟨e1, he1, hx⟩ := setE_ok (forceH_ok (k := fun h1 => setE n ps.toList (encx x) e0 fun e1 => XBR P B W T n _ ((n, e0) :: gs) h1 e1 assign) (hround W pre x y hy hlen))
      have hx := XBR_ok O (gh := gh') (Q := fun e σ2 => e = .normal ∧ CapSt g gf caps (σ2.g.take n) σ2.h ∧ ∀ W2, TQ P B W2 gh' body σ2 (roundT n g gf caps (fun pre σ => ∃ y, inv pre y ∧ σ = xst n e0 (setsH h (hs y)) gs) (fun c pre σ => (c = .ret ∧ ∃ z, invx .ret pre z ∧ σ = xst n e0 (setsH h (hz z)) gs) ∨ ∃ id, c = .exit id ∧ ∃ z, invx (.exit id) pre z ∧ σ = xst n e0 (setsH h (hz z)) gs) (pre ++ [x]))) hx (fun ex e2 h2 g2 hk => by
        cases ex <;> try exact hk.elim
        obtain ⟨hc, hk⟩ := hk
        refine ⟨rfl, ?_, fun W2 => XBR_ok O (hk W2) (fun ex e3 h3 g3 hk3 => ?_) (fun σ h => h)⟩
        · cases g2 with
          | nil => exact hc.elim
          | cons f r =>
            obtain ⟨h1, h2⟩ := hc
            have := capX_ok h2
            simp only [xst, denG]
            have hl : (toL f.1 f.2).length = n := by rw [toL_len]; exact h1
            rw [← hl, List.take_left, h1]
            exact this
        · cases ex <;> try exact hk3.elim
          · obtain ⟨z, h1, h2⟩ := hk3
            exact ⟨_, ⟨z, h1, rfl⟩, capX_ok (hcap _ _ h1), fun B W gh => leX_pop h2 W gh⟩
          · obtain ⟨z, h1, h2⟩ := hk3
            exact ⟨_, .inr ⟨_, rfl, z, h1, rfl⟩, fun B W gh => leX_pop h2 W gh⟩
          · obtain ⟨z, h1, h2⟩ := hk3
            exact ⟨_, .inl ⟨rfl, z, h1, rfl⟩, fun B W gh => leX_pop h2 W gh⟩) (fun σ h => by cases h.1)
      have e2 : xst n e1 (setsH h (hs y)) ((n, e0) :: gs) = ⟨setsT (toL n e0) (ps.toList.zip (XV.denL (encx x))), (setsH h (hs y)).map XLB.den, toL n e0 ++ denG gs⟩ := by simp only [xst, denG, he1]
      rw [e2] at hx
      exact hx
    · rintro xs σ' w1 hS ⟨y, hy, rfl⟩
      exact hq _ _ _ _ _ (forceH_ok (k := fun h1 => K true w1 .normal e0 h1 gs) (hdone w1 xs y hS hy))
    · rintro pre σ' w1 hS (⟨_, z, hz1, rfl⟩ | ⟨id, he, _⟩)
      · exact hq _ _ _ _ _ (forceH_ok (k := fun h1 => K true w1 .ret e0 h1 gs) (hstop w1 .ret pre z hS hz1))
      · cases he
    · rintro id pre σ' w1 hS (⟨he, _⟩ | ⟨id', he, z, hz1, rfl⟩)
      · cases he
      · injection he with he
        subst he
        exact hq _ _ _ _ _ (forceH_ok (k := fun h1 => K true w1 (.exit id) e0 h1 gs) (hstop w1 (.exit id) pre z hS hz1))
    · rintro c pre σ' (⟨he, _⟩ | ⟨id', he, _⟩)
      · exact .inl he
      · exact .inr ⟨id', he⟩
  intro ρ a w ⟨_, hr⟩
  obtain ⟨ρ', hr'⟩ := hle.sle (B := B) (w0 := w0) (n := n) gh ρ a w hr
  exact key ρ' a w ⟨rfl, hr'⟩
theorem XRG_ok (O : TabOk P T) {gh : List Value} {g : Operand} {ps : Array Tmp} {assign body : Code} {e : Env} {h : List XLB} {gs : Frames} {K : XQF} {Q : QF} (hh : XRG P B T n g ps assign body e h gs K) (hq : ∀ w1 ex e h gs, K true w1 ex e h gs → Q true w1 ex (xst n e h gs)) :
    TF P false B w0 w0 gh (.rangeFunc g ps assign body) (xst n e h gs) Q := by
  cases hh with
  | of hx => exact XRG0_ok O hx hq
  | nilc i j ty sz hi hj hx =>
    rename_i t cs hp
    have hx := XRG0_ok (w0 := w0) (gh := gh) O (forceH_ok (k := fun h' => XRG0 P B T n g ps assign body e h' gs K) hx) hq
    intro ρ a w ⟨_, hr⟩
    have hi' : Go.Proofs.YtekpmlfcmnlmiaaGreatDoor.hf (h.map XLB.den) i = .cells t (XV.denL cs) := by rw [← hget_den, hi]; rfl
    have hj' : (XV.denL cs)[j]? = some .nil_ := by rw [denL_map, List.getElem?_map, hj]; rfl
    obtain ⟨ρ', hr'⟩ := SLe.nilrow_in (σ := xst n e h gs) (gh := gh) ty sz hi' hj' ρ a w hr
    refine hx ρ' a w ⟨rfl, ?_⟩
    have e1 : ((h ++ [XLB.row ty sz [] .nil]).set i (.cells t (cs.set j (.row h.length)))).map XLB.den = ((h.map XLB.den) ++ [LB.row ty sz []]).set i (.cells t ((XV.denL cs).set j (.row (h.map XLB.den).length))) := by
      simp [List.map_set, XLB.den, denL_map, XV.den]
    simp only [xst, e1] at hr' ⊢
    exact hr'
/-- A function's code that may range over a function, as a proposition. b: behind the range? -/
def XFR (P : Program) (B : Nat) (T : Tab) (n : Nat) : XQF → Bool → World → Frames → List XLB → Env → Code → Prop
  | K, b, w1, gs, h, e, .skip => K b w1 .normal e h gs
  | K, b, w1, gs, h, e, .region _ ops draw => match draw with
    | false => XL P B w1 T n ops.toList ops.toList e h gs fun e h gs => K b w1 .normal e h gs
    | true => RegG P B w1 T n ops.toList e h gs fun e h gs => K b w1 .normal e h gs
  | K, b, w1, gs, h, e, .seq x y => XFR P B T n (fun b w1 ex e h gs => match ex with
      | .normal => XFR P B T n K b w1 gs h e y
      | ex => K b w1 ex e h gs) b w1 gs h e x
  | K, b, w1, gs, h, e, .cond c x y => boolK (xev n e c) fun v => bcase v (XFR P B T n K b w1 gs h e x) (XFR P B T n K b w1 gs h e y)
  | K, b, w1, gs, h, e, .block id c => XFR P B T n (fun b w1 ex e h gs => match ex with
    | .exit id' => match Nat.beq id' id with
      | true => K b w1 .normal e h gs
      | false => K b w1 (.exit id') e h gs
    | ex => K b w1 ex e h gs) b w1 gs h e c
  | K, b, w1, gs, h, e, .exit id => K b w1 (.exit id) e h gs
  | K, b, w1, gs, h, e, .ret => K b w1 .ret e h gs
  | K, b, w1, gs, h, e, .rangeFunc g ps assign body => match b with
    | false => XRG P B T n g ps assign body e h gs K
    | true => False
  | K, b, w1, gs, h, e, c => match b with
    | false => XT P B w1 n c e h gs (K false w1)
    | true => False
theorem XFR_ok (O : TabOk P T) {gh : List Value} : ∀ {c : Code} {b : Bool} {w1 : World} {e : Env} {h : List XLB} {gs : Frames} {K : XQF} {Q : QF}, (b = false → w1 = w0) → XFR P B T n K b w1 gs h e c → (∀ b w1 ex e h gs, (b = false → w1 = w0) → K b w1 ex e h gs → Q b w1 ex (xst n e h gs)) → (∀ w1 σ, ¬ Q true w1 .outgrown σ) → TF P b B w0 w1 gh c (xst n e h gs) Q
  | .skip, b, w1, e, h, gs, K, Q, hb, hh, hq, ho => .skip (hq _ _ _ _ _ _ hb hh)
  | .region id ops draw, b, w1, e, h, gs, K, Q, hb, hh, hq, ho => by
    simp only [XFR] at hh
    split at hh
    · exact TF.region (XL_ok O ops gh (Q b w1) hh fun e h gs h1 => hq _ _ _ _ _ _ hb h1) (ho w1)
    · have := regG_ta (gh := gh) (Q := Q b w1) O hh fun e h gs h1 => hq _ _ _ _ _ _ hb h1
      refine TF.regionA O.mo ?_ (ho w1)
      simpa using this
  | .seq x y, b, w1, e, h, gs, K, Q, hb, hh, hq, ho => by
    simp only [XFR] at hh
    refine .seq (XFR_ok O hb hh (fun b w1 ex e h gs hb h1 => ?_) fun w1 σ h1 => ho w1 σ h1)
    cases ex with
    | normal => exact XFR_ok O hb h1 hq ho
    | _ => exact hq _ _ _ _ _ _ hb h1
  | .cond c x y, b, w1, e, h, gs, K, Q, hb, hh, hq, ho => by
    simp only [XFR] at hh
    obtain ⟨v, hv, hh⟩ := boolK_ok hh
    rw [xev_den] at hv
    refine .cond (σ := xst n e h gs) hv (fun h1 => ?_) (fun h1 => ?_)
    · subst h1; exact XFR_ok (c := x) O hb hh hq ho
    · subst h1; exact XFR_ok (c := y) O hb hh hq ho
  | .block id c, b, w1, e, h, gs, K, Q, hb, hh, hq, ho => by
    simp only [XFR] at hh
    refine .block (XFR_ok O hb hh (fun b w1 ex e h gs hb h1 => ?_) fun w1 σ h1 => ho w1 σ h1)
    cases ex with
    | exit id' =>
      simp only [if_beq]
      cases hbb : Nat.beq id' id with
      | true => simp only [hbb] at h1 ⊢; exact hq _ _ _ _ _ _ hb h1
      | false => simp only [hbb] at h1 ⊢; exact hq _ _ _ _ _ _ hb h1
    | _ => exact hq _ _ _ _ _ _ hb h1
  | .exit id, b, w1, e, h, gs, K, Q, hb, hh, hq, ho => .exit (hq _ _ _ _ _ _ hb hh)
  | .ret, b, w1, e, h, gs, K, Q, hb, hh, hq, ho => .ret (hq _ _ _ _ _ _ hb hh)
  | .rangeFunc g ps assign body, b, w1, e, h, gs, K, Q, hb, hh, hq, ho => by
    cases b with
    | true => exact hh.elim
    | false =>
      obtain rfl := hb rfl
      exact XRG_ok O hh fun w1 ex e h gs h1 => hq _ _ _ _ _ _ (fun hb => by cases hb) h1
  | .goto l, b, w1, e, h, gs, K, Q, hb, hh, hq, ho => by cases b with | true => exact hh.elim | false => obtain rfl := hb rfl; exact TF.of (hh.ok gh _ fun ex e h gs h1 => hq _ _ _ _ _ _ hb h1)
  | .label l, b, w1, e, h, gs, K, Q, hb, hh, hq, ho => by cases b with | true => exact hh.elim | false => obtain rfl := hb rfl; exact TF.of (hh.ok gh _ fun ex e h gs h1 => hq _ _ _ _ _ _ hb h1)
  | .scope c, b, w1, e, h, gs, K, Q, hb, hh, hq, ho => by cases b with | true => exact hh.elim | false => obtain rfl := hb rfl; exact TF.of (hh.ok gh _ fun ex e h gs h1 => hq _ _ _ _ _ _ hb h1)
  | .loop c, b, w1, e, h, gs, K, Q, hb, hh, hq, ho => by cases b with | true => exact hh.elim | false => obtain rfl := hb rfl; exact TF.of (hh.ok gh _ fun ex e h gs h1 => hq _ _ _ _ _ _ hb h1)
  | .refuse _, b, w1, e, h, gs, K, Q, hb, hh, hq, ho => by cases b with | true => exact hh.elim | false => obtain rfl := hb rfl; exact TF.of (hh.ok gh _ fun ex e h gs h1 => hq _ _ _ _ _ _ hb h1)
def finQF (T : Tab) (n : Nat) (rs : List ResultVar) (r : TV) : XQF := fun _ _ ex e h _ => match ex with
  | .normal => resX T n e h rs fun v => FinG h v r
  | .ret => resX T n e h rs fun v => FinG h v r
  | _ => False
theorem XMeets.of_XF (O : TabOk P T) {f : FuncId} {fn : Func} {c : Code} {args : List TV} {avs : List XV} {r : XV} (e0 : Env) (hE : entB P f = true) (hfn : P.funcs[f]? = some fn) (hb : fn.body = some c) (hp : PuL args) (hu : untagL args = XV.denL avs) (he : envA avs 0 = e0) (hle : Nat.ble avs.length fn.ntmps = true)
    (hx : ∀ B w0, XFR P B T fn.ntmps (finQF T fn.ntmps fn.results.toList r.den) false w0 [] [] e0 c) : XMeets P f args r := ⟨hE, TMeets.of_TF hfn hb hp fun B w0 => by
  have hle := Nat.le_of_ble_eq_true hle
  have hl : args.length = (XV.denL avs).length := by rw [← hu]; exact (XMeets.of_X.untagL_len args).symm
  rw [hu, hl, ← toL_envA hle, he]
  refine XFR_ok (w0 := w0) O (fun _ => rfl) (hx B w0) (fun b w1 ex e h gs _ hk => ?_) (fun w1 σ h => by rcases h.1 with h | h <;> cases h)
  have fin : ∀ {ex : Exit}, (ex = .normal ∨ ex = .ret) → (resX T fn.ntmps e h fn.results.toList fun v => FinG h v r.den) → endT P fn r.den ex (xst fn.ntmps e h gs) := fun hex hk => by
    obtain ⟨v, hv, q, ho, hq⟩ := resX_ok O (g := denG gs) hk
    exact ⟨hex, v.den, q, hv, ho, hq⟩
  cases ex with
  | normal => exact fin (.inl rfl) hk
  | ret => exact fin (.inr rfl) hk
  | _ => exact hk.elim⟩
end
end Go.Proofs.YtekpmlfcmnlmiaaGreatDoor
