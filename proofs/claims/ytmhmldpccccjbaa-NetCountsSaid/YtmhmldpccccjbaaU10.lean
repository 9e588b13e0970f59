/- Regions whose order is drawn, of which operations read cells that its stores fill later. Condition: what the program's table says of types. -/
import Derived.Test.YtmhmldpccccjbaaU9
import Derived.Test.YtmhmldpccccjbaaT17
namespace Go.Proofs.Ytmhmldpccccjbaa
open Go.RowKit
set_option linter.unusedVariables false
set_option linter.unusedSimpArgs false

/-- A store to come: its number, the block, the place in it, how many cells, and does an operation ahead of it read these. -/
structure FT where
  q : Nat
  i : Nat
  off : Nat
  len : Nat
  old : Bool
structure FX where
  q : Nat
  i : Nat
  off : Nat
  ol : List XV
  old : Bool
def FX.den (f : FX) : FsE := ⟨f.q, f.i, f.off, XV.denL f.ol, f.old⟩
def FT.den (f : FT) : FsE := ⟨f.q, f.i, f.off, List.replicate f.len .any, f.old⟩
theorem disF_no (a b : FsE) : disF a.no b.no = disF a b := by simp [disF, FsE.no]
theorem disAll_no : ∀ (l : List FsE), disAll (l.map FsE.no) = disAll l
  | [] => rfl
  | f :: r => by
    simp only [List.map_cons, disAll, disAll_no r, List.all_map]
    congr 1
    apply congrArg (fun p => List.all r p)
    funext g
    simp only [Function.comp, disF_no]
    rfl
section
variable {P : Program} {B : Nat} {w0 : World} {T : Tab} {n : Nat} {gh : List Value} {Q : Exit → St → Prop}
/-- What lies in the cells is kept aside, and forgotten. -/
def knowAll : List FT → List XLB → List XLB → (List FX → List XLB → Prop) → Prop
  | [], _, h, k => k [] h
  | x :: r, h0, h, k => cellsAtK h0 x.i fun _ cs => match Nat.ble (x.off + x.len) cs.length with
    | true => dropK x.off cs fun c1 => takeK x.len c1 fun ol => cellsAtK h x.i fun t' cs' => putsK cs' x.off (List.replicate x.len .any) fun c2 => setK h x.i (.cells t' c2) fun h' => knowAll r h0 h' fun fs h'' => k (⟨x.q, x.i, x.off, ol, x.old⟩ :: fs) h''
    | false => False
theorem setF_cons {f : FsE} {r : List FsE} {h : List LB} {t : TypeId} {cs : List TV} (hi : hf h f.i = .cells t cs) : setF h (f :: r) = setF (h.set f.i (.cells t (setsV cs f.off f.ol))) r := by simp only [setF, hi]
theorem knowAll_ok {h0 : List XLB} : ∀ {ts : List FT} {h : List XLB} {k : List FX → List XLB → Prop}, knowAll ts h0 h k → ∃ fs h', k fs h' ∧ h'.map XLB.den = setF (h.map XLB.den) ((fs.map FX.den).map FsE.no) ∧ (fs.map FX.den).map FsE.no = ts.map FT.den ∧
    ∀ f ∈ fs.map FX.den, ∃ t cs, hf (h0.map XLB.den) f.i = .cells t cs ∧ f.off + f.ol.length ≤ cs.length ∧ (f.old = true → (cs.drop f.off).take f.ol.length = f.ol)
  | [], h, k, hh => ⟨[], h, hh, rfl, rfl, by simp⟩
  | x :: r, h, k, hh => by
    obtain ⟨t, cs, h1, _, hh⟩ := cellsAtK_ok hh
    split at hh
    · rename_i hle
      have hle := Nat.le_of_ble_eq_true hle
      have hh := takeK_ok (k := fun ol => cellsAtK h x.i fun t' cs' => putsK cs' x.off (List.replicate x.len .any) fun c2 => setK h x.i (.cells t' c2) fun h' => knowAll r h0 h' fun fs h'' => k (⟨x.q, x.i, x.off, ol, x.old⟩ :: fs) h'') (dropK_ok (k := fun c1 => takeK x.len c1 fun ol => cellsAtK h x.i fun t' cs' => putsK cs' x.off (List.replicate x.len .any) fun c2 => setK h x.i (.cells t' c2) fun h' => knowAll r h0 h' fun fs h'' => k (⟨x.q, x.i, x.off, ol, x.old⟩ :: fs) h'') hh)
      obtain ⟨t', cs', h2, _, hh⟩ := cellsAtK_ok hh
      have hh := setK_ok (k := fun h' => knowAll r h0 h' fun fs h'' => k (⟨x.q, x.i, x.off, (cs.drop x.off).take x.len, x.old⟩ :: fs) h'') (putsK_ok (k := fun c2 => setK h x.i (.cells t' c2) fun h' => knowAll r h0 h' fun fs h'' => k (⟨x.q, x.i, x.off, (cs.drop x.off).take x.len, x.old⟩ :: fs) h'') hh)
      obtain ⟨fs, h', e1, e2, e3, e4⟩ := knowAll_ok hh
      have hlen : (XV.denL ((cs.drop x.off).take x.len)).length = x.len := by rw [denL_map, List.length_map, List.length_take, List.length_drop]; omega
      have hno : FsE.no (FX.den ⟨x.q, x.i, x.off, (cs.drop x.off).take x.len, x.old⟩) = FT.den x := by
        simp only [FsE.no, FX.den, FT.den, hlen]
      refine ⟨_, h', e1, ?_, ?_, fun f hf => ?_⟩
      · simp only [List.map_cons, hno]
        rw [setF_cons (show hf (h.map XLB.den) (FT.den x).i = _ from h2), e2]
        have hr : XV.denL (List.replicate x.len XV.any) = List.replicate x.len TV.any := by rw [denL_map, List.map_replicate]; rfl
        simp only [List.map_set, XLB.den, denL_setsV, hr, FT.den]
      · simp only [List.map_cons, hno, e3]
      · rw [List.map_cons] at hf
        rcases List.mem_cons.1 hf with rfl | hf
        · refine ⟨t, _, h1, ?_, fun _ => ?_⟩
          · simp only [FX.den, hlen]
            rw [denL_map, List.length_map]; exact hle
          · simp only [FX.den, hlen]
            rw [denL_map, denL_map, List.map_take, List.map_drop]
        · exact e4 f hf
    · exact hh.elim
/-- Cells that are known again. -/
def setFK : List FX → List XLB → (List XLB → Prop) → Prop
  | [], h, k => k h
  | f :: r, h, k => cellsAtK h f.i fun t cs => putsK cs f.off f.ol fun c2 => setK h f.i (.cells t c2) fun h' => setFK r h' k
theorem setFK_ok : ∀ {fs : List FX} {h : List XLB} {k : List XLB → Prop}, setFK fs h k → ∃ h', h'.map XLB.den = setF (h.map XLB.den) (fs.map FX.den) ∧ k h'
  | [], h, k, hh => ⟨h, rfl, hh⟩
  | f :: r, h, k, hh => by
    obtain ⟨t, cs, h2, _, hh⟩ := cellsAtK_ok hh
    have hh := setK_ok (k := fun h' => setFK r h' k) (putsK_ok (k := fun c2 => setK h f.i (.cells t c2) fun h' => setFK r h' k) hh)
    obtain ⟨h', e1, e2⟩ := setFK_ok hh
    refine ⟨h', ?_, e2⟩
    rw [e1, List.map_cons, setF_cons (show hf (h.map XLB.den) (FX.den f).i = _ from h2)]
    simp only [List.map_set, XLB.den, denL_setsV, FX.den]
/-- Which of these are still to come for certain. -/
def knK (L : List Oper) (p : Nat) : List FX → (List FX → Prop) → Prop
  | [], k => k []
  | f :: r, k => match f.old && reachB L p 8 f.q with
    | true => knK L p r fun l => k (f :: l)
    | false => knK L p r k
theorem knK_ok {L : List Oper} {p : Nat} : ∀ {fs : List FX} {k : List FX → Prop}, knK L p fs k → ∃ kn, (∀ f ∈ kn, f ∈ fs ∧ f.old = true ∧ reachB L p 8 f.q = true) ∧ k kn
  | [], k, hh => ⟨[], by simp, hh⟩
  | f :: r, k, hh => by
    unfold knK at hh
    split at hh
    · rename_i hb
      simp only [Bool.and_eq_true] at hb
      obtain ⟨kn, h1, h2⟩ := knK_ok hh
      refine ⟨f :: kn, fun g hg => ?_, h2⟩
      rcases List.mem_cons.1 hg with rfl | hg
      · exact ⟨by simp, hb⟩
      · exact ⟨List.mem_cons_of_mem _ (h1 g hg).1, (h1 g hg).2⟩
    · obtain ⟨kn, h1, h2⟩ := knK_ok hh
      exact ⟨kn, fun g hg => ⟨List.mem_cons_of_mem _ (h1 g hg).1, (h1 g hg).2⟩, h2⟩
def FX.hit (p i off len : Nat) (f : FX) : Bool := Nat.beq f.q p && (Nat.beq f.i i && (Nat.beq f.off off && Nat.beq f.ol.length len))
def stoK (T : Tab) (n : Nat) (fs : List FX) (p : Nat) (e : Env) (h : List XLB) (t : TypeId) (x y : Operand) (pd : List FX) (k : List FX → Prop) : Prop := tyK T t fun ti => cellsK (xev n e y) fun l => isK l.length ti.n (match allOne l with
  | false => False
  | true => match xev n e x with
    | .ptr i off => cellsAtK h i fun t0 cs => match Nat.ble (off + l.length) cs.length with
      | true => match fs.any (FX.hit p i off l.length) with
        | true => setsV (XV.denL cs) off (List.replicate l.length .any) = XV.denL cs ∧ k (pd ++ [⟨0, i, off, l, false⟩])
        | false => False
      | false => False
    | _ => False)
def isLoad : Op → Bool
  | .load _ _ => true
  | _ => false
/-- Operations of which the order is drawn; loads know what lies in cells that later stores fill. -/
def XPk (P : Program) (T : Tab) (n : Nat) (L : List Oper) (fs : List FX) : Nat → List Oper → Env → List XLB → List FX → (Env → List XLB → List FX → Prop) → Prop
  | _, [], e, h, pd, k => k e h pd
  | p, o :: r, e, h, pd, k => match o.op with
    | .store t x y => match o.guard with
      | none => match o.dst with
        | none => stoK T n fs p e h t x y pd fun pd => XPk P T n L fs (p + 1) r e h pd k
        | some _ => False
      | some _ => False
    | _ => match isLoad o.op with
      | true => guardK n L e o.guard (knK L p fs fun kn => setFK kn h fun h1 => XS P T n h1 e o.op fun v new => match new with
          | none => putK n e o.dst v fun e' => XPk P T n L fs (p + 1) r e' h pd k
          | some _ => False) (putK n e o.dst (.p (.v undef) (nlv _)) fun e' => XPk P T n L fs (p + 1) r e' h pd k)
      | false => guardK n L e o.guard (XS P T n h e o.op fun v new => putK n e o.dst v fun e' => addK h new fun h' => XPk P T n L fs (p + 1) r e' h' pd k) (putK n e o.dst (.p (.v undef) (nlv _)) fun e' => XPk P T n L fs (p + 1) r e' h pd k)
def pdk (ds : List StD) (pd : List FX) : Prop := ds.map StD.f = pd.map FX.den
theorem XPk_ok (O : TabOk P T) {L : List Oper} {fs : List FX} {K : List TV → List LB → List StD → Prop} : ∀ {l : List Oper} {p : Nat} {e : Env} {h : List XLB} {pd : List FX} {ds : List StD} {k : Env → List XLB → List FX → Prop}, pdk ds pd → XPk P T n L fs p l e h pd k → (∀ e h pd ds, pdk ds pd → k e h pd → K (toL n e) (h.map XLB.den) ds) → TPk P B w0 L (fs.map FX.den) p l (toL n e) (h.map XLB.den) ds K
  | [], p, e, h, pd, ds, k, hr, hh, hk => hk _ _ _ _ hr hh
  | o :: r, p, e, h, pd, ds, k, hr, hh, hk => by
    have gen : (guardK n L e o.guard (XS P T n h e o.op fun v new => putK n e o.dst v fun e' => addK h new fun h' => XPk P T n L fs (p + 1) r e' h' pd k) (putK n e o.dst (.p (.v undef) (nlv _)) fun e' => XPk P T n L fs (p + 1) r e' h pd k)) → TPk P B w0 L (fs.map FX.den) p (o :: r) (toL n e) (h.map XLB.den) ds K := fun hh => by
      have key : ∀ {e : Env} {h : List XLB} {v : XV} {new : Option XLB}, (putK n e o.dst v fun e' => addK h new fun h' => XPk P T n L fs (p + 1) r e' h' pd k) → TPk P B w0 L (fs.map FX.den) (p + 1) r (putO (toL n e) o.dst v.den) (addO (h.map XLB.den) (new.map XLB.den)) ds K := fun hh => by
        obtain ⟨e', he, hh⟩ := putK_ok hh
        obtain ⟨h', hh', hh⟩ := addK_ok hh
        have := XPk_ok O hr hh hk
        rw [he, hh'] at this
        exact this
      rcases guardK_ok hh with ⟨hg, hh⟩ | ⟨j, b, og, d, hg, hog, hd, hlt, hh⟩
      · obtain ⟨v, new, hs, hh⟩ := XS_ok (B := B) (w0 := w0) O hh
        exact .st hg hs (key hh)
      · have hlt' : d < (toL n e).length := by rw [toL_len]; exact hlt
        rcases hh with ⟨hb, hh⟩ | ⟨x, hx, hn, hh⟩
        · obtain ⟨v, new, hs, hh⟩ := XS_ok (B := B) (w0 := w0) O hh
          exact .st_g hg hog hd hlt' hb hs (key hh)
        · obtain ⟨e', he, hh⟩ := putK_ok hh
          have := XPk_ok O hr hh hk
          rw [he] at this
          exact .sk_g hg hog hd hlt' hx hn this
    unfold XPk at hh
    split at hh
    · rename_i t x y hop
      split at hh
      · rename_i hg
        split at hh
        · rename_i hdst
          unfold stoK at hh
          obtain ⟨ti, ht, hh⟩ := tyK_ok O hh
          obtain ⟨l, hl, hh⟩ := cellsK_ok hh
          obtain ⟨hn, hh⟩ := isK_ok hh
          rw [xev_den] at hl
          have hlen : (XV.denL l).length = l.length := by rw [denL_map]; simp
          split at hh
          · exact hh.elim
          · rename_i h1
            have h1 := allOne_ok h1
            have hx := xev_den n e x
            split at hh
            · rename_i i off hv
              rw [hv] at hx
              obtain ⟨t0, cs, h2, _, hh⟩ := cellsAtK_ok hh
              split at hh
              · rename_i h3
                have h3 := Nat.le_of_ble_eq_true h3
                split at hh
                · rename_i h4
                  obtain ⟨h5, hh⟩ := hh
                  have hlc : (XV.denL cs).length = cs.length := by rw [denL_map]; simp
                  obtain ⟨f, hf, hhit⟩ := List.any_eq_true.1 h4
                  simp only [FX.hit, Bool.and_eq_true] at hhit
                  obtain ⟨z1, z2, z3, z4⟩ := hhit
                  refine .inr (.inr ⟨⟨t, x, y, i, off, t0, XV.denL cs, XV.denL l, ti⟩, ⟨hg, hop, hdst, hx.symm, h2, ht, hl, by show (XV.denL l).length = ti.n; omega, h1, by show off + (XV.denL l).length ≤ (XV.denL cs).length; omega, by rw [hlen]; exact h5⟩, ⟨f.den, List.mem_map_of_mem hf, Nat.eq_of_beq_eq_true z1, Nat.eq_of_beq_eq_true z2, Nat.eq_of_beq_eq_true z3, ?_⟩, ?_⟩)
                  · show (XV.denL f.ol).length = (XV.denL l).length
                    rw [hlen, denL_map, List.length_map]; exact Nat.eq_of_beq_eq_true z4
                  · refine XPk_ok O ?_ hh hk
                    unfold pdk at hr ⊢
                    rw [List.map_append, List.map_append, hr]
                    rfl
                · exact hh.elim
              · exact hh.elim
            · exact hh.elim
        · exact hh.elim
      · exact hh.elim
    · split at hh
      · have kno : ∀ {hh0 : knK L p fs fun kn => setFK kn h fun h1 => XS P T n h1 e o.op fun v new => match new with
          | none => putK n e o.dst v fun e' => XPk P T n L fs (p + 1) r e' h pd k
          | some _ => False}, Wants L (toL n e) o true → TPk P B w0 L (fs.map FX.den) p (o :: r) (toL n e) (h.map XLB.den) ds K := fun {hh} hw => by
          obtain ⟨kn, h1, hh⟩ := knK_ok hh
          obtain ⟨h', e1, hh⟩ := setFK_ok hh
          obtain ⟨v, new, hs, hh⟩ := XS_ok (B := B) (w0 := w0) O hh
          rw [e1] at hs
          cases new with
          | none =>
            obtain ⟨e', he, hh⟩ := putK_ok hh
            have := XPk_ok O hr hh hk
            rw [he] at this
            refine .inr (.inl ⟨v.den, kn.map FX.den, hw, fun f hf => ?_, hs, this⟩)
            obtain ⟨f, hf1, rfl⟩ := List.mem_map.1 hf
            obtain ⟨k1, k2, k3⟩ := h1 f hf1
            exact ⟨List.mem_map_of_mem k1, k2, 8, k3⟩
          | some x => exact hh.elim
        rcases guardK_ok hh with ⟨hg, hh⟩ | ⟨j, b, og, d, hg, hog, hd, hlt, hh⟩
        · exact kno (hh0 := hh) (by simp [Wants, hg])
        · have hlt' : d < (toL n e).length := by rw [toL_len]; exact hlt
          rcases hh with ⟨hb, hh⟩ | ⟨x, hx, hn, hh⟩
          · exact kno (hh0 := hh) (by simp only [Wants, hg]; exact ⟨og, d, _, hog, hd, hlt', hb, by simp [isB]⟩)
          · obtain ⟨e', he, hh⟩ := putK_ok hh
            have := XPk_ok O hr hh hk
            rw [he] at this
            exact .sk_g hg hog hd hlt' hx hn this
      · exact gen hh
theorem RegG.know {l : List Oper} {e : Env} {h : List XLB} {gs : Frames} {k : KK} (m : Nat) (ts : List FT) (hB : regB l m = true) (hD : disAll (ts.map FT.den) = true)
    (hx : knowAll ts h h fun fs h => takeK m l fun l1 => dropK m l fun l2 => XPk P T n l fs 0 l1 e h [] fun e h pd => setFK pd h fun h => XL P B w0 T n l l2 e h gs k) : RegG P B w0 T n l e h gs k := .ta fun O gh Q hk => by
  obtain ⟨fs, h', hx, e2, e3, e4⟩ := knowAll_ok hx
  have hx := dropK_ok (k := fun l2 => XPk P T n l fs 0 (l.take m) e h' [] fun e h pd => setFK pd h fun h => XL P B w0 T n l l2 e h gs k) (takeK_ok (k := fun l1 => dropK m l fun l2 => XPk P T n l fs 0 l1 e h' [] fun e h pd => setFK pd h fun h => XL P B w0 T n l l2 e h gs k) hx)
  refine TA.know (σ := xst n e h gs) m O.mo hB (fs.map FX.den) (by rw [← disAll_no, e3]; exact hD) e4 ?_
  show TPk P B w0 l (fs.map FX.den) 0 (l.take m) (toL n e) (setF (h.map XLB.den) ((fs.map FX.den).map FsE.no)) [] _
  rw [← e2]
  refine XPk_ok O (by rfl) hx fun e h pd ds hr h1 => ?_
  obtain ⟨h2, e5, h1⟩ := setFK_ok h1
  have := XL_ok O l.toArray gh Q (by simpa using h1) hk
  unfold pdk at hr
  rw [hr, ← e5]
  exact this
end
end Go.Proofs.Ytmhmldpccccjbaa
