/- Maps that a call has made, in code that is reckoned: 'm[k] += x' where the order is drawn; gone through. No condition. -/
import Derived.Test.YtmhmldpccccjbaaU10
import Derived.Test.YtmhmldpccccjbaaU12
import Derived.Test.YtmhmldpccccjbaaT30
import Derived.Test.YtmhmldpccccjbaaU24
namespace Go.Proofs.Ytmhmldpccccjbaa
open Go.RowKit
open Go.WideElems (Fit rg rd pl)
open Go.WideMaps (KeyLaw)
set_option linter.unusedVariables false
set_option linter.unusedSimpArgs false

/-- Slots of which nothing is known. -/
def anyE2 (e : Env) : List Tmp → Env
  | [] => e
  | d :: ds => anyE2 ((d, .any) :: e) ds
theorem anyE2_s {n : Nat} : ∀ (ds : List Tmp) (e : Env), (ds.all fun d => Nat.blt d n) = true → toL n (anyE2 e ds) = anyS (toL n e) ds
  | [], _, _ => rfl
  | d :: ds, e, h => by
    simp only [List.all_cons, Bool.and_eq_true] at h
    unfold anyE2 anyS
    rw [anyE2_s ds _ h.2, toL_set e .any (Nat.blt_eq.mp h.1)]
    rfl
section
variable {P : Program} {T : Tab} {B : Nat} {w0 : World} {n : Nat} {e : Env} {h : List XLB} {gs : Frames}
theorem RegG.bump8 {k : KK} {om ok ol ov oa oe ox os : Oper} {t kt et tk0 : TypeId} {m src y : Operand} (i : Nat) {n' d0 d1 d2 d3 d4 d5 d6 : Nat} {D d zd : DataW Unit} {key z u val yv : Value} {kl : Lit} {ps : List MemPlace} {tvk : TV}
    (hB : (backB [om, ok, ol, ov, oa, oe, ox, os].toArray && decide (7 < [om, ok, ol, ov, oa, oe, ox, os].length) && dstsB ([om, ok, ol, ov, oa, oe, ox, os].take 7) [d0, d1, d2, d3, d4, d5, d6] && Region.sinkB .any [om, ok, ol, ov, oa, oe, ox, os].toArray 7 && Region.chainB .any [om, ok, ol, ov, oa, oe, ox, os].toArray 7 && Region.seqB .any [om, ok, ol, ov, oa, oe, ox, os].toArray ([om, ok, ol, ov, oa, oe, ox, os].length - 7) 7 (headOf 7 [om, ok, ol, ov, oa, oe, ox, os].length)) = true)
    (hm0 : om.op = .move m) (hk0 : ok.op = .load tk0 src) (hl0 : ol.op = .lookup t (.tmp d0) (.tmp d1) false) (hv0 : ov.op = .move y) (he0 : oe.op = .mapEntry t (.tmp d0) (.tmp d1)) (hx0 : ox.op = .extract (.tmp d5) 1) (hs0 : os.op = .entryStore t (.tmp d0) (.tmp d6) (.tmp d4)) (hsd : os.dst = none)
    (hg : ([om, ok, ol, ov, oa, oe, ox, os].all fun o => o.guard.isNone) = true) (hdb : (depB ol 0 && depB ol 1 && depB oa 2 && depB oa 3 && depB oe 0 && depB oe 1 && depB ox 5) = true) (hoff : (offB [d0, d1, d2, d3, d4, d5, d6] m && offB [d0, d1, d2, d3, d4, d5, d6] src && offB [d0, d1, d2, d3, d4, d5, d6] y) = true)
    (hsz : ([d0, d1, d2, d3, d4, d5, d6].all fun d => Nat.blt d n) = true)
    (hma : xev n e m = .row i) (hya : (xev n e y).den = .v yv) (hi : hget h i = .ext (mapX P kt et n' D))
    (hT : ∀ X, XS P T n (h.set i (.ext X)) e ok.op fun v new => v.den = tvk ∧ new = none) (hkey0 : ∀ (C : Cx) (v : Value), Dn C tvk v → v = key)
    (hadd : ∀ (ev : Operand → Value) (w : World), ev (.tmp d2) = u → ev (.tmp d3) = yv → (execOp ev oa).run P w = .ok (.value val) w)
    (K : KeyLaw P kt) (ht : P.underlying t = some (.map kt et)) (hz : ∀ w, (zeroValue et).run P w = .ok z w) (hzd : plainElem (H := Unit) P et z = some (zd, [])) (hn : n' < maxLen) (hkey : keyOf P kt key = some kl)
    (hu : ∀ v ps, plainElem (H := Unit) P et v = some (D.atKey kl zd, ps) → v = u) (hval : plainElem (H := Unit) P et val = some (d, ps))
    (hx : setK h i (.ext (mapX P kt et (n' + 1) (D.put kl d))) fun h' => k ((d6, .any) :: (d5, .any) :: (d4, .any) :: (d3, .any) :: (d2, .any) :: (d1, .any) :: (d0, .any) :: e) h' gs) : RegG P B w0 T n [om, ok, ol, ov, oa, oe, ox, os] e h gs k := .ta fun O gh Q hq => by
  refine TA.bump8 (σ := xst n e h gs) (i := i) O.mo hB hg hdb hoff hm0 hk0 hl0 hv0 he0 hx0 hs0 hsd (by simpa [xst, toL_len] using hsz) (by have := xev_den n e m; rw [hma] at this; exact this.symm) (by have := xev_den n e y; rw [hya] at this; exact this.symm) (by show hf (h.map XLB.den) i = _; rw [← hget_den, hi]; rfl)
    (tvk := tvk) (fun X => ?_) hkey0 hadd K ht hz hzd hn hkey hu hval ?_
  · obtain ⟨v, new, h1, h2, h3⟩ := XS_ok (B := B) (w0 := w0) O (hT X)
    subst h3
    rw [h2] at h1
    have e1 : (h.set i (.ext X)).map XLB.den = (xst n e h gs).h.set i (.ext X) := by simp [xst, List.map_set, XLB.den]
    rw [e1] at h1
    exact h1
  · have h1 := hq _ _ _ (setK_ok (k := fun h' => k _ h' gs) hx)
    have h2 := anyE2_s [d0, d1, d2, d3, d4, d5, d6] e hsz
    have e1 : xst n ((d6, .any) :: (d5, .any) :: (d4, .any) :: (d3, .any) :: (d2, .any) :: (d1, .any) :: (d0, .any) :: e) (h.set i (.ext (mapX P kt et (n' + 1) (D.put kl d)))) gs = ⟨anyS (toL n e) [d0, d1, d2, d3, d4, d5, d6], (h.map XLB.den).set i (.ext (mapX P kt et (n' + 1) (D.put kl d))), denG gs⟩ := by
      simp only [xst, List.map_set, XLB.den, ← h2]
      rfl
    rw [e1] at h1
    exact h1
theorem RegG.bump7 {k : KK} {om ok ol oa oe ox os : Oper} {t kt et tk0 : TypeId} {m src y : Operand} (i : Nat) {n' d0 d1 d2 d3 d4 d5 : Nat} {D d zd : DataW Unit} {key z u val yv : Value} {kl : Lit} {ps : List MemPlace} {tvk : TV}
    (hB : (backB [om, ok, ol, oa, oe, ox, os].toArray && decide (6 < [om, ok, ol, oa, oe, ox, os].length) && dstsB ([om, ok, ol, oa, oe, ox, os].take 6) [d0, d1, d2, d3, d4, d5] && Region.sinkB .any [om, ok, ol, oa, oe, ox, os].toArray 6 && Region.chainB .any [om, ok, ol, oa, oe, ox, os].toArray 6 && Region.seqB .any [om, ok, ol, oa, oe, ox, os].toArray ([om, ok, ol, oa, oe, ox, os].length - 6) 6 (headOf 6 [om, ok, ol, oa, oe, ox, os].length)) = true)
    (hm0 : om.op = .move m) (hk0 : ok.op = .load tk0 src) (hl0 : ol.op = .lookup t (.tmp d0) (.tmp d1) false) (he0 : oe.op = .mapEntry t (.tmp d0) (.tmp d1)) (hx0 : ox.op = .extract (.tmp d4) 1) (hs0 : os.op = .entryStore t (.tmp d0) (.tmp d5) (.tmp d3)) (hsd : os.dst = none)
    (hg : ([om, ok, ol, oa, oe, ox, os].all fun o => o.guard.isNone) = true) (hdb : (depB ol 0 && depB ol 1 && depB oa 2 && depB oe 0 && depB oe 1 && depB ox 4) = true) (hoff : (offB [d0, d1, d2, d3, d4, d5] m && offB [d0, d1, d2, d3, d4, d5] src && offB [d0, d1, d2, d3, d4, d5] y) = true)
    (hsz : ([d0, d1, d2, d3, d4, d5].all fun d => Nat.blt d n) = true)
    (hma : xev n e m = .row i) (hya : (xev n e y).den = .v yv) (hi : hget h i = .ext (mapX P kt et n' D))
    (hT : ∀ X, XS P T n (h.set i (.ext X)) e ok.op fun v new => v.den = tvk ∧ new = none) (hkey0 : ∀ (C : Cx) (v : Value), Dn C tvk v → v = key)
    (hadd : ∀ (ev : Operand → Value) (w : World), ev (.tmp d2) = u → ev y = yv → (execOp ev oa).run P w = .ok (.value val) w)
    (K : KeyLaw P kt) (ht : P.underlying t = some (.map kt et)) (hz : ∀ w, (zeroValue et).run P w = .ok z w) (hzd : plainElem (H := Unit) P et z = some (zd, [])) (hn : n' < maxLen) (hkey : keyOf P kt key = some kl)
    (hu : ∀ v ps, plainElem (H := Unit) P et v = some (D.atKey kl zd, ps) → v = u) (hval : plainElem (H := Unit) P et val = some (d, ps))
    (hx : setK h i (.ext (mapX P kt et (n' + 1) (D.put kl d))) fun h' => k ((d5, .any) :: (d4, .any) :: (d3, .any) :: (d2, .any) :: (d1, .any) :: (d0, .any) :: e) h' gs) : RegG P B w0 T n [om, ok, ol, oa, oe, ox, os] e h gs k := .ta fun O gh Q hq => by
  refine TA.bump7 (σ := xst n e h gs) (i := i) O.mo hB hg hdb hoff hm0 hk0 hl0 he0 hx0 hs0 hsd (by simpa [xst, toL_len] using hsz) (by have := xev_den n e m; rw [hma] at this; exact this.symm) (by have := xev_den n e y; rw [hya] at this; exact this.symm) (by show hf (h.map XLB.den) i = _; rw [← hget_den, hi]; rfl)
    (tvk := tvk) (fun X => ?_) hkey0 hadd K ht hz hzd hn hkey hu hval ?_
  · obtain ⟨v, new, h1, h2, h3⟩ := XS_ok (B := B) (w0 := w0) O (hT X)
    subst h3
    rw [h2] at h1
    have e1 : (h.set i (.ext X)).map XLB.den = (xst n e h gs).h.set i (.ext X) := by simp [xst, List.map_set, XLB.den]
    rw [e1] at h1
    exact h1
  · have h1 := hq _ _ _ (setK_ok (k := fun h' => k _ h' gs) hx)
    have h2 := anyE2_s [d0, d1, d2, d3, d4, d5] e hsz
    have e1 : xst n ((d5, .any) :: (d4, .any) :: (d3, .any) :: (d2, .any) :: (d1, .any) :: (d0, .any) :: e) (h.set i (.ext (mapX P kt et (n' + 1) (D.put kl d)))) gs = ⟨anyS (toL n e) [d0, d1, d2, d3, d4, d5], (h.map XLB.den).set i (.ext (mapX P kt et (n' + 1) (D.put kl d))), denG gs⟩ := by
      simp only [xst, List.map_set, XLB.den, ← h2]
      rfl
    rw [e1] at h1
    exact h1
/-- 'for .. range m': the map's entries are told; behind the loop they are not. -/
theorem XT.rangeM (O : TabOk P T) {K : XQ} {id : Nat} {ops : Array Oper} {b : Code} (mm : Nat) {o : Oper} {t : TypeId} {m : Operand} {d : Tmp} (hops : ops.toList.drop mm = [o]) (ho : o.op = .range t m) (hog : o.guard = none) (hod : o.dst = some d) (hd : Nat.blt d n = true)
    (hx : XL P B w0 T n ops.toList (ops.toList.take mm) e h gs fun e1 h1 gs1 => ∃ (i n' : Nat) (D : DataW Unit) (kt et : TypeId), xev n e1 m = .row i ∧ hget h1 i = .ext (mapX P kt et n' D) ∧ P.underlying t = some (.map kt et) ∧
      ∀ (g : Nat) (es : Array MapEntry) (clock r : Nat), Fit P kt (plainElem (H := Unit) P et) es clock → es.size ≤ n' → D = .map ((es.toList.map (rg P kt (plainElem (H := Unit) P et))).foldr DataW.insert []) →
        setK h1 i (.ext (mapEX P kt et n' g es clock D)) fun h2 => appK h2 [.ext (iterX r g clock #[] clock)] fun h3 => X P B w0 T n b ((d, .p (.v (.pointer (some ⟨r, 0, none⟩))) (nlv _)) :: e1) h3 gs1 fun ex e4 h4 gs4 => hget h4 i = .ext (mapEX P kt et n' g es clock D) ∧ setK h4 i (.ext (mapX P kt et n' D)) fun h5 => K ex e4 h5 gs4) :
    XT P B w0 n (.seq (.region id ops false) b) e h gs K := ⟨fun gh Q hq => by
  refine .seq (.region ?_)
  rw [← List.take_append_drop mm ops.toList, hops]
  refine .cat ?_
  refine XL_ok O ops gh _ hx fun e1 h1 gs1 hh => ?_
  obtain ⟨i, n', D, kt, et, g1, g2, g3, g4⟩ := hh
  refine TL.range (i := i) (n := n') (D := D) hog ho (by have := xev_den n e1 m; rw [g1] at this; exact this.symm) (by show hf (h1.map XLB.den) i = _; rw [← hget_den, g2]; rfl) g3 fun g es clock r hF hs hD => .nil ?_
  have hh := appK_ok (setK_ok (k := fun h2 => appK h2 _ _) (g4 g es clock r hF hs hD))
  rw [hod]
  have e2 : (⟨(xst n e1 h1 gs1).s.set d (.v (.pointer (some ⟨r, 0, none⟩))), (xst n e1 h1 gs1).h.set i (.ext (mapEX P kt et n' g es clock D)) ++ [.ext (iterX r g clock #[] clock)], (xst n e1 h1 gs1).g⟩ : St) = xst n ((d, .p (.v (.pointer (some ⟨r, 0, none⟩))) (nlv _)) :: e1) (h1.set i (.ext (mapEX P kt et n' g es clock D)) ++ [.ext (iterX r g clock #[] clock)]) gs1 := by
    simp only [xst, toL_set e1 _ (Nat.blt_eq.mp hd), List.map_append, List.map_set, XLB.den, List.map_cons, List.map_nil]
    rfl
  show TW P B w0 gh b _ Q
  rw [e2]
  refine fun ρ a w hr => wp_mono ((X_ok O hh).ok gh (fun ex σ => ∃ σ', (∀ ρ a w, RelS B w0 gh ρ σ a w → ∃ ρ', RelS B w0 gh ρ' σ' a w) ∧ Q ex σ') (fun ex e4 h4 gs4 h5 => ?_) ρ a w hr) ?_
  · obtain ⟨h6, h7⟩ := h5
    refine ⟨xst n e4 (h4.set i (.ext (mapX P kt et n' D))) gs4, ?_, hq _ _ _ _ (setK_ok (k := fun h5 => K ex e4 h5 gs4) h7)⟩
    have := SLe.mapE (P := P) (B := B) (w0 := w0) (gh := gh) (σ := xst n e4 h4 gs4) (i := i) (k := kt) (e := et) (n := n') (g := g) (es := es) (clock := clock) (D := D) (by show hf (h4.map XLB.den) i = _; rw [← hget_den, h6]; rfl)
    intro ρ a w hr
    obtain ⟨ρ', hr'⟩ := this ρ a w hr
    refine ⟨ρ', ?_⟩
    have e3 : xst n e4 (h4.set i (.ext (mapX P kt et n' D))) gs4 = ⟨(xst n e4 h4 gs4).s, (xst n e4 h4 gs4).h.set i (.ext (mapX P kt et n' D)), (xst n e4 h4 gs4).g⟩ := by simp only [xst, List.map_set, XLB.den]
    rw [e3]
    exact hr'
  · rintro ex a w ⟨σ, ρ, ⟨σ', h1, h2⟩, hr⟩
    obtain ⟨ρ', hr'⟩ := h1 _ _ _ hr
    exact ⟨σ', ρ', h2, hr'⟩⟩
/-- A step through the entries. -/
theorem XT.nextM (O : TabOk P T) {K : XQ} {id : Nat} {ops : Array Oper} {b : Code} {o : Oper} {rest : List Oper} {it : Operand} {d : Tmp} (i j : Nat) {kt et : TypeId} {n' g r since c0 clock : Nat} {seen : Array Nat} {es : Array MapEntry} {D : DataW Unit} {hp : Nl (.v (.pointer (some ⟨r, 0, none⟩)))}
    (hops : ops.toList = o :: rest) (ho : o.op = .next it false) (hog : o.guard = none) (hod : o.dst = some d) (hd : Nat.blt d n = true) (hit : xev n e it = .p (.v (.pointer (some ⟨r, 0, none⟩))) hp) (hi : hget h i = .ext (mapEX P kt et n' g es clock D)) (hj : hget h j = .ext (iterX r g since seen c0))
    (hold : ∀ x ∈ es.toList, x.born < since) (hsc : since ≤ c0)
    (h0 : (_root_.Go.leftOf es seen).size = 0 → XL P B w0 T n ops.toList rest ((d, .tu [.p (.v (.bool false)) (nlv _)]) :: e) h gs fun e h gs => X P B w0 T n b e h gs K)
    (h1 : ∀ x ∈ (_root_.Go.leftOf es seen).toList, setK h j (.ext (iterX r g since (seen.push x.born) clock)) fun h' => XL P B w0 T n ops.toList rest ((d, .tu [.p (.v (.bool true)) (nlv _), .p (.v x.key) (nlv _), .p (.v x.val) (nlv _)]) :: e) h' gs fun e h gs => X P B w0 T n b e h gs K) :
    XT P B w0 n (.seq (.region id ops false) b) e h gs K := ⟨fun gh Q hq => by
  refine .seq (.region ?_)
  rw [hops]
  refine TL.next (t := 0) (σ := xst n e h gs) (i := i) (j := j) hog ho (by have := xev_den n e it; rw [hit] at this; exact this.symm) (by show hf (h.map XLB.den) i = _; rw [← hget_den, hi]; rfl) (by show hf (h.map XLB.den) j = _; rw [← hget_den, hj]; rfl) hold hsc (fun hl => ?_) (fun x hx => ?_)
  · rw [hod]
    have e2 : (⟨(xst n e h gs).s.set d (.tup [.v (.bool false)]), (xst n e h gs).h, (xst n e h gs).g⟩ : St) = xst n ((d, .tu [.p (.v (.bool false)) (nlv _)]) :: e) h gs := by
      simp only [xst, toL_set e _ (Nat.blt_eq.mp hd)]
      rfl
    show TL P B w0 gh ops rest _ _
    rw [e2]
    exact XL_ok O ops gh _ (h0 hl) fun e h gs hh => (X_ok O hh).ok gh Q hq
  · rw [hod]
    have e2 : (⟨(xst n e h gs).s.set d (.tup [.v (.bool true), .v x.key, .v x.val]), (xst n e h gs).h.set j (.ext (iterX r g since (seen.push x.born) clock)), (xst n e h gs).g⟩ : St) = xst n ((d, .tu [.p (.v (.bool true)) (nlv _), .p (.v x.key) (nlv _), .p (.v x.val) (nlv _)]) :: e) (h.set j (.ext (iterX r g since (seen.push x.born) clock))) gs := by
      simp only [xst, toL_set e _ (Nat.blt_eq.mp hd), List.map_set, XLB.den]
      rfl
    show TL P B w0 gh ops rest _ _
    rw [e2]
    exact XL_ok O ops gh _ (setK_ok (k := fun h' => XL P B w0 T n ops.toList rest _ h' gs _) (h1 x hx)) fun e h gs hh => (X_ok O hh).ok gh Q hq⟩
/-- The entry at which the iterator stands. -/
theorem XT.entM (O : TabOk P T) {K : XQ} {id : Nat} {ops : Array Oper} {b : Code} {o : Oper} {rest : List Oper} {it : Operand} {d : Tmp} (i j : Nat) {kt et : TypeId} {n' g r since clock : Nat} {seen : Array Nat} {es : Array MapEntry} {D : DataW Unit} {x : MapEntry} {hp : Nl (.v (.pointer (some ⟨r, 0, none⟩)))}
    (hops : ops.toList = o :: rest) (ho : o.op = .entry it) (hog : o.guard = none) (hod : o.dst = some d) (hd : Nat.blt d n = true) (hit : xev n e it = .p (.v (.pointer (some ⟨r, 0, none⟩))) hp) (hi : hget h i = .ext (mapEX P kt et n' g es clock D)) (hj : hget h j = .ext (iterX r g since (seen.push x.born) clock))
    (hx : x ∈ es.toList) (hn : (es.toList.map (·.born)).Nodup) (kx : XV) (hk : ∀ C : Cx, Dn C kx.den x.key)
    (h1 : XL P B w0 T n ops.toList rest ((d, .tu [kx, .p (.v x.val) (nlv _)]) :: e) h gs fun e h gs => X P B w0 T n b e h gs K) :
    XT P B w0 n (.seq (.region id ops false) b) e h gs K := ⟨fun gh Q hq => by
  refine .seq (.region ?_)
  rw [hops]
  refine S_entry (σ := xst n e h gs) (h := (xst n e h gs).h) (s := (xst n e h gs).s) (i := i) (j := j) ho (by have := xev_den n e it; rw [hit] at this; exact this.symm) (by show hf (h.map XLB.den) i = _; rw [← hget_den, hi]; rfl) (by show hf (h.map XLB.den) j = _; rw [← hget_den, hj]; rfl) hx hk hn ?_ hog
  rw [hod]
  have e2 : (⟨(xst n e h gs).s.set d (.tup [kx.den, .v x.val]), (xst n e h gs).h, (xst n e h gs).g⟩ : St) = xst n ((d, .tu [kx, .p (.v x.val) (nlv _)]) :: e) h gs := by
    simp only [xst, toL_set e _ (Nat.blt_eq.mp hd)]
    rfl
  show TL P B w0 gh ops rest _ _
  rw [e2]
  exact XL_ok O ops gh _ h1 fun e h gs hh => (X_ok O hh).ok gh Q hq⟩
/-- Three statements whose ends are told in one form; what is behind them is walked once. -/
theorem XT.cut3 (O : TabOk P T) {K : XQ} {a b c d : Code} {Y : Type} (ds : List Nat) (us : Y → Env) (hs : Y → List (Nat × XLB)) (r : Y → Prop)
    (ha : X P B w0 T n a e h gs fun ex e1 h1 g1 => match ex with
      | .normal => X P B w0 T n b e1 h1 g1 fun ex e1 h1 g1 => match ex with
        | .normal => X P B w0 T n c e1 h1 g1 fun ex e1 h1 g1 => match ex with
          | .normal => ∃ y, r y ∧ ∃ js, LeFz (us y ++ dropE ds e) (setsH h (hs y)) gs js e1 h1 g1
          | ex => K ex e1 h1 g1
        | ex => K ex e1 h1 g1
      | ex => K ex e1 h1 g1)
    (hb : ∀ y, r y → forceE (us y ++ dropE ds e) fun e' => forceH (setsH h (hs y)) fun h' => X P B w0 T n d e' h' gs K) : XT P B w0 n (.seq a (.seq b (.seq c d))) e h gs K := ⟨fun gh Q hq => by
  refine .seq ((X_ok O ha).ok gh _ fun ex e1 h1 g1 hk => ?_)
  cases ex <;> try exact hq _ _ _ _ hk
  refine .seq ((X_ok O hk).ok gh _ fun ex e1 h1 g1 hk => ?_)
  cases ex <;> try exact hq _ _ _ _ hk
  refine .seq ((X_ok O hk).ok gh _ fun ex e1 h1 g1 hk => ?_)
  cases ex <;> try exact hq _ _ _ _ hk
  obtain ⟨y, hy, js, hl⟩ := hk
  have := forceH_ok (k := fun h' => X P B w0 T n d _ h' gs K) (forceE_ok (k := fun e' => forceH (setsH h (hs y)) fun h' => X P B w0 T n d e' h' gs K) (hb y hy))
  exact TW.le ((X_ok O this).ok gh Q hq) (hl.sle gh)⟩
end
end Go.Proofs.Ytmhmldpccccjbaa
