/- A drawn region with a chain of operations on one local row: the rule. Condition: the edges that the text says. -/
import Derived.Test.YtpgfhkbnngjegaaGreatDoorT32
namespace Go.Proofs.YtpgfhkbnngjegaaGreatDoor
open Go.RowKit
set_option linter.unusedVariables false
set_option linter.unusedSimpArgs false
theorem tmps_mem {t : Tmp} : ∀ {xs : List Operand},t ∈ tmpsOf xs→.tmp t ∈ xs
 | [],h=>by simp [tmpsOf] at h
 | x :: xs,h=>by
  cases x with
  | tmp d=>
   simp only [tmpsOf,List.mem_append,List.mem_cons,List.mem_singleton,List.not_mem_nil,or_false] at h
   rcases h with h | h
   ·subst h; simp
   ·exact List.mem_cons_of_mem _ (tmps_mem h)
  | _=>exact List.mem_cons_of_mem _ (tmps_mem (by simpa [tmpsOf] using h))
theorem filterMap_len {α β : Type} (f : α→Option β) : ∀ (L : List α),(∀ x ∈ L,(f x).isSome = true)→(L.filterMap f).length = L.length
 | [],_=>rfl
 | x :: L,h=>by
  obtain ⟨y,hy⟩:=Option.isSome_iff_exists.1 (h x (by simp))
  rw [List.filterMap_cons_some hy,List.length_cons,List.length_cons,filterMap_len f L fun z hz=>h z (by simp [hz])]
theorem updf_updf {α : Type} (f : Nat→α) (i : Nat) (x y : α) : updf (updf f i x) i y = updf f i y:=by
 funext k
 by_cases h : k = i
 ·subst h; rw [updf_same,updf_same]
 ·rw [updf_ne _ _ h,updf_ne _ _ h,updf_ne _ _ h]
theorem hf_mem {h : List LB} (p : Nat→Bool) (hk : ∀ lb ∈ h,lb.kp p = lb) (k : Nat) : (hf h k).kp p = hf h k:=by
 rcases Nat.lt_or_ge k h.length with h1 | h1
 ·exact hk _ (by simp [hf,List.getD,h1])
 ·rw [hf_ge h1]; rfl
theorem nodup_idx {α : Type} {L : List α} (h : L.Nodup) {i j : Nat} {x : α} (hi : L[i]? = some x) (hj : L[j]? = some x) : i = j:=by
 obtain ⟨h1,h2⟩:=List.getElem?_eq_some_iff.1 hi
 obtain ⟨h3,h4⟩:=List.getElem?_eq_some_iff.1 hj
 rcases Nat.lt_trichotomy i j with h5 | h5 | h5
 ·exact absurd (h2.trans h4.symm) (List.pairwise_iff_getElem.1 h i j h1 h3 h5)
 ·exact h5
 ·exact absurd (h4.trans h2.symm) (List.pairwise_iff_getElem.1 h j i h3 h1 h5)
def gC (i : Nat) (g : List TV) : Nat→List TV
 | 0=>g
 | _ + 1=>kpL (bar i) g
section
variable {P : Program} {B : Nat} {w0 : World} {gh : List Value} {l : List Oper}
theorem TA.chain {Q : Exit→St→Prop} {σ : St} (n : Nat) (qd : List (Nat × Nat)) (ms : List Nat) (t0 i : Nat) (hB : chB l n qd ms t0 = true) {r : LB} (hi : hf σ.h i = r) (hil : i < σ.h.length) (hne : qd ≠ []) (ht0 : σ.s.getD t0 .any = .row i) (hlen : ∀ x ∈ qd,x.2 < σ.s.length)
  (h : TPc P B w0 i (pickL ms l) σ.s (σ.h.set i .none) fun s h=>(∀ lb ∈ h,lb.kp (bar i) = lb)∧∃ rs,ChainR P B w0 i l s h t0 r qd rs∧TL P B w0 gh l.toArray (l.drop n) ⟨endC i (qd.map (·.2)) s,h.set i (rs.getLastD .none),kpL (bar i) σ.g⟩ Q) : TA P B w0 gh l.toArray σ Q:=fun ρ a w hr=>by
 obtain ⟨m,hmm⟩ : ∃ m,pickL ms l = m:=⟨_,rfl⟩
 obtain ⟨ds,hds⟩ : ∃ ds,qd.map (·.2) = ds:=⟨_,rfl⟩
 unfold chB at hB
 rw [hmm,hds] at hB
 rw [hmm,hds] at h
 simp only [Bool.and_eq_true,Bool.or_eq_true,decide_eq_true_eq] at hB
 obtain ⟨⟨⟨⟨⟨⟨⟨⟨⟨⟨⟨⟨⟨hb,hn⟩,hp⟩,hms⟩,hqs⟩,hcov⟩,hnd⟩,hndq⟩,hndd⟩,hdis⟩,hside⟩,ht0d⟩,hch⟩,htail⟩:=hB
 have hms' : ∀ j ∈ ms,j < n:=fun j hj=>by simpa using List.all_eq_true.1 hms j hj
 have hqs' : ∀ (k : Nat) (x : Nat × Nat),qd[k]? = some x→x.1 < n:=fun k x hx=>by simpa using List.all_eq_true.1 hqs x (List.mem_of_getElem? hx)
 have hsome : ∀ j ∈ ms,((l[j]?)).isSome = true:=fun j hj=>by
  have:=hms' j hj
  simp [show j < l.length by omega]
 have hml : m.length = ms.length:=by rw [← hmm]; exact filterMap_len _ _ hsome
 have hmk : ∀ (p : Nat) (o : Oper),m[p]? = some o→∃ j,ms[p]? = some j∧l[j]? = some o:=fun p o ho=>by
  rw [← hmm] at ho
  unfold pickL at ho
  rw [filterMap_get _ _ hsome p] at ho
  cases hj : ms[p]? with
  | none=>rw [hj] at ho; cases ho
  | some j=>rw [hj] at ho; exact ⟨j,rfl,ho⟩
 obtain ⟨ix,hixd⟩ : ∃ ix : Nat→Nat,ix = fun p=>ms.getD p 0:=⟨_,rfl⟩
 have hixj : ∀ p j,ms[p]? = some j→ix p = j:=fun p j hj=>by rw [hixd]; simp [List.getD,hj]
 have hix : ∀ (p : Nat) (o : Oper),m[p]? = some o→l[ix p]? = some o:=fun p o ho=>by
  obtain ⟨j,h1,h2⟩:=hmk p o ho
  rw [hixj p j h1]; exact h2
 have hinj : ∀ p q,p < m.length→q < m.length→ix p = ix q→p = q:=fun p q hp' hq' e=>by
  have h1 : ms[p]? = some (ms[p]'(by omega)):=List.getElem?_eq_getElem _
  have h2 : ms[q]? = some (ms[q]'(by omega)):=List.getElem?_eq_getElem _
  rw [hixj _ _ h1,hixj _ _ h2] at e
  exact nodup_idx hnd h1 (by rw [e]; exact h2)
 have hixlt : ∀ p,p < m.length→ix p < n:=fun p hp'=>by
  have h1 : ms[p]? = some (ms[p]'(by omega)):=List.getElem?_eq_getElem _
  rw [hixj _ _ h1]; exact hms' _ (List.getElem_mem _)
 have hixq : ∀ p,p < m.length→∀ (k : Nat) (x : Nat × Nat),qd[k]? = some x→ix p ≠ x.1:=fun p hp' k x hx e=>by
  have h1 : ms[p]? = some (ms[p]'(by omega)):=List.getElem?_eq_getElem _
  rw [hixj _ _ h1] at e
  have h2:=List.all_eq_true.1 hdis _ (List.getElem_mem (show p < ms.length by omega))
  simp only [Bool.not_eq_true'] at h2
  have h3 : (qd.map (·.1)).contains (ms[p]'(by omega)) = true:=by
   rw [List.contains_iff_mem,e]
   exact List.mem_map.2 ⟨x,List.mem_of_getElem? hx,rfl⟩
  rw [h3] at h2
  cases h2
 have hinv : ∀ j,j < n→(∃ p,p < m.length∧ix p = j)∨∃ (k : Nat) (x : Nat × Nat),qd[k]? = some x∧x.1 = j:=fun j hj=>by
  have h1:=List.all_eq_true.1 hcov j (List.mem_range.2 hj)
  simp only [Bool.or_eq_true,List.contains_iff_mem] at h1
  rcases h1 with h1 | h1
  ·obtain ⟨p,hp',h2⟩:=List.getElem_of_mem h1
   exact .inl ⟨p,by omega,hixj _ _ (by rw [← h2]; exact List.getElem?_eq_getElem _)⟩
  ·obtain ⟨x,hx,h2⟩:=List.mem_map.1 h1
   obtain ⟨k,hk,h3⟩:=List.getElem_of_mem hx
   exact .inr ⟨k,x,by rw [← h3]; exact List.getElem?_eq_getElem _,h2⟩
 have hdsk : ∀ (k : Nat) (x : Nat × Nat),qd[k]? = some x→ds[k]? = some x.2:=fun k x hx=>by rw [← hds,List.getElem?_map,hx]; rfl
 have hqinj : ∀ (k k' : Nat) (x x' : Nat × Nat),qd[k]? = some x→qd[k']? = some x'→x.1 = x'.1→k = k':=fun k k' x x' h1 h2 e=>
  nodup_idx hndq (x:=x.1) (by rw [List.getElem?_map,h1]; rfl) (by rw [List.getElem?_map,h2,e]; rfl)
 have hdinj : ∀ (k k' d : Nat),ds[k]? = some d→ds[k']? = some d→k = k':=fun k k' d h1 h2=>nodup_idx hndd h1 h2
 obtain ⟨S,H,V,N,e1,e2,⟨hkh,rs,hC,hT⟩,e4⟩:=runs_c m σ.s (σ.h.set i .none) _ h
 have R : Runs P B w0 l m S H V N (fun _=>true) (fun _=>false):=⟨fun p o hpl ho=>by
  obtain ⟨f1,f2,f3,f4,f5,f6⟩:=e4 p o ho
  exact ⟨by simp [Wants,f1],fun _ _=>f2,fun h=>(by cases h),f5,f6⟩⟩
 have hp' : parB l m ix = true:=by rw [hixd]; exact hp
 have hg0 : ∀ (p : Nat) (o : Oper),m[p]? = some o→o.guard = none:=fun p o ho=>(e4 p o ho).1
 have hreads : ∀ (p : Nat) (o : Oper) (t : Nat),m[p]? = some o→t ∈ readsOf l o→ds.contains t = false:=fun p o t ho ht=>by
  have h1:=List.all_eq_true.1 hside o (List.mem_of_getElem? ho)
  simp only [Bool.and_eq_true] at h1
  have h2:=List.all_eq_true.1 h1.1 t ht
  simpa using h2
 have hdstd : ∀ (p : Nat) (o : Oper) (t : Nat),m[p]? = some o→o.dst = some t→ds.contains t = false∧t ≠ t0:=fun p o t ho ht=>by
  have h1:=List.all_eq_true.1 hside o (List.mem_of_getElem? ho)
  simp only [Bool.and_eq_true] at h1
  have h2:=h1.2
  rw [ht] at h2
  simp only [Bool.and_eq_true,Bool.not_eq_true'] at h2
  exact ⟨h2.1,fun e=>by subst e; simp at h2⟩
 have hi0 : i < (H 0).length:=by rw [e2]; simpa using hil
 have hin : hf (H 0) i = .none:=by rw [e2,hf_set hil,updf_same]
 have hSl : (S m.length).length = σ.s.length:=by rw [R.slen m.length (Nat.le_refl _),e1]
 obtain ⟨hrl,hget⟩:=hC.get
 have htl0 : t0 < σ.s.length:=by
  rcases Nat.lt_or_ge t0 σ.s.length with h1 | h1
  ·exact h1
  ·simp [List.getD,List.getElem?_eq_none h1] at ht0
 have hslen : ∀ c,(slotC i ds σ.s c).length = σ.s.length:=slotC_len i ds σ.s
 have hslot : ∀ c t,c ≤ ds.length→ds.contains t = false→kp (bar i) (σ.s.getD t .any) = σ.s.getD t .any→(slotC i ds σ.s c).getD t .any = σ.s.getD t .any:=fun c t hc hdt hk=>by
  cases c with
  | zero=>rfl
  | succ c=>
   rcases Nat.lt_or_ge t σ.s.length with h1 | h1
   ·rw [slotC_at h1,if_neg,if_neg,hk]
    ·intro h2
     have : t ∈ ds:=List.mem_of_mem_take (by simpa using h2)
     rw [List.contains_iff_mem.2 this] at hdt; cases hdt
    ·intro h2
     have : t ∈ ds:=List.mem_of_getElem? h2
     rw [List.contains_iff_mem.2 this] at hdt; cases hdt
   ·have h2 : (slotC i ds σ.s (c + 1)).length ≤ t:=by rw [hslen]; exact h1
    rw [List.getD_eq_getElem?_getD,List.getD_eq_getElem?_getD,List.getElem?_eq_none h1,List.getElem?_eq_none h2]
 have hnoS : ∀ (t : Nat) (p : Nat),p ≤ m.length→(∀ (q : Nat) (oq : Oper),m[q]? = some oq→oq.dst ≠ some t)→(S p).getD t .any = σ.s.getD t .any:=fun t p hpl hno=>by
  rcases Nat.lt_or_ge t (S 0).length with htl | htl
  ·rcases R.slot htl p hpl with ⟨j,oj,h1,h2,h3,h4⟩ | ⟨h1,h2⟩
   ·exact absurd h3 (hno j oj h2)
   ·rw [List.getD_eq_getElem?_getD,List.getD_eq_getElem?_getD,h2,e1]
  ·have hSi:=R.slen p hpl
   rw [List.getD_eq_getElem?_getD,List.getD_eq_getElem?_getD,List.getElem?_eq_none (by omega),List.getElem?_eq_none (by rw [← e1]; exact htl)]
 have hs0 : ∀ c,c ≤ ds.length→∀ (p : Nat) (o : Oper) (t : Nat),m[p]? = some o→t ∈ readsOf l o→(∀ (q : Nat) (oq : Oper),m[q]? = some oq→oq.dst ≠ some t)→(slotC i ds σ.s c).getD t .any = (S 0).getD t .any:=fun c hc p o t ho ht hno=>by
  rw [e1]
  refine hslot c t hc (hreads p o t ho ht) ?_
  have hto : t ∈ tmpsOf o.op.operands.toList:=by
   unfold readsOf at ht
   rw [hg0 p o ho] at ht
   simpa using ht
  have h1:=(e4 p o ho).2.2.1 _ (tmps_mem hto)
  simp only [tev] at h1
  have hpl:=(List.getElem?_eq_some_iff.1 ho).1
  rw [hnoS t p (by omega) hno] at h1
  exact h1
 have hn' : n ≤ l.toArray.size:=by simpa using hn
 have inv0 : HeadInv .any l.toArray n (Array.replicate l.toArray.size false):=
  ⟨by simp,fun j oj _ hl=>(by rw [getD_replicate_false] at hl; cases hl),fun t _ ht=>getD_in (by simpa using ht) (getD_replicate_false _ _)⟩
 have hno : ∀ listed,HeadInv .any l.toArray n listed→(∃ i,i < n∧listed.getD i true = false)→∀ t,n ≤ t→t ∉ Region.ready .any l.toArray listed:=by
  rcases htail with hnl | ⟨⟨⟨hlt,hs⟩,hc⟩,hq⟩
  ·intro listed _ _ t ht hr
   obtain ⟨_,o,ho,_⟩:=mem_ready.1 hr
   have:=(Array.getElem?_eq_some_iff.1 ho).1
   simp at this
   omega
  ·intro listed inv ⟨i,hi,hl⟩ t ht
   exact tail_waits hs hc (by simpa using hlt) inv (n - i) i rfl hi hl t ht
 have hdl : ds.length = qd.length:=by rw [← hds]; simp
 have key:=wpAny_inv (P:=P) (ops:=l.toArray) (Q:=liftQ B w0 gh Q) (n:=n) hb hn' hno
  (fun listed a w=>∃ c,c ≤ qd.length∧(∀ (k : Nat) (x : Nat × Nat),qd[k]? = some x→listed.getD x.1 false = decide (k < c))∧∃ ρ,PIo B w0 gh m ix H V N i (rowC r rs c) (slotC i ds σ.s c) (gC i σ.g c) ρ listed a w)
  (fun listed a w j inv hI hj hl hd=>by
   obtain ⟨c,hc,hls,ρ,hI⟩:=hI
   have hsize : listed.size = l.length:=by rw [inv.size]; simp
   have hjS : j < listed.size:=by omega
   have hljf : listed.getD j false = false:=by simp only [Array.getD,hjS,dite_true] at hl ⊢; exact hl
   rcases hinv j hj with ⟨p,hpm,rfl⟩ | ⟨k,x,hkx,rfl⟩
   ·refine wpOp_mono (fun a' w' h1=>⟨c,hc,fun k x hkx=>?_,h1⟩) (side_core R (fun _ _=>rfl) (fun _=>rfl) hp' hix hinj hi0 hin (by rw [hslen,e1]) (hs0 c (by omega)) hg0 hsize hI hpm hl hd)
    rw [getD_set_ne false (fun e=>hixq p hpm k x hkx e)]
    exact hls k x hkx
   ·have hkl:=(List.getElem?_eq_some_iff.1 hkx).1
    have h1:=List.all_eq_true.1 hch k (List.mem_range.2 hkl)
    simp only [hkx] at h1
    obtain ⟨r',hr'⟩ : ∃ r',rs[k]? = some r':=⟨_,List.getElem?_eq_getElem (by omega)⟩
    obtain ⟨o,ho,hstab,hRF⟩:=hget k x r' hkx hr'
    rw [ho] at h1
    simp only [Bool.and_eq_true] at h1
    obtain ⟨⟨⟨hog,hod⟩,hot⟩,hoe⟩:=h1
    have hog : o.guard = none:=Option.isNone_iff_eq_none.1 hog
    have hod : o.dst = some x.2:=by simpa using hod
    have hck : c = k:=by
     have h2:=hls k x hkx
     rw [hljf] at h2
     have h3 : ¬ k < c:=by intro h4; rw [decide_eq_true h4] at h2; cases h2
     cases k with
     | zero=>omega
     | succ k=>
      simp only at hoe
      obtain ⟨y,hy⟩ : ∃ y,qd[k]? = some y:=⟨_,List.getElem?_eq_getElem (by omega)⟩
      rw [hy] at hoe
      obtain ⟨q,hq,h6⟩:=Array.any_eq_true.1 hoe
      simp only [Bool.and_eq_true,decide_eq_true_eq] at h6
      have h7:=hd o (by simpa using ho) _ (Array.getElem_mem hq) h6.2
      rw [h6.1,hls k y hy] at h7
      have:=of_decide_eq_true h7
      omega
    subst hck
    obtain ⟨sl,hsl⟩ : ∃ sl,slC t0 qd c = sl:=⟨_,rfl⟩
    rw [hsl] at hstab hRF
    rw [hsl] at hot
    obtain ⟨hR,hgh,hsz,hdf,hpt⟩:=hI
    have hszs : a.tmps.size = σ.s.length:=by rw [hsz,hslen]
    have hslw : ∀ (q : Nat) (oq : Oper),m[q]? = some oq→oq.dst ≠ some sl:=fun q oq hoq hdq=>by
     have h2:=hdstd q oq sl hoq hdq
     cases c with
     | zero=>exact h2.2 (by rw [← hsl]; rfl)
     | succ c=>
      obtain ⟨y,hy⟩ : ∃ y,qd[c]? = some y:=⟨_,List.getElem?_eq_getElem (by omega)⟩
      have h3 : sl = y.2:=by rw [← hsl]; simp [slC,hy]
      have h4 : ds.contains sl = true:=by rw [List.contains_iff_mem,h3]; exact List.mem_of_getElem? (hdsk c y hy)
      rw [h4] at h2; cases h2.1
    have hsls : sl < σ.s.length∧(slotC i ds σ.s c).getD sl .any = .row i:=by
     cases c with
     | zero=>
      have hsl : t0 = sl:=hsl
      subst hsl
      exact ⟨htl0,ht0⟩
     | succ c=>
      obtain ⟨y,hy⟩ : ∃ y,qd[c]? = some y:=⟨_,List.getElem?_eq_getElem (by omega)⟩
      have h3 : sl = y.2:=by rw [← hsl]; simp [slC,hy]
      have h5 : sl < σ.s.length:=by rw [h3]; exact hlen y (List.mem_of_getElem? hy)
      refine ⟨h5,?_⟩
      rw [slotC_at h5,if_pos (by rw [h3]; exact hdsk c y hy)]
    have hHi : i < (H m.length).length:=Nat.lt_of_lt_of_le hi0 (R.mono (Nat.zero_le _) (Nat.le_refl _))
    refine wpOp_step (by simpa using ho) fun K hK=>?_
    rw [show Region.wanted o (yielded l.toArray a.tmps) = true by simp [Region.wanted,hog]]
    simp only [if_true]
    refine hRF ρ (updf (hD m.length ix H N listed) i (rowC r rs c)) w a (fun q hq hnn=>?_) (updf_same _ _ _) hR (fun q hq=>?_) ?_ (fun y hy hne=>?_) K _ fun u w' ρ' R' KK hdu=>hK _ _ ?_
    ·have hqi : q ≠ i:=by
      rintro rfl
      rw [R.pre' (Nat.zero_le _) (Nat.le_refl _) hi0] at hnn
      exact hnn hin
     rw [updf_ne _ _ hqi]
     exact hD_HS R (Nat.le_refl _) q hq hnn
    ·rw [updf_ne _ _ hq]
     rcases hD_at R (ix:=ix) (listed:=listed) q with h2 | h2
     ·rw [h2]; rfl
     ·rw [h2]; exact hf_mem _ hkh q
    ·have h2 : a.tmps[sl]? = some (a.tmps.getD sl undef):=by simp [show sl < a.tmps.size by omega]
     have h3:=(hpt sl _ h2).2 fun q oq hq hoq hdq=>absurd hdq (hslw q oq hoq)
     rw [hsls.2] at h3
     exact h3
    ·cases y with
     | tmp t=>
      have h2:=List.all_eq_true.1 hot t (mem_tmpsOf hy)
      simp only [Bool.or_eq_true,Bool.and_eq_true] at h2
      rcases h2 with h2 | ⟨⟨h2,h3⟩,h4⟩
      ·exact absurd (by rw [Nat.eq_of_beq_eq_true h2]) hne
      ·simp only [Bool.not_eq_true'] at h2
       rcases Nat.lt_or_ge t a.tmps.size with htl | htl
       ·have hu : a.tmps[t]? = some (a.tmps.getD t undef):=by simp [htl]
        obtain ⟨q1,q2⟩:=hpt t _ hu
        rcases R.slot (t:=t) (by rw [e1,← hszs]; exact htl) m.length (Nat.le_refl _) with ⟨q,oq,g1,g2,g3,g4⟩ | ⟨g1,g2⟩
        ·have g5 : tev (S m.length) (.tmp t) = V q:=by simp [tev,List.getD,g4]
         rw [g5]
         refine q1 q oq g1 g2 g3 ?_
         have g6:=List.all_eq_true.1 h4 q (List.mem_range.2 (by omega))
         obtain ⟨jq,g7,g8⟩:=hmk q oq g2
         have g9 : ms.getD q 0 = jq:=by simp [List.getD,g7]
         rw [g9,g8] at g6
         simp only [Option.bind_some,g3,Bool.or_eq_true,Bool.not_eq_true'] at g6
         rcases g6 with g6 | g6
         ·simp at g6
         ·obtain ⟨qq,hqq,g10⟩:=Array.any_eq_true.1 g6
          simp only [Bool.and_eq_true,decide_eq_true_eq] at g10
          rw [hixj q jq g7,← g10.1]
          exact hd o (by simpa using ho) _ (Array.getElem_mem hqq) g10.2
        ·have hno : ∀ (j : Nat) (oj : Oper),m[j]? = some oj→oj.dst ≠ some t:=fun j oj hoj hdj=>g1 j oj (List.getElem?_eq_some_iff.1 hoj).1 hoj hdj
         have h5:=hstab _ hy hne
         simp only [tev] at h5 ⊢
         rw [hnoS t m.length (Nat.le_refl _) hno] at h5 ⊢
         rw [← hslot c t (by omega) h2 h5]
         exact q2 fun j oj hj hoj hdj=>absurd hdj (hno j oj hoj)
       ·have : tev (S m.length) (.tmp t) = .any:=by simp [tev,List.getD,List.getElem?_eq_none (show (S m.length).length ≤ t by omega)]
        rw [this]
        simp [Dn]
     | const v=>exact ofV_dn _ v
     | global g=>simp [tev,Act.eval,Dn]
     | func f=>
      simp only [tev,Act.eval,Dn]
      exact ⟨[],rfl,DnL.nil⟩
    ·have hsetp : ∀ p,p < m.length→(listed.setIfInBounds x.1 true).getD (ix p) false = listed.getD (ix p) false:=fun p hpm=>getD_set_ne false (fun e=>hixq p hpm c x hkx e.symm)
     have hDe : hD m.length ix H N (listed.setIfInBounds x.1 true) = hD m.length ix H N listed:=by
      funext q
      unfold hD
      congr 2
      apply propext
      constructor
      ·rintro ⟨p,g1,g2,g3⟩; exact ⟨p,g1,by rw [← hsetp p g1]; exact g2,g3⟩
      ·rintro ⟨p,g1,g2,g3⟩; exact ⟨p,g1,by rw [hsetp p g1]; exact g2,g3⟩
     refine ⟨c + 1,by omega,fun k' x' hk'=>?_,ρ',?_⟩
     ·by_cases hkk : k' = c
      ·subst hkk
       rw [hkx] at hk'
       injection hk' with hk'
       subst hk'
       rw [getD_set_self hjS]
       simp
      ·rw [getD_set_ne false (fun e=>hkk (hqinj _ _ _ _ hk' hkx e.symm)),hls k' x' hk']
       congr 1
       apply propext
       omega
     ·have hrc : rowC r rs (c + 1) = r':=by simp [rowC,hr']
      rw [updf_updf] at R' KK hdu
      unfold PIo
      rw [hDe,hrc,hod]
      refine ⟨R',?_,?_,by rw [put_defers]; exact hdf,fun t v ht=>?_⟩
      ·have g1:=DnL.keep KK _ _ (DnL.kp (bar i) _ _ hgh)
       cases c with
       | zero=>exact g1
       | succ c=>
        simp only [gC] at g1 ⊢
        rw [kpL_kp] at g1
        exact g1
      ·rw [hslen,← hszs]; simp [Act.put]
      ·by_cases htd : t = x.2
       ·subst htd
        have hv : v = u:=by
         simp only [Act.put,Array.getElem?_setIfInBounds_self] at ht
         split at ht
         ·injection ht with ht; exact ht.symm
         ·cases ht
        subst hv
        have hcon : ds.contains x.2 = true:=by rw [List.contains_iff_mem]; exact List.mem_of_getElem? (hdsk c x hkx)
        refine ⟨fun p o hp hop hdp _=>?_,fun _=>?_⟩
        ·have:=(hdstd p o x.2 hop hdp).1
         rw [hcon] at this; cases this
        ·rw [slotC_at (hlen x (List.mem_of_getElem? hkx)),if_pos (hdsk c x hkx)]
         exact hdu
       ·have ht' : a.tmps[t]? = some v:=by
         simp only [Act.put] at ht
         rw [Array.getElem?_setIfInBounds_ne (fun e=>htd e.symm)] at ht
         exact ht
        obtain ⟨q1,q2⟩:=hpt t v ht'
        refine ⟨fun p o hp hop hdp hlp=>?_,fun hall=>?_⟩
        ·have g1:=q1 p o hp hop hdp (by rw [← hsetp p hp]; exact hlp)
         have g2:=Dn.keep KK _ _ (Dn.kp (bar i) _ _ g1)
         rwa [(e4 p o hop).2.2.2.1] at g2
        ·have g1:=q2 fun p o hp hop hdp=>by rw [← hsetp p hp]; exact hall p o hp hop hdp
         have g2:=Dn.keep KK _ _ (Dn.kp (bar i) _ _ g1)
         have htl : t < σ.s.length:=by rw [← hszs]; exact (Array.getElem?_eq_some_iff.1 ht').1
         have hnx : ¬ ds[c]? = some t:=fun e=>by
          rw [hdsk c x hkx] at e
          injection e with e
          exact htd e.symm
         rw [slotC_at htl,if_neg hnx]
         split
         ·simp [Dn]
         ·rename_i hnc
          cases c with
          | zero=>exact g2
          | succ c=>
           rw [slotC_at htl] at g2
           have hn1 : ¬ ds[c]? = some t:=fun e=>hnc (by
            rw [List.contains_iff_mem]
            have hcl:=(List.getElem?_eq_some_iff.1 e).1
            exact List.mem_of_getElem? (i:=c) (by rw [List.getElem?_take_of_lt (by omega)]; exact e))
           have hn2 : ¬ (ds.take c).contains t = true:=fun e=>hnc (by
            rw [List.contains_iff_mem] at e ⊢
            exact (List.take_subset_take_left ds (by omega)) e)
           rw [if_neg hn1,if_neg hn2,kp_kp] at g2
           exact g2)
  (fun listed a' w' inv hall hI=>by
   have hlist:=headOf_eq hn' inv hall
   subst hlist
   have hl : ∀ i,i < n→(headOf n l.toArray.size).getD i false = true:=fun i hi=>by
    have h1:=hall i hi
    have h2 : i < (headOf n l.toArray.size).size:=by rw [inv.size]; omega
    simp only [Array.getD,h2,dite_true] at h1 ⊢
    exact h1
   obtain ⟨c,hc,hls,ρ',hR,hgh,hsz,hdf,hpt⟩:=hI
   have hcl : c = qd.length:=by
    rcases Nat.lt_or_ge c qd.length with h1 | h1
    ·obtain ⟨x,hx⟩ : ∃ x,qd[c]? = some x:=⟨_,List.getElem?_eq_getElem h1⟩
     have h2:=hls c x hx
     rw [hl x.1 (hqs' c x hx)] at h2
     simp at h2
    ·omega
   obtain ⟨c',rfl⟩ : ∃ c',c = c' + 1:=⟨c - 1,by have:=List.length_pos_iff.2 hne; omega⟩
   have hDa : hD m.length ix H N (headOf n l.toArray.size) = hf (H m.length):=hD_all R fun p hp=>hl _ (hixlt p hp)
   have hHi : i < (H m.length).length:=Nat.lt_of_lt_of_le hi0 (R.mono (Nat.zero_le _) (Nat.le_refl _))
   have hlast : rowC r rs (c' + 1) = rs.getLastD .none:=by
    simp only [rowC]
    rw [List.getLastD_eq_getLast?,List.getLast?_eq_getElem?,← hrl,← hcl]
    simp
   have hRS : RelS B w0 gh ρ' ⟨endC i ds (S m.length),(H m.length).set i (rs.getLastD .none),kpL (bar i) σ.g⟩ a' w':=by
    rw [hDa,hlast] at hR hgh hpt
    have hel : (endC i ds (S m.length)).length = σ.s.length:=by unfold endC; rw [List.length_set,fold_any_len,kpL_len,hSl]
    obtain ⟨x,hx⟩ : ∃ x,qd[c']? = some x:=⟨_,List.getElem?_eq_getElem (by omega)⟩
    have hdx:=hdsk c' x hx
    have hdlast : ds.getLastD 0 = x.2:=by
     rw [List.getLastD_eq_getLast?,List.getLast?_eq_getElem?,hdl,← hcl]
     simp [hdx]
    have hdd : ds.dropLast = ds.take c':=by rw [List.dropLast_eq_take,hdl,← hcl]; rfl
    refine ⟨dnl_of_point _ _ (by rw [hel]; simp [hsz,hslen]) fun t y u hy hu=>?_,?_,?_,hdf⟩
    ·simp only [hf_set hHi]
     have hu' : a'.tmps[t]? = some u:=by rw [← Array.getElem?_toList]; exact hu
     have htl : t < σ.s.length:=by rw [← hel]; exact (List.getElem?_eq_some_iff.1 hy).1
     have hy' : y = (endC i ds (S m.length)).getD t .any:=by simp [List.getD,hy]
     obtain ⟨q1,q2⟩:=hpt t u hu'
     rw [hy']
     unfold endC
     rw [hdlast,hdd]
     by_cases htx : t = x.2
     ·subst htx
      have hcon : ds.contains x.2 = true:=by rw [List.contains_iff_mem]; exact List.mem_of_getElem? hdx
      have g1:=q2 fun p o hp hop hdp=>by
       have:=(hdstd p o x.2 hop hdp).1
       rw [hcon] at this; cases this
      rw [slotC_at htl,if_pos hdx] at g1
      rw [List.getD_eq_getElem?_getD,List.getElem?_set_self (by rw [fold_any_len,kpL_len,hSl]; exact htl)]
      exact g1
     ·rw [List.getD_eq_getElem?_getD,List.getElem?_set_ne (fun e=>htx e.symm),← List.getD_eq_getElem?_getD,fold_any]
      split
      ·simp [Dn]
      ·rename_i hnc
       rw [kpL_getD]
       rcases R.slot (t:=t) (by rw [e1]; exact htl) m.length (Nat.le_refl _) with ⟨q,oq,g1,g2,g3,g4⟩ | ⟨g1,g2⟩
       ·have g5 : (S m.length).getD t .any = V q:=by simp [List.getD,g4]
        rw [g5,(e4 q oq g2).2.2.2.1]
        exact q1 q oq g1 g2 g3 (hl _ (hixlt q g1))
       ·have g5 : (S m.length).getD t .any = σ.s.getD t .any:=by rw [List.getD_eq_getElem?_getD,List.getD_eq_getElem?_getD,g2,e1]
        rw [g5]
        have g6:=q2 fun p o hp hop hdp=>absurd hdp (g1 p o hp hop)
        rw [slotC_at htl,if_neg (fun e=>by rw [hdx] at e; injection e with e; exact htx e.symm),if_neg hnc] at g6
        exact g6
    ·simp only [hf_set hHi]; exact hgh
    ·simp only [hf_set hHi]; exact hR
   have hT':=hT ρ' a' w' hRS
   rcases htail with hnl | ⟨⟨⟨hlt,hs⟩,hc⟩,hq⟩
   ·have hdr : l.drop n = []:=by rw [hnl]; simp
    rw [hdr] at hT'
    have hrd : Region.ready .any l.toArray (headOf n l.toArray.size) = []:=by
     rw [List.eq_nil_iff_forall_not_mem]
     intro t hr'
     obtain ⟨hl',o,ho,_⟩:=mem_ready.1 hr'
     have:=(Array.getElem?_eq_some_iff.1 ho).1
     have hlt : t < l.length:=by simpa using this
     have h5:=hl t (by omega)
     have h6 : t < (headOf n l.toArray.size).size:=by rw [inv.size]; exact this
     simp only [Array.getD,h6,dite_true] at hl' h5
     rw [hl'] at h5
     cases h5
    rw [show l.toArray.size - n = 0 by simp; omega]
    exact ⟨hrd,hT'⟩
   ·have:=wpAny_of_seq (P:=P) (ops:=l.toArray) (md:=.any) (Q':=liftQ B w0 gh Q) (l.drop n) n (headOf n l.length) a' w' (fun j=>by simp [List.getElem?_drop]) (by rw [List.length_drop]; exact hq) hT'
    simpa using this)
  (leftOf n (Array.replicate l.toArray.size false)) _ a w.drew inv0 rfl
  ⟨0,Nat.zero_le _,fun k x _=>by rw [getD_replicate_false]; simp,ρ,by
   have hD0 : updf (hD m.length ix H N (Array.replicate l.toArray.size false)) i (rowC r rs 0) = hf σ.h:=by
    funext q
    by_cases hqi : q = i
    ·subst hqi; rw [updf_same]; exact hi.symm
    ·rw [updf_ne _ _ hqi]
     unfold hD
     rw [e2]
     split
     ·rw [hf_set hil,updf_ne _ _ hqi]
     ·rename_i h0
      rw [if_neg,hf_ge (by simpa using h0)]
      rintro ⟨i,_,h1,_⟩
      rw [getD_replicate_false] at h1
      cases h1
   unfold PIo
   rw [hD0]
   have hb0 : Below w.heap.size w w.drew:=(Below.refl _ _).drew
   have KK : Keeps (cxOf B ρ (hf σ.h) w) (cxOf B ρ (hf σ.h) w.drew):=.grow hb0
   refine ⟨hr.rel.grow hb0,DnL.keep KK _ _ hr.ghost,by have:=hr.slots.len; simpa [slotC] using this,hr.defers,fun t u hu=>⟨fun i o hi ho hd hl=>(by rw [getD_replicate_false] at hl; cases hl),fun _=>?_⟩⟩
   have hsl:=tev_dn hr.slots (.tmp t)
   have h2 : a.eval (.tmp t) = u:=by simp [Act.eval,Array.getD_eq_getD_getElem?,hu]
   rw [h2] at hsl
   exact Dn.keep KK _ _ hsl⟩
 have hleft : leftOf n (Array.replicate l.toArray.size false) = n:=by
  unfold leftOf
  rw [List.filter_eq_self.2]
  ·simp
  ·intro i hi
   rw [List.mem_range] at hi
   have : i < l.length:=by omega
   simp [this]
 rw [hleft,show n + (l.toArray.size - n) = l.toArray.size by omega] at key
 exact key
end
end Go.Proofs.YtpgfhkbnngjegaaGreatDoor
