/- Which columns may be: plain law; names that were met. No condition. -/
import Derived.Test.YtpgfhkbnngjegaaGreatDoorT29
import Derived.Test.YtpgfhkbnngjegaaGreatDoorT29
import Derived.Maps.Views
namespace Go.Proofs.YtpgfhkbnngjegaaGreatDoor
open Go.RowKit
set_option linter.unusedVariables false
set_option linter.unusedSimpArgs false
set_option maxRecDepth 20000
def colB (d : Dfn) : Bool:=nameB d.n && (decide (2 ≤ d.t) && decide (d.t ≤ 4)) && !(d.k && d.nn)
def clashB (d e : Dfn) : Bool:=bsEq d.n e.n || (d.k && e.k)
def goodB : List Dfn→Bool
 | []=>true
 | d :: r=>colB d && (r.all fun e=>!clashB d e) && goodB r
def headB (n : ByteArray) (c : List Dfn) : Bool:=nameB n && decide (1 ≤ c.length) && decide (c.length ≤ 6) && decide (0 ≤ keyI c) && goodB c
def goodP (c : List Dfn) (k : Nat) : Prop:=(∀ (j : Nat) (d : Dfn),j < k→c[j]? = some d→colB d = true)∧∀ (i j : Nat) (d e : Dfn),i < j→j < k→c[i]? = some d→c[j]? = some e→clashB d e = false
theorem goodB_iff : ∀ {c : List Dfn},goodB c = true↔goodP c c.length
 | []=>by simp [goodB,goodP]
 | d :: r=>by
  have ih:=goodB_iff (c:=r)
  unfold goodB
  rw [Bool.and_eq_true,Bool.and_eq_true,ih]
  constructor
  ·rintro ⟨⟨h1,h2⟩,h3,h4⟩
   rw [List.all_eq_true] at h2
   refine ⟨fun j x hj hx=>?_,fun i j x y hij hj hx hy=>?_⟩
   ·cases j with
    | zero=>simp at hx; rw [← hx]; exact h1
    | succ j=>exact h3 j x (by simpa using hj) (by simpa using hx)
   ·cases j with
    | zero=>omega
    | succ j=>
     have hy' : r[j]? = some y:=by simpa using hy
     cases i with
     | zero=>
      simp at hx
      rw [← hx]
      have:=h2 y (List.mem_of_getElem? hy')
      simpa using this
     | succ i=>exact h4 i j x y (by omega) (by simpa using hj) (by simpa using hx) hy'
  ·rintro ⟨h1,h2⟩
   refine ⟨⟨h1 0 d (by simp) rfl,?_⟩,fun j x hj hx=>h1 (j + 1) x (by simpa using hj) (by simpa using hx),fun i j x y hij hj hx hy=>h2 (i + 1) (j + 1) x y (by omega) (by simpa using hj) (by simpa using hx) (by simpa using hy)⟩
   rw [List.all_eq_true]
   intro y hy
   obtain ⟨j,hj,rfl⟩:=List.getElem_of_mem hy
   have:=h2 0 (j + 1) d r[j] (by omega) (by simpa using hj) rfl (by simp [hj])
   simp [this]
theorem goodP_0 (c : List Dfn) : goodP c 0:=⟨fun j d h=>by omega,fun i j d e h h2=>by omega⟩
theorem goodP_s {c : List Dfn} {k : Nat} {d : Dfn} (h : goodP c k) (hd : c[k]? = some d) (h1 : colB d = true) (h2 : noP (fun e=>clashB e d) (c.take k) k) : goodP c (k + 1):=by
 refine ⟨fun j x hj hx=>?_,fun i j x y hij hj hx hy=>?_⟩
 ·rcases Nat.lt_or_ge j k with h3 | h3
  ·exact h.1 j x h3 hx
  ·obtain rfl : j = k:=by omega
   rw [hd] at hx; injection hx with hx; rw [← hx]; exact h1
 ·rcases Nat.lt_or_ge j k with h3 | h3
  ·exact h.2 i j x y hij h3 hx hy
  ·obtain rfl : j = k:=by omega
   rw [hd] at hy; injection hy with hy; rw [← hy]
   exact h2 i x (by omega) (by rw [List.getElem?_take_of_lt hij]; exact hx)
theorem goodB_c {c : List Dfn} {k : Nat} {d : Dfn} (hd : c[k]? = some d) (h : colB d = false) : goodB c = false:=by
 cases hg : goodB c with
 | false=>rfl
 | true=>
  have:=(goodB_iff.1 hg).1 k d (List.getElem?_eq_some_iff.1 hd).1 hd
  rw [h] at this; cases this
theorem goodB_x {c : List Dfn} {i k : Nat} {d e : Dfn} (hd : c[k]? = some d) (he : (c.take k)[i]? = some e) (h : clashB e d = true) : goodB c = false:=by
 cases hg : goodB c with
 | false=>rfl
 | true=>
  have hi : i < k:=by have:=(List.getElem?_eq_some_iff.1 he).1; simp at this; omega
  rw [List.getElem?_take_of_lt hi] at he
  have:=(goodB_iff.1 hg).2 i k e d hi (List.getElem?_eq_some_iff.1 hd).1 he hd
  rw [h] at this; cases this
theorem goodB_t {c : List Dfn} {k : Nat} (h : goodP c k) (hk : c.length ≤ k) : goodB c = true:=
 goodB_iff.2 ⟨fun j d hj=>h.1 j d (by omega),fun i j d e hij hj=>h.2 i j d e hij (by omega)⟩
def nmL (c : List Dfn) : List (List UInt8):=c.map fun d=>bs d.n
def okN (n : ByteArray) (c : List Dfn) (k : Nat) : Bool:=nameB n && decide (1 ≤ c.length) && decide (c.length ≤ 6) && (c.take k).all colB && decide ((nmL (c.take k)).Nodup)
def kyN (c : List Dfn) (k : Nat) : Int:=((c.take k).countP fun d=>d.k : Nat)
theorem take_s {c : List Dfn} {k : Nat} {d : Dfn} (hd : c[k]? = some d) : c.take (k + 1) = c.take k ++ [d]:=by
 obtain ⟨hk,rfl⟩:=List.getElem?_eq_some_iff.1 hd
 exact List.take_succ_eq_append_getElem hk
theorem okN_s {n : ByteArray} {c : List Dfn} {k : Nat} {d : Dfn} (hd : c[k]? = some d) : okN n c (k + 1) = (okN n c k && colB d && !decide (bs d.n ∈ nmL (c.take k))):=by
 unfold okN
 rw [take_s hd,List.all_append]
 have : (nmL (c.take k ++ [d])).Nodup↔(nmL (c.take k)).Nodup∧bs d.n ∉ nmL (c.take k):=by
  unfold nmL
  rw [List.map_append,List.nodup_append]
  constructor
  ·rintro ⟨h1,_,h3⟩
   exact ⟨h1,fun h=>h3 _ h _ (by simp) rfl⟩
  ·rintro ⟨h1,h2⟩
   exact ⟨h1,by simp,fun a ha b hb e=>by simp at hb; rw [e,hb] at ha; exact h2 ha⟩
 have e1 : decide ((nmL (c.take k ++ [d])).Nodup) = (decide ((nmL (c.take k)).Nodup) && !decide (bs d.n ∈ nmL (c.take k))):=by
  rw [Bool.eq_iff_iff]
  simp [this]
 rw [e1]
 generalize nameB n = b1
 generalize decide (1 ≤ c.length) = b2
 generalize decide (c.length ≤ 6) = b3
 generalize (c.take k).all colB = b4
 generalize decide ((nmL (c.take k)).Nodup) = b5
 generalize decide (bs d.n ∈ nmL (c.take k)) = b6
 have e2 : [d].all colB = colB d:=by simp
 rw [e2]
 generalize colB d = b7
 cases b1 <;> cases b2 <;> cases b3 <;> cases b4 <;> cases b5 <;> cases b6 <;> cases b7 <;> rfl
theorem kyN_s {c : List Dfn} {k : Nat} {d : Dfn} (hd : c[k]? = some d) : kyN c (k + 1) = kyN c k + if d.k then 1 else 0:=by
 unfold kyN
 rw [take_s hd,List.countP_append]
 cases hdk : d.k <;> simp [hdk]
theorem kyN_le (c : List Dfn) (k : Nat) : 0 ≤ kyN c k∧kyN c k ≤ k:=by
 unfold kyN
 have:=List.countP_le_length (p:=fun d : Dfn=>d.k) (l:=c.take k)
 simp at this
 omega
structure MetD (D : DataW Unit) (c : List Dfn) : Prop where
 m : Maps.IsMap D
 a : ∀ s : ByteArray,D.atKey (.string (bs s)) (.lit (.bool false)) = .lit (.bool (decide (bs s ∈ nmL c)))
theorem metD_0 : MetD (.map []) []:=⟨⟨[],rfl⟩,fun s=>rfl⟩
theorem MetD.step {D : DataW Unit} {c : List Dfn} {k : Nat} {d : Dfn} (h : MetD D (c.take k)) (hd : c[k]? = some d) : MetD (D.put (.string (bs d.n)) (.lit (.bool true))) (c.take (k + 1)) where
 m:=h.m.put _ _
 a:=fun s=>by
  rw [take_s hd]
  by_cases he : bs s = bs d.n
  ·rw [he,Maps.atKey_put_same h.m (by trivial)]
   simp [nmL]
  ·rw [Maps.atKey_put_other (fun e=>he (by injection e)),h.a s]
   congr 3
   simp [nmL,he]
theorem str_key {P : Program} {t : TypeId} (ht : P.underlying t = some .string) {s : ByteArray} (hs : s.size ≤ 140737488355328) : keyOf P t (.string s) = some (.string (bs s)):=by
 exact Go.WideMaps.keyOf_string_mk ht (by unfold maxLen; omega)
theorem MetD.u {D : DataW Unit} {c : List Dfn} (h : MetD D c) {P : Program} (h4 : P.underlying 4 = some .bool) (s : ByteArray) : ∀ v ps,plainElem (H:=Unit) P 4 v = some (D.atKey (.string (bs s)) (.lit (.bool false)),ps)→v = .bool (decide (bs s ∈ nmL c)):=fun v ps hv=>by
 rw [h.a s] at hv
 unfold plainElem at hv
 rw [h4] at hv
 cases v <;> simp at hv
 rw [hv.1]
theorem head_eq (n : ByteArray) (c : List Dfn) : headB n c = (okN n c c.length && decide (kyN c c.length = 1)):=by
 have key : (decide (0 ≤ keyI c) && goodB c) = ((c.all colB && decide ((nmL c).Nodup)) && decide (kyN c c.length = 1)):=by
  rw [Bool.eq_iff_iff]
  simp only [Bool.and_eq_true,decide_eq_true_eq,List.all_eq_true]
  have hk : (0 ≤ keyI c)↔∃ d ∈ c,d.k = true:=by
   unfold keyI ixP
   cases h : c.findIdx? (fun d=>d.k) with
   | none=>
    rw [List.findIdx?_eq_none_iff] at h
    simp
    intro d hd
    simpa using h d hd
   | some i=>
    obtain ⟨hi,h1,_⟩:=List.findIdx?_eq_some_iff_getElem.1 h
    exact ⟨fun _=>⟨_,List.getElem_mem hi,h1⟩,fun _=>by simp⟩
  have hg : goodB c = true↔(∀ d ∈ c,colB d = true)∧c.Pairwise fun d e=>clashB d e = false:=by
   induction c with
   | nil=>simp [goodB]
   | cons d r ih=>
    have ih:=ih (by
     unfold keyI ixP
     cases h : r.findIdx? (fun d=>d.k) with
     | none=>
      rw [List.findIdx?_eq_none_iff] at h
      simp
      intro d hd
      simpa using h d hd
     | some i=>
      obtain ⟨hi,h1,_⟩:=List.findIdx?_eq_some_iff_getElem.1 h
      exact ⟨fun _=>⟨_,List.getElem_mem hi,h1⟩,fun _=>by simp⟩)
    unfold goodB
    rw [Bool.and_eq_true,Bool.and_eq_true,ih,List.pairwise_cons,List.all_eq_true]
    simp only [Bool.not_eq_true',List.mem_cons,forall_eq_or_imp]
    constructor
    ·rintro ⟨⟨h1,h2⟩,h3,h4⟩; exact ⟨⟨h1,h3⟩,h2,h4⟩
    ·rintro ⟨⟨h1,h3⟩,h2,h4⟩; exact ⟨⟨h1,h2⟩,h3,h4⟩
  have hp : (c.Pairwise fun d e=>clashB d e = false)↔(nmL c).Nodup∧c.Pairwise fun d e=>(d.k && e.k) = false:=by
   unfold nmL List.Nodup
   rw [List.pairwise_map,← List.pairwise_and_iff]
   constructor <;> intro h <;> refine h.imp fun {a b} hab=>?_
   ·unfold clashB at hab
    simp only [Bool.or_eq_false_iff,bsEq_f] at hab
    exact hab
   ·unfold clashB
    simp only [Bool.or_eq_false_iff,bsEq_f]
    exact hab
  have hc : ∀ l : List Dfn,((∃ d ∈ l,d.k = true)∧l.Pairwise fun d e=>(d.k && e.k) = false)↔l.countP (fun d=>d.k) = 1:=by
   intro l
   induction l with
   | nil=>simp
   | cons d r ih=>
    rw [List.countP_cons,List.pairwise_cons]
    cases hd : d.k with
    | false=>
     simp only [hd,Bool.false_and,Bool.false_eq_true,if_false,Nat.add_zero,← ih]
     constructor
     ·rintro ⟨⟨x,hx,hxk⟩,_,h⟩
      refine ⟨⟨x,?_,hxk⟩,h⟩
      rcases List.mem_cons.1 hx with rfl | hx
      ·rw [hd] at hxk; cases hxk
      ·exact hx
     ·rintro ⟨⟨x,hx,hxk⟩,h⟩
      exact ⟨⟨x,List.mem_cons_of_mem _ hx,hxk⟩,fun _ _=>trivial,h⟩
    | true=>
     simp only [hd,Bool.true_and,if_true]
     constructor
     ·rintro ⟨_,h,_⟩
      have : r.countP (fun d=>d.k) = 0:=by
       rw [List.countP_eq_zero]
       intro x hx
       rw [h x hx]; simp
      omega
     ·intro h
      have h0 : r.countP (fun d=>d.k) = 0:=by omega
      rw [List.countP_eq_zero] at h0
      refine ⟨⟨d,by simp,hd⟩,fun x hx=>by have:=h0 x hx; simpa using this,?_⟩
      refine List.pairwise_of_forall_mem_list fun x hx y hy=>?_
      have:=h0 x hx
      simp at this
      simp [this]
  rw [hk,hg,hp]
  have hcc:=hc c
  have hky : kyN c c.length = 1↔c.countP (fun d=>d.k) = 1:=by unfold kyN; rw [List.take_length]; omega
  rw [hky,← hcc]
  constructor
  ·rintro ⟨h1,h2,h3,h4⟩; exact ⟨⟨h2,h3⟩,h1,h4⟩
  ·rintro ⟨⟨h2,h3⟩,h1,h4⟩; exact ⟨h1,h2,h3,h4⟩
 unfold headB okN
 rw [Bool.and_assoc,key,List.take_length]
 simp only [Bool.and_assoc]
end Go.Proofs.YtpgfhkbnngjegaaGreatDoor
