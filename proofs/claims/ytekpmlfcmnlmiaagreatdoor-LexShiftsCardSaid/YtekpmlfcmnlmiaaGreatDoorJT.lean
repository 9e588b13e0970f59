/- strings.Repeat of a blank, strings.Contains of a line's end, as trees. No condition. -/
import Derived.Test.YtekpmlfcmnlmiaaGreatDoorX8
import Derived.Lib.Repeat
import Derived.Lib.IndexLaws
namespace Go.Proofs.YtekpmlfcmnlmiaaGreatDoor
open Go.RowKit
set_option linter.unusedVariables false
set_option linter.unusedSimpArgs false

/-- Nothing, or a blank. -/
def sepL (r : List UInt8) : Prop := r = [] ∨ ∃ q, r = 32 :: q
/-- Tokens' texts, a blank between them. -/
def jn (l : List Yl) : List UInt8 := Lib.join (l.map fun y => bs (wriT y)) [32]
end Go.Proofs.YtekpmlfcmnlmiaaGreatDoor

namespace Go.Proofs.YtekpmlfcmnlmiaaGreatDoor
open Go.RowKit
set_option linter.unusedVariables false
set_option linter.unusedSimpArgs false

theorem toksF_mem : ∀ (f : Nat) (s : ByteArray) (a : Nat) (y : Yl), y ∈ toksF f s a → ∃ b, b < s.size ∧ y = ytok s b
  | 0, s, a, y, h => by simp [toksF] at h
  | f + 1, s, a, y, h => by
    rw [toksF] at h
    split at h
    · rename_i ha
      split at h
      · rcases List.mem_cons.1 h with rfl | h
        · exact ⟨a, ha, rfl⟩
        · exact toksF_mem f s _ y h
      · simp at h; exact ⟨a, ha, h⟩
    · simp at h
theorem lexG_some : ∀ (l : List Yl) (m : Nat) (p : Int × Int), lexG m l = some p → p.1 ≠ 0 ∧ ∃ y ∈ l, p.2 = y.a
  | [], m, p, h => by simp [lexG] at h
  | y :: l, m, p, h => by
    rw [lexG] at h
    split at h
    · injection h with h; subst h; exact ⟨by simp, y, by simp, rfl⟩
    · split at h
      · rename_i he
        injection h with h; subst h; exact ⟨he, y, by simp, rfl⟩
      · obtain ⟨h1, z, h2, h3⟩ := lexG_some l _ p h
        exact ⟨h1, z, by simp [h2], h3⟩
theorem lexG_none : ∀ (l : List Yl) (m : Nat), m ≤ 300 → lexG m l = none → m + l.length ≤ 300 ∧ ∀ y ∈ l, y.e = 0
  | [], m, hm, h => by simp; exact hm
  | y :: l, m, hm, h => by
    rw [lexG] at h
    split at h
    · cases h
    · split at h
      · cases h
      · rename_i h1 h2
        obtain ⟨h3, h4⟩ := lexG_none l (m + 1) (by omega) h
        refine ⟨by simp; omega, fun z hz => ?_⟩
        rcases List.mem_cons.1 hz with rfl | hz
        · simpa using h2
        · exact h4 z hz
/-- Where a text has no tokens. -/
theorem lex_no {s : ByteArray} (h : ¬ ((lexT s).2.1 = 0 ∧ (lexT s).2.2 = 0)) : (lexT s).1 = [] ∧ (lexT s).2.1 ≠ 0 ∧ 0 ≤ (lexT s).2.2 ∧ (lexT s).2.2 ≤ (s.size : Int) := by
  by_cases hl : 1024 < s.size
  · rw [lexT_long hl]; simp
  · cases hg : lexG 0 (toks s) with
    | none => rw [lexT_ok hl hg] at h; simp at h
    | some p =>
      rw [lexT_err hl hg]
      obtain ⟨h1, y, h2, h3⟩ := lexG_some _ _ _ hg
      obtain ⟨b, hb, rfl⟩ := toksF_mem _ _ _ _ h2
      refine ⟨rfl, h1, ?_⟩
      rw [h3]
      show (0 : Int) ≤ (b : Int) ∧ (b : Int) ≤ _
      omega
/-- A text's tokens. -/
theorem lex_ok {s : ByteArray} (h : (lexT s).2.1 = 0) : s.size ≤ 1024 ∧ (lexT s).1 = toks s ∧ (toks s).length ≤ 300 ∧ (∀ y ∈ toks s, y.e = 0) ∧ (lexT s).2.2 = 0 := by
  by_cases hl : 1024 < s.size
  · rw [lexT_long hl] at h; cases h
  · cases hg : lexG 0 (toks s) with
    | none =>
      rw [lexT_ok hl hg]
      obtain ⟨h1, h2⟩ := lexG_none _ 0 (by omega) hg
      exact ⟨by omega, rfl, by omega, h2, rfl⟩
    | some p =>
      rw [lexT_err hl hg] at h
      exact absurd h (lexG_some _ _ _ hg).1
theorem lex_len (s : ByteArray) : (lexT s).1.length ≤ 300 := by
  by_cases h : (lexT s).2.1 = 0
  · obtain ⟨h1, h2, h3, h4, _⟩ := lex_ok h
    rw [h2]; exact h3
  · rw [(lex_no fun hh => h hh.1).1]; simp
/-! Where tokens stand. -/
/-- Tokens stand one behind the other. -/
def plcs (s : ByteArray) : Nat → List Yl → Prop
  | e, [] => e ≤ s.size ∧ lexT (s.extract e s.size) = ([], (0, 0))
  | e, y :: l => ∃ a z : Nat, y.a = (a : Int) ∧ y.z = (z : Int) ∧ e ≤ a ∧ a < z ∧ z ≤ s.size ∧ lexT (s.extract e a) = ([], (0, 0)) ∧ (∃ x, lexT (s.extract a z) = ([x], (0, 0)) ∧ smeB x y = true) ∧ plcs s z l
end Go.Proofs.YtekpmlfcmnlmiaaGreatDoor

namespace Go.Proofs.YtekpmlfcmnlmiaaGreatDoor
open Go.RowKit
set_option linter.unusedVariables false
set_option linter.unusedSimpArgs false

def sgnB (s : ByteArray) : Bool := inK sgns s
def allP (s : ByteArray) : Bool := (bs s).all fun c => isP (c.toNat : Int)
/-- May it be a token, by definition? -/
def oneB (y : Yl) : Bool :=
  if y.k = 1 then (keyN y.t).2 && bsEq (keyN y.t).1 y.t && decide (y.n = 0)
  else if y.k = 2 then nameB y.t && decide (y.n = 0)
  else if y.k = 3 then bsEq y.t ⟨#[]⟩ && decide (0 ≤ y.n)
  else if y.k = 4 then allP y.t && decide (y.t.size ≤ 64) && decide (y.n = 0)
  else if y.k = 5 then sgnB y.t && decide (y.n = 0) else false
/-- May these be tokens, by definition? -/
def rgtB (l : List Yl) : Bool := l.all oneB && decide (l.length ≤ 300)
/-- So many tokens' text. -/
def txk (l : List Yl) (k : Nat) : ByteArray := txtS (l.take k)
theorem bs_app (a b : ByteArray) : bs (a ++ b) = bs a ++ bs b := by simp [bs]
def digR (n : Int) (m : Int) (s : ByteArray) : Prop := 0 ≤ m ∧ m ≤ n ∧ (Lib.decDigits n.toNat = Lib.decDigits m.toNat ++ bs s)
end Go.Proofs.YtekpmlfcmnlmiaaGreatDoor

namespace Go.Proofs.YtekpmlfcmnlmiaaGreatDoor
open Go.RowKit
set_option linter.unusedVariables false
set_option linter.unusedSimpArgs false

/-- Blanks and remarks that are whole. -/
def ahOk (A : List UInt8) : Prop := ∀ x, blk false (A ++ x) = A.length + blk false x
theorem ahOk_nil : ahOk [] := fun x => by simp
theorem ahOk_app {A B : List UInt8} (h : ahOk A) (k : ahOk B) : ahOk (A ++ B) := fun x => by
  rw [List.append_assoc, h, k, List.length_append]; omega
theorem ahOk_one {c : UInt8} (h : isS (c.toNat : Int) = true) : ahOk [c] := fun x => by
  rw [List.singleton_append, blk, if_pos h]; rfl
theorem blk_true : ∀ (r x : List UInt8), (10 : UInt8) ∉ r → blk true (r ++ 10 :: x) = r.length + 1 + blk false x
  | [], x, _ => by rw [List.nil_append, blk, if_pos rfl]; simp
  | c :: r, x, h => by
    have h1 : ¬ c = 10 := fun e => h (by simp [e])
    rw [List.cons_append, blk, if_neg h1, blk_true r x fun hm => h (by simp [hm])]
    simp only [List.length_cons]; omega
theorem ahOk_rem {r : List UInt8} (h : (10 : UInt8) ∉ r) : ahOk (45 :: 45 :: r ++ [10]) := fun x => by
  have e : (45 :: 45 :: r ++ [10]) ++ x = 45 :: ((45 :: r) ++ 10 :: x) := by simp
  rw [e, blk, if_neg (by decide), if_pos ⟨rfl, rfl⟩, blk_true (45 :: r) x (by simp; exact h)]
  simp only [List.length_append, List.length_cons, List.length_nil]; omega
theorem ahOk_rep : ∀ n, ahOk (Lib.repeatL [32] n)
  | 0 => ahOk_nil
  | n + 1 => ahOk_app (A := [32]) (ahOk_one (by decide)) (ahOk_rep n)
/-- A token, so much further. -/
def shY (d : Nat) (y : Yl) : Yl := { y with a := y.a + d, z := y.z + d }
theorem sme_sh (d : Nat) : ∀ l : List Yl, smeL l (l.map (shY d)) = true
  | [] => rfl
  | y :: l => by
    rw [List.map_cons, smeL, sme_sh d l]
    simp [smeB, shY, bsEq]
theorem toksF_fuel : ∀ (f g : Nat) (s : ByteArray) (a : Nat), s.size < a + f → s.size < a + g → toksF f s a = toksF g s a
  | 0, 0, s, a, _, _ => rfl
  | 0, g + 1, s, a, h1, h2 => by rw [toksF, toksF, if_neg (by omega)]
  | f + 1, 0, s, a, h1, h2 => by rw [toksF, toksF, if_neg (by omega)]
  | f + 1, g + 1, s, a, h1, h2 => by
    rw [toksF, toksF]
    by_cases ha : a < s.size
    · rw [if_pos ha, if_pos ha]
      by_cases he : (ytok s a).e = 0
      · have hg := nxt_gt he
        rw [if_pos he, if_pos he, toksF_fuel f g s (nxt s a) (by omega) (by omega)]
      · rw [if_neg he, if_neg he]
    · rw [if_neg ha, if_neg ha]
theorem suf_sh {s t : ByteArray} {A : List UInt8} (h : bs t = A ++ bs s) (a : Nat) : sufS t (A.length + a) = sufS s a := bs_ext (by
  rw [bs_suf, bs_suf, h, ← List.drop_drop, List.drop_left])
theorem toksF_sh {s t : ByteArray} {A : List UInt8} (h : bs t = A ++ bs s) : ∀ (f : Nat) (a : Nat), toksF f t (A.length + a) = (toksF f s a).map (shY A.length)
  | 0, a => rfl
  | f + 1, a => by
    have hs : t.size = A.length + s.size := by rw [← bs_len, h, List.length_append, bs_len]
    have hy : ytok t (A.length + a) = shY A.length (ytok s a) := by
      unfold ytok shY
      rw [suf_sh h]
      simp only [Yl.mk.injEq, true_and, and_true]
      omega
    have hn : nxt t (A.length + a) = A.length + nxt s a := by
      unfold nxt
      rw [suf_sh h, Nat.add_assoc A.length, suf_sh h]; omega
    rw [toksF, toksF, hy, hn, toksF_sh h f (nxt s a)]
    by_cases ha : a < s.size
    · rw [if_pos (by omega), if_pos ha]
      by_cases he : (ytok s a).e = 0
      · rw [if_pos (show (shY A.length (ytok s a)).e = 0 from he), if_pos he]; rfl
      · rw [if_neg (show ¬ (shY A.length (ytok s a)).e = 0 from he), if_neg he]; rfl
    · rw [if_neg (by omega), if_neg ha]; rfl
theorem toks_sh {s t : ByteArray} {A : List UInt8} (h : bs t = A ++ bs s) (hA : ahOk A) : toks t = (toks s).map (shY A.length) := by
  have hs : t.size = A.length + s.size := by rw [← bs_len, h, List.length_append, bs_len]
  unfold toks
  rw [show blk false (bs t) = A.length + blk false (bs s) by rw [h]; exact hA _, toksF_fuel (t.size + 1) (s.size + 1) t _ (by omega) (by omega), toksF_sh h]
theorem lexG_sh (d : Nat) : ∀ (l : List Yl) (m : Nat), lexG m (l.map (shY d)) = (lexG m l).map fun p => (p.1, p.2 + (d : Int))
  | [], m => rfl
  | y :: l, m => by
    rw [List.map_cons, lexG, lexG]
    split
    · rfl
    · show (if y.e ≠ 0 then _ else _) = _
      split
      · rfl
      · exact lexG_sh d l (m + 1)
theorem tok_pl {s : ByteArray} {y : Yl} (h : y ∈ toks s) : 0 ≤ y.a ∧ y.a ≤ (s.size : Int) ∧ 0 ≤ y.z ∧ y.z ≤ (s.size : Int) := by
  obtain ⟨b, hb, rfl⟩ := toksF_mem _ _ _ _ h
  have h1 := firL_le (sufS s b)
  rw [sufS_size (by omega)] at h1
  show 0 ≤ (b : Int) ∧ (b : Int) ≤ _ ∧ 0 ≤ (b : Int) + (firT (sufS s b)).2.1 ∧ (b : Int) + (firT (sufS s b)).2.1 ≤ _
  rw [firL_eq]; omega
theorem shift_or {s t : ByteArray} {A : List UInt8} (h : bs t = A ++ bs s) (hA : ahOk A) (hs : s.size + A.length ≤ 1024) :
    (∃ l, lexT s = (l, (0, 0)) ∧ lexT t = (l.map (shY A.length), (0, 0)) ∧ l.length ≤ 300 ∧ ∀ y ∈ l, 0 ≤ y.a ∧ y.a ≤ 1024 ∧ 0 ≤ y.z ∧ y.z ≤ 1024) ∨
    (∃ e a, lexT s = ([], (e, a)) ∧ lexT t = ([], (e, a + (A.length : Int))) ∧ ¬ e = 0 ∧ 0 ≤ a ∧ a ≤ 1024) := by
  have hz : t.size = A.length + s.size := by rw [← bs_len, h, List.length_append, bs_len]
  have ht := toks_sh h hA
  have hg := lexG_sh A.length (toks s) 0
  rw [← ht] at hg
  cases hl : lexG 0 (toks s) with
  | none =>
    rw [hl] at hg
    have h1 := lexG_none _ 0 (by omega) hl
    refine .inl ⟨toks s, lexT_ok (by omega) hl, by rw [lexT_ok (by omega) hg, ht], by omega, fun y hy => ?_⟩
    have := tok_pl hy
    omega
  | some p =>
    rw [hl] at hg
    obtain ⟨h1, y, h2, h3⟩ := lexG_some _ _ _ hl
    have := tok_pl h2
    refine .inr ⟨p.1, p.2, lexT_err (by omega) hl, lexT_err (by omega) hg, h1, by omega, by omega⟩
end Go.Proofs.YtekpmlfcmnlmiaaGreatDoor

namespace Go.Proofs.YtekpmlfcmnlmiaaGreatDoor
open Go.RowKit
set_option linter.unusedVariables false
set_option linter.unusedSimpArgs false

def repS (m : Int) : ByteArray := ⟨(Lib.repeatL [32] m.toNat).toArray⟩
theorem bs_rep (m : Int) : bs (repS m) = Lib.repeatL [32] m.toNat := by simp [bs, repS]
theorem rep_size {m : Int} (h0 : 0 ≤ m) : ((repS m).size : Int) = m := by
  have h1 := bs_len (repS m)
  rw [bs_rep, Lib.repeatL_length] at h1
  simp at h1
  omega
theorem repeat_X (m : Int) (h0 : 0 ≤ m) (h1 : m ≤ 8) : XMeets Tryz.prog 15 [.v (.string ⟨#[32]⟩), .v (.int .i64 m)] (.p (.v (.string (repS m))) (nlv _)) := ⟨by kernel_rfl, fun C vals _ hd => by
  simp only [DnL, Dn] at hd
  obtain ⟨_, _, rfl, rfl, _, _, rfl, rfl, rfl⟩ := hd
  obtain ⟨k, rfl⟩ : ∃ k : Nat, m = (k : Int) := ⟨m.toNat, by omega⟩
  refine (Tryz.strings_Repeat ⟨#[32]⟩ k C.w (by omega) (by show 1 * k ≤ _; omega)).mono ?_
  rintro e w' ⟨rfl, hb⟩
  refine ⟨_, .nilFunc, rfl, hb, fun g hg => (by cases hg), ?_⟩
  simp only [XV.den, Dn]
  simp [repS]⟩
def hasNl (s : ByteArray) : Bool := decide (0 ≤ Lib.indexByte (bs s) 10)
theorem nl_not {s : ByteArray} (h : hasNl s = false) : (10 : UInt8) ∉ bs s := fun hm => by
  unfold hasNl at h
  have h1 : Lib.indexByte (bs s) 10 = -1 := by
    have h2 := of_decide_eq_false h
    have h3 := Lib.index_ge (bs s) [10]
    rw [Lib.index_one] at h3
    omega
  obtain ⟨k, hk, he⟩ := List.mem_iff_getElem.1 hm
  exact Lib.indexByte_none h1 k (by rw [List.getElem?_eq_getElem hk, he])
theorem contains1_X (s : ByteArray) : XMeets Tryz.prog 16 [.v (.string s), .v (.string ⟨#[10]⟩)] (.p (.v (.bool (hasNl s))) (nlv _)) := ⟨by kernel_rfl, fun C vals _ hd => by
  simp only [DnL, Dn] at hd
  obtain ⟨_, _, rfl, rfl, _, _, rfl, rfl, rfl⟩ := hd
  refine (Tryz.strings_Contains_one s 10 C.w).mono ?_
  rintro e w' ⟨rfl, rfl⟩
  exact ⟨_, .nilFunc, rfl, Below.refl _ _, fun g hg => (by cases hg), by simp only [XV.den, Dn]; rfl⟩⟩
theorem ah1 (m : Int) : ahOk (bs (repS m ++ ⟨#[9]⟩)) := by
  rw [bs_app, bs_rep]
  exact ahOk_app (ahOk_rep _) (ahOk_one (c := 9) (by decide))
theorem ah2 (m : Int) {r : ByteArray} (h : hasNl r = false) : ahOk (bs (repS m ++ ⟨#[9]⟩ ++ (⟨#[45, 45]⟩ ++ r ++ ⟨#[10]⟩))) := by
  rw [bs_app]
  refine ahOk_app (ah1 m) ?_
  rw [bs_app, bs_app]
  exact ahOk_rem (nl_not h)
/-- Where there is no token, so much further. -/
def shP (s : ByteArray) (d : Nat) : Int := if (lexT s).2.1 = 0 then 0 else (lexT s).2.2 + (d : Int)
theorem shP_ne {s : ByteArray} {d : Nat} (h : ¬ (lexT s).2.1 = 0) : shP s d = (lexT s).2.2 + (d : Int) := by unfold shP; rw [if_neg h]
theorem lexSh {s A : ByteArray} (hA : ahOk (bs A)) (hs : (s.size : Int) + (A.size : Int) ≤ 1024) : XMeets Tryz.prog 17 [.v (.string (A ++ s))] (.tu [.ow 43 5 (((lexT s).1.map (shY A.size)).map tokC) (nl_tok _), .ag [.p (.v (.int .i64 (lexT s).2.1)) (nlv _), .p (.v (.int .i64 (shP s A.size))) (nlv _)]]) := by
  have hz : (A ++ s).size = A.size + s.size := by rw [← bs_len, bs_app, List.length_append, bs_len, bs_len]
  have e : lexT (A ++ s) = ((lexT s).1.map (shY A.size), ((lexT s).2.1, shP s A.size)) := by
    rcases shift_or (s := s) (t := A ++ s) (A := bs A) (bs_app _ _) hA (by rw [bs_len]; omega) with ⟨l, h1, h2, _⟩ | ⟨e, a, h1, h2, h3, _⟩
    · rw [h2, bs_len]
      unfold shP
      rw [h1]; simp
    · rw [h2, bs_len, shP_ne (by rw [h1]; exact h3), h1]; rfl
  exact (lex_X (A ++ s) (by omega)).eq (by rw [e])
theorem lex_bd (s : ByteArray) : (∀ y ∈ (lexT s).1, 0 ≤ y.a ∧ y.a ≤ 1024 ∧ 0 ≤ y.z ∧ y.z ≤ 1024) ∧ 0 ≤ (lexT s).2.2 ∧ (lexT s).2.2 ≤ (s.size : Int) := by
  by_cases h : (lexT s).2.1 = 0
  · obtain ⟨h1, h2, h3, h4, h5⟩ := lex_ok h
    rw [h2, h5]
    refine ⟨fun y hy => ?_, by omega, by omega⟩
    have := tok_pl hy
    omega
  · obtain ⟨h1, h2, h3, h4⟩ := lex_no (s := s) fun hh => h hh.1
    rw [h1]
    exact ⟨by simp, h3, h4⟩
end Go.Proofs.YtekpmlfcmnlmiaaGreatDoor
