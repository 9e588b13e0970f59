/- A text's tokens. Condition: what the package-level variables hold. -/
import Derived.Test.YtekpmlfcmnlmiaaDoorJG
namespace Go.Proofs.YtekpmlfcmnlmiaaDoor
open Go.RowKit
set_option linter.unusedVariables false
set_option linter.unusedSimpArgs false
set_option maxRecDepth 20000
/-- A token's cells. -/
def tokC (y : Yl) : List TV := [.v (.int .i64 y.k), .v (.string y.t), .v (.int .i64 y.n), .v (.int .i64 y.a), .v (.int .i64 y.z)]
theorem nl_tok (l : List Yl) : NlLL (l.map tokC) := .map fun x _ => .cons (nlv _) (.cons (nlv _) (.cons (nlv _) (.cons (nlv _) (.cons (nlv _) .nil))))
theorem fr_tok (l : List Yl) : FrLL (l.map tokC) := FrLL_map _ _ fun x _ => by simp [tokC, FrL, Fr]
theorem pu_tok (l : List Yl) : PuLL (l.map tokC) := PuLL_map _ _ fun x _ => by simp [tokC, PuL, Pu]
theorem untag_tok (l : List Yl) : untagLL (l.map tokC) = l.map tokC := by rw [untagLL_map]; rfl
/-- The first that is no token, and why. -/
def lexG : Nat → List Yl → Option (Int × Int)
  | _, [] => none
  | m, y :: ys => if m = 300 then some (3, y.a) else if y.e ≠ 0 then some (y.e, y.a) else lexG (m + 1) ys
/-- A text's tokens; why there are none, and where. -/
def lexT (s : ByteArray) : List Yl × (Int × Int) := if 1024 < s.size then ([], (3, 0)) else match lexG 0 (toks s) with
  | some p => ([], p)
  | none => (toks s, (0, 0))
def lexOk (l : List Yl) : Prop := l.length ≤ 300 ∧ ∀ y ∈ l, y.e = 0
theorem lexOk_0 : lexOk [] := ⟨by simp, by simp⟩
theorem lexOk_s {l : List Yl} {x : Yl} (h : lexOk l) (h1 : ¬ (l.length : Int) = 300) (h2 : x.e = 0) : lexOk (l ++ [x]) := ⟨by have := h.1; simp; omega, fun y hy => by
  rcases List.mem_append.1 hy with hy | hy
  · exact h.2 y hy
  · simp at hy; subst hy; exact h2⟩
theorem lexG_app : ∀ (l rest : List Yl) (m : Nat), (∀ y ∈ l, y.e = 0) → m + l.length ≤ 300 → lexG m (l ++ rest) = lexG (m + l.length) rest
  | [], rest, m, _, _ => rfl
  | x :: l, rest, m, h, hm => by
    simp only [List.length_cons] at hm
    rw [List.cons_append, lexG, if_neg (by omega), if_neg (by simp [h x (by simp)]), lexG_app l rest (m + 1) (fun y hy => h y (by simp [hy])) (by omega)]
    simp only [List.length_cons]
    congr 1; omega
theorem lexG_ok {l : List Yl} (h : lexOk l) : lexG 0 l = none := by
  have := lexG_app l [] 0 h.2 (by have := h.1; omega)
  simp at this
  rw [this]; rfl
theorem lexG_many {l : List Yl} {x : Yl} (h : lexOk l) (h1 : (l.length : Int) = 300) (rest : List Yl) : lexG 0 (l ++ [x] ++ rest) = some (3, x.a) := by
  rw [List.append_assoc, lexG_app l _ 0 h.2 (by have := h.1; omega)]
  rw [show ([x] ++ rest) = x :: rest from rfl, lexG, if_pos (by omega)]
theorem lexG_err {l : List Yl} {x : Yl} (h : lexOk l) (h1 : ¬ (l.length : Int) = 300) (h2 : ¬ x.e = 0) (rest : List Yl) : lexG 0 (l ++ [x] ++ rest) = some (x.e, x.a) := by
  rw [List.append_assoc, lexG_app l _ 0 h.2 (by have := h.1; omega)]
  rw [show ([x] ++ rest) = x :: rest from rfl, lexG, if_neg (by omega), if_pos h2]
theorem lexT_long {s : ByteArray} (h : 1024 < s.size) : lexT s = ([], (3, 0)) := by unfold lexT; rw [if_pos h]
theorem lexT_ok {s : ByteArray} (h : ¬ 1024 < s.size) (h1 : lexG 0 (toks s) = none) : lexT s = (toks s, (0, 0)) := by unfold lexT; rw [if_neg h, h1]
theorem lexT_err {s : ByteArray} {p : Int × Int} (h : ¬ 1024 < s.size) (h1 : lexG 0 (toks s) = some p) : lexT s = ([], p) := by unfold lexT; rw [if_neg h, h1]
set_option maxRecDepth 20000 in
theorem lex_X (s : ByteArray) (hs : s.size ≤ 1000000) : XMeets Tryd.prog 17 [.v (.string s)] (.tu [.ow 43 5 (((lexT s).1).map tokC) (nl_tok _), .ag [.p (.v (.int .i64 ((lexT s).2.1))) (nlv _), .p (.v (.int .i64 ((lexT s).2.2))) (nlv _)]]) := by
  refine XMeets.of_XF tabX_ok (avs := [.p (.v (.string s)) (nlv _)]) [(0, .p (.v (.string s)) (nlv _))] (by kernel_rfl) Tryd.func17 rfl (by simp [PuL, Pu]) (rfl) rfl rfl ?_
  intro B w0
  have hsl := bs_len s
  conv => whnf
  refine bS (fun hc1 => ?_) (fun hc1 => ?_)
  · skip
    try simp only [bls] at hc1
    conv => whnf
    refine FinG.mk none ?_ (by rintro _ ⟨⟩)
    simp only [outs, List.length_map, List.length_append, List.length_take, List.length_drop, List.length_cons, List.length_nil]
    rw [lexT_long (by omega)]
    simp
  · skip
    try simp only [bls] at hc1
    conv => whnf
    refine .inl ?_
    conv => whnf
    refine InlG.mk (by kernel_rfl) Tryd.func33 rfl (Nat.le_of_ble_eq_true rfl) (XT.of tabX_ok ?_)
    conv => whnf
    refine ⟨.inr rfl, ?_⟩
    conv => whnf
    refine XRG.nilc 2 0 43 5 rfl rfl ?_
    conv => whnf
    refine XRG0.mk (α := Yl) (Y := List Yl) (Z := (List Yl × (Int × Int))) 49 [.eptr [.v (.string s)]] (encx := fun y => [.ag [.p (.v (.int .i64 (y.k))) (nlv _), .p (.v (.string (y.t))) (nlv _), .p (.v (.int .i64 (y.n))) (nlv _), .p (.v (.int .i64 (y.a))) (nlv _), .p (.v (.int .i64 (y.z))) (nlv _)], .ag [.p (.v (.int .i64 (y.e))) (nlv _), .p (.v (.int .i64 (y.a))) (nlv _)]]) (encv := encY) (tokens_seq s hs) (fun C y => by simp [XV.denL, XV.den, encY, tokV, DnL, Dn]) (fun _ => rfl) [] (fun y => [(2, .cells 30 [.row 4]), (4, .row 43 5 (y.map tokC) (nl_tok _))]) (fun pre y => y = pre ∧ lexOk pre) (fun z => [(0, .cells 30 [.p .nil_ nlnil]), (1, .cells 36 [.p (.v (.int .i64 (z.2.1))) (nlv _), .p (.v (.int .i64 (z.2.2))) (nlv _)]), (2, .cells 30 [.row 4]), (4, .row 43 5 (z.1.map tokC) (nl_tok _))]) (fun ex pre z => ex = Exit.ret ∧ ∀ rest, lexG 0 (pre ++ rest) = some z.2) ([]) (⟨rfl, lexOk_0⟩) ?_ ?_ ?_ ?_ ?_
    · skip
      refine ⟨?_, ?_, ?_⟩
      · skip
        repeat ((conv => whnf); first | exact True.intro | refine ⟨.rfl, ?_⟩ | refine ⟨.any, ?_⟩ | refine ⟨.nil, ?_⟩ | refine ⟨.int (by first | rfl | omega | (simp only [wrs]; omega)), ?_⟩)
      · skip
        repeat (first | exact LeVs.nil | ((conv => whnf); first | exact True.intro | exact .none | exact .row rfl | refine .cells ?_ | refine ⟨_, _, rfl, .rfl, ?_⟩ | refine ⟨_, _, rfl, .any, ?_⟩ | refine ⟨_, _, rfl, .nil, ?_⟩ | refine ⟨_, _, rfl, .int (by first | rfl | omega | (simp only [wrs]; omega)), ?_⟩ | refine ⟨?_, ?_⟩))
        done
      · skip
        exact LeFr.nil
    · skip
      intro pre y hy
      conv => whnf
      exact ⟨rfl, _, rfl, CapLe.pu (by simp [PuL, Pu])⟩
    · skip
      rintro W pre x y ⟨rfl, hk⟩ hlen
      have hk1 := hk.1
      conv => whnf
      refine ⟨⟨rfl, ⟨rfl, _, rfl, CapLe.pu (by simp [PuL, Pu])⟩⟩, ?_⟩
      conv => whnf
      intro z2
      conv => whnf
      refine bS (fun hc3 => ?_) (fun hc3 => ?_)
      · skip
        try simp only [bls] at hc3
        conv => whnf
        refine RegG.late 5 [(0, 0, 1), (1, 0, 2)] (by kernel_rfl) ?_
        conv => whnf
        refine ⟨rfl, ?_⟩
        conv => whnf
        refine ⟨rfl, ?_⟩
        conv => whnf
        refine ⟨((y, (3, x.a)) : List Yl × (Int × Int)), ⟨rfl, lexG_many hk (by first | omega | (simp only [List.length_map] at *; omega))⟩, ?_⟩
        refine ⟨?_, ?_, ?_⟩
        · skip
          repeat ((conv => whnf); first | exact True.intro | refine ⟨.rfl, ?_⟩ | refine ⟨.any, ?_⟩ | refine ⟨.nil, ?_⟩ | refine ⟨.int (by first | rfl | omega | (simp only [wrs]; omega)), ?_⟩)
        · skip
          repeat (first | exact LeVs.nil | ((conv => whnf); first | exact True.intro | exact .none | exact .row rfl | refine .cells ?_ | refine ⟨_, _, rfl, .rfl, ?_⟩ | refine ⟨_, _, rfl, .any, ?_⟩ | refine ⟨_, _, rfl, .nil, ?_⟩ | refine ⟨_, _, rfl, .int (by first | rfl | omega | (simp only [wrs]; omega)), ?_⟩ | refine ⟨?_, ?_⟩))
          done
        · skip
          exact LeFr.same (by kernel_rfl)
      · skip
        try simp only [bls] at hc3
        conv => whnf
        refine bS (fun hc4 => ?_) (fun hc4 => ?_)
        · skip
          try simp only [bls] at hc4
          conv => whnf
          refine RegG.late 3 [(0, 0, 1), (1, 0, 2)] (by kernel_rfl) ?_
          conv => whnf
          refine ⟨rfl, ?_⟩
          conv => whnf
          refine ⟨rfl, ?_⟩
          conv => whnf
          refine ⟨((y, (x.e, x.a)) : List Yl × (Int × Int)), ⟨rfl, lexG_err hk (by first | omega | (simp only [List.length_map] at *; omega)) (by omega)⟩, ?_⟩
          refine ⟨?_, ?_, ?_⟩
          · skip
            repeat ((conv => whnf); first | exact True.intro | refine ⟨.rfl, ?_⟩ | refine ⟨.any, ?_⟩ | refine ⟨.nil, ?_⟩ | refine ⟨.int (by first | rfl | omega | (simp only [wrs]; omega)), ?_⟩)
          · skip
            repeat (first | exact LeVs.nil | ((conv => whnf); first | exact True.intro | exact .none | exact .row rfl | refine .cells ?_ | refine ⟨_, _, rfl, .rfl, ?_⟩ | refine ⟨_, _, rfl, .any, ?_⟩ | refine ⟨_, _, rfl, .nil, ?_⟩ | refine ⟨_, _, rfl, .int (by first | rfl | omega | (simp only [wrs]; omega)), ?_⟩ | refine ⟨?_, ?_⟩))
            done
          · skip
            exact LeFr.same (by kernel_rfl)
        · skip
          try simp only [bls] at hc4
          conv => whnf
          refine ⟨ApOk.lit rfl, ?_⟩
          conv => whnf
          refine ⟨by simp only [List.length_map, List.length_cons, List.length_nil]; omega, ?_⟩
          conv => whnf
          refine ⟨(y ++ [x]), ⟨rfl, lexOk_s hk (by first | omega | (simp only [List.length_map] at *; omega)) (by omega)⟩, ?_⟩
          refine ⟨?_, ?_, ?_⟩
          · skip
            repeat ((conv => whnf); first | exact True.intro | refine ⟨.rfl, ?_⟩ | refine ⟨.any, ?_⟩ | refine ⟨.nil, ?_⟩ | refine ⟨.int (by first | rfl | omega | (simp only [wrs]; omega)), ?_⟩)
          · skip
            repeat (first | exact LeVs.nil | ((conv => whnf); first | exact True.intro | exact .none | exact .row rfl | exact .row ((by simp [tokC]; done)) | refine .cells ?_ | refine ⟨_, _, rfl, .rfl, ?_⟩ | refine ⟨_, _, rfl, .any, ?_⟩ | refine ⟨_, _, rfl, .nil, ?_⟩ | refine ⟨_, _, rfl, .int (by first | rfl | omega | (simp only [wrs]; omega)), ?_⟩ | refine ⟨?_, ?_⟩))
            done
          · skip
            exact LeFr.same (by kernel_rfl)
    · skip
      rintro w1 xs y rfl ⟨rfl, hk⟩
      conv => whnf
      refine FinG.mk (some 4) ?_ (by rintro _ ⟨⟩; trivial)
      simp only [outs, List.length_map, List.length_append, List.length_take, List.length_drop, List.length_cons, List.length_nil]
      rw [lexT_ok (by omega) (lexG_ok hk)]
      simp [fr_tok]
    · skip
      rintro w1 ex pre z ⟨⟨rest, hr⟩, hne⟩ ⟨rfl, hz⟩
      have hz := hz rest
      rw [← hr] at hz
      conv => whnf
      refine FinG.mk none ?_ (by rintro _ ⟨⟩)
      simp only [outs, List.length_map, List.length_append, List.length_take, List.length_drop, List.length_cons, List.length_nil]
      rw [lexT_err (by omega) hz]
      simp
end Go.Proofs.YtekpmlfcmnlmiaaDoor
