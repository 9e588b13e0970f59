/- Mend of Part leads back: the walk. No condition. -/
import Derived.Test.YtmhmldpccccjbaaN4
namespace Go.Proofs.Ytmhmldpccccjbaa
open Go.RowKit
set_option linter.unusedVariables false
set_option linter.unusedSimpArgs false

theorem net0_ok : net0.Ok := ⟨by simp [net0], by simp [net0], by simp [net0, I64], by simp [net0], by simp [net0]⟩
theorem right_ok {n : NetA} (h : Right n) : n.Ok := by
  refine ⟨fun x hx => ?_, by have := h.s.n; omega, ?_, fun x hx => ?_, by have := h.d.n; omega⟩
  · have h1 := h.s.w x hx
    have h2 := pkB_iff.1 (h.p x hx)
    unfold inWay at h1
    exact ⟨⟨by omega, by omega⟩, ⟨by omega, by omega⟩, ⟨by omega, by omega⟩, by omega⟩
  · have := h.l
    exact ⟨by omega, by omega⟩
  · have h2 := pkB_iff.1 (h.d.w x hx)
    exact ⟨⟨by omega, by omega⟩, by omega, by omega⟩
def insD (d : List (Int × Int)) (x : Int × Int) : List (Int × Int) := d.take (posD d (dk x)) ++ [x] ++ d.drop (posD d (dk x))
def delD (d : List (Int × Int)) (x : Int × Int) : List (Int × Int) := d.take (posD d (dk x)) ++ d.drop (posD d (dk x) + 1)
theorem wayD_of {d : List (Int × Int)} (hw : ∀ y ∈ d, pkB y.1 y.2 0 = true) (ho : d.Pairwise fun x y => dk x < dk y) : WayD d := by
  refine ⟨?_, hw, ho⟩
  have := rise_len (l := d.map dk) (lo := 0) (hi := 100) (List.pairwise_map.2 ho) (fun x hx => by
    obtain ⟨y, hy, rfl⟩ := List.mem_map.1 hx
    have := pkB_iff.1 (hw y hy)
    unfold dk; omega) (by omega)
  simp at this
  omega
theorem posD_lt' {s : List (Int × Int)} {x : Int} : ∀ {m : Nat} {y : Int × Int}, m < posD s x → s[m]? = some y → dk y < x := by
  induction s with
  | nil => intro m y h hy; simp at hy
  | cons a s ih =>
    intro m y h hy
    unfold posD at h
    by_cases ha : dk a < x
    · rw [List.takeWhile_cons_of_pos (by simpa using ha), List.length_cons] at h
      cases m with
      | zero => simp at hy; subst hy; exact ha
      | succ m => exact ih (m := m) (by unfold posD; omega) (by simpa using hy)
    · rw [List.takeWhile_cons_of_neg (by simpa using ha)] at h
      simp at h
theorem posD_ge' {s : List (Int × Int)} {x : Int} (ho : s.Pairwise fun x y => dk x < dk y) : ∀ {m : Nat} {y : Int × Int}, posD s x ≤ m → s[m]? = some y → x ≤ dk y := by
  induction s with
  | nil => intro m y h hy; simp at hy
  | cons a s ih =>
    intro m y h hy
    unfold posD at h
    by_cases ha : dk a < x
    · rw [List.takeWhile_cons_of_pos (by simpa using ha), List.length_cons] at h
      cases m with
      | zero => omega
      | succ m => exact ih (List.pairwise_cons.1 ho).2 (m := m) (by unfold posD; omega) (by simpa using hy)
    · cases m with
      | zero => simp at hy; subst hy; omega
      | succ m =>
        have := (List.pairwise_cons.1 ho).1 y (List.mem_of_getElem? (by simpa using hy))
        omega
theorem ge_gt {d : List (Int × Int)} {x : Int × Int} (hd : WayD d) (hx : pkB x.1 x.2 0 = true) (hn : x ∉ d) {m : Nat} {y : Int × Int} (hm : posD d (dk x) ≤ m) (hy : d[m]? = some y) : dk x < dk y := by
  have h1 := posD_ge' hd.o hm hy
  have hyd := List.mem_of_getElem? hy
  have h2 : dk y ≠ dk x := fun e => hn ((ordN_dk (hd.w y hyd) hx).2.2.2 e ▸ hyd)
  omega
theorem insD_way {d : List (Int × Int)} {x : Int × Int} (hd : WayD d) (hx : pkB x.1 x.2 0 = true) (hn : x ∉ d) : WayD (insD d x) := by
  unfold insD
  refine wayD_of (fun y hy => ?_) ?_
  · simp only [List.mem_append, List.mem_singleton] at hy
    rcases hy with (hy | rfl) | hy
    · exact hd.w y (List.mem_of_mem_take hy)
    · exact hx
    · exact hd.w y (List.mem_of_mem_drop hy)
  · have hz : ∀ z ∈ d.drop (posD d (dk x)), dk x < dk z := fun z hz => by
      obtain ⟨m, hm, rfl⟩ := List.getElem_of_mem hz
      rw [List.length_drop] at hm
      rw [List.getElem_drop]
      exact ge_gt hd hx hn (m := posD d (dk x) + m) (by omega) (List.getElem?_eq_getElem (by omega))
    have hy : ∀ y ∈ d.take (posD d (dk x)), dk y < dk x := fun y hy => by
      obtain ⟨m, hm, rfl⟩ := List.getElem_of_mem hy
      rw [List.length_take] at hm
      rw [List.getElem_take]
      exact posD_lt' (s := d) (m := m) (by omega) (List.getElem?_eq_getElem (by omega))
    rw [List.pairwise_append, List.pairwise_append]
    refine ⟨⟨hd.o.sublist (List.take_sublist _ _), by simp, fun y hy' z hz' => ?_⟩, hd.o.sublist (List.drop_sublist _ _), fun y hy' z hz' => ?_⟩
    · simp only [List.mem_singleton] at hz'
      subst hz'; exact hy y hy'
    · have h2 := hz z hz'
      rcases List.mem_append.1 hy' with hy' | hy'
      · have := hy y hy'; omega
      · simp only [List.mem_singleton] at hy'
        subst hy'; exact h2
theorem delD_way {d : List (Int × Int)} {x : Int × Int} (hd : WayD d) : WayD (delD d x) := by
  have hs : (delD d x).Sublist d := by
    unfold delD
    have h1 : (d.drop (posD d (dk x) + 1)).Sublist (d.drop (posD d (dk x))) := by
      rw [Nat.add_comm, ← List.drop_drop]
      simpa using (List.drop_sublist 1 (d.drop (posD d (dk x))))
    have := (List.Sublist.refl (d.take (posD d (dk x)))).append h1
    rwa [List.take_append_drop] at this
  exact wayD_of (fun y hy => hd.w y (hs.subset hy)) (hd.o.sublist hs)
theorem insD_pos {d : List (Int × Int)} {x : Int × Int} (hd : WayD d) (hx : pkB x.1 x.2 0 = true) (hn : x ∉ d) : posD (insD d x) (dk x) = posD d (dk x) := by
  have hle := posD_le d (dk x)
  refine posD_is (by simp [insD]; omega) (fun m y hm hy => ?_) (fun m y hm hy => ?_)
  · unfold insD at hy
    rw [List.append_assoc, List.getElem?_append_left (by simp; omega), List.getElem?_take_of_lt hm] at hy
    exact posD_lt' hm hy
  · unfold insD at hy
    rw [List.append_assoc, List.getElem?_append_right (by simp; omega)] at hy
    simp only [List.length_take, Nat.min_eq_left hle] at hy
    cases hk : m - posD d (dk x) with
    | zero => rw [hk] at hy; simp at hy; subst hy; exact Int.le_refl _
    | succ k =>
      rw [hk] at hy
      simp only [List.singleton_append, List.getElem?_cons_succ, List.getElem?_drop] at hy
      exact Int.le_of_lt (ge_gt hd hx hn (by omega) hy)
theorem insD_mem {d : List (Int × Int)} {x y : Int × Int} : y ∈ insD d x ↔ y = x ∨ y ∈ d := by
  unfold insD
  conv => rhs; rw [← List.take_append_drop (posD d (dk x)) d]
  simp only [List.mem_append, List.mem_singleton]
  constructor
  · rintro ((h | h) | h)
    · exact .inr (.inl h)
    · exact .inl h
    · exact .inr (.inr h)
  · rintro (h | h | h)
    · exact .inl (.inr h)
    · exact .inl (.inl h)
    · exact .inr h
theorem insD_del {d : List (Int × Int)} {x : Int × Int} (hd : WayD d) (hx : pkB x.1 x.2 0 = true) (hn : x ∉ d) : delD (insD d x) x = d := by
  have hle := posD_le d (dk x)
  unfold delD
  rw [insD_pos hd hx hn]
  unfold insD
  rw [List.append_assoc, List.take_append_of_le_length (by simp; omega), List.take_of_length_le (by rw [List.length_take]; omega), List.drop_append, List.drop_eq_nil_of_le (by rw [List.length_take]; omega), List.length_take, Nat.min_eq_left hle, show posD d (dk x) + 1 - posD d (dk x) = 1 by omega]
  simp
theorem delD_split {d : List (Int × Int)} {x : Int × Int} (hd : WayD d) (hm : x ∈ d) : d = d.take (posD d (dk x)) ++ [x] ++ d.drop (posD d (dk x) + 1) := by
  have h1 := posD_at hd hm
  obtain ⟨hl, he⟩ := List.getElem?_eq_some_iff.1 h1
  conv => lhs; rw [← List.take_append_drop (posD d (dk x)) d, List.drop_eq_getElem_cons hl, he]
  simp
theorem delD_mem {d : List (Int × Int)} {x y : Int × Int} (hd : WayD d) (hm : x ∈ d) : y ∈ delD d x ↔ y ≠ x ∧ y ∈ d := by
  have h0 := delD_split hd hm
  have hnd : (d.take (posD d (dk x)) ++ [x] ++ d.drop (posD d (dk x) + 1)).Pairwise fun x y => dk x < dk y := h0 ▸ hd.o
  have hne : ∀ y, y ∈ delD d x → y ≠ x := fun y hy e => by
    subst e
    unfold delD at hy
    rw [List.append_assoc, List.pairwise_append, List.pairwise_append] at hnd
    obtain ⟨_, ⟨_, _, h2⟩, h1⟩ := hnd
    rcases List.mem_append.1 hy with hy | hy
    · have := h1 y hy y (by simp); omega
    · have := h2 y (by simp) y hy; omega
  constructor
  · intro hy
    refine ⟨hne y hy, ?_⟩
    rw [h0]
    unfold delD at hy
    simp only [List.mem_append, List.mem_singleton] at hy ⊢
    exact hy.elim (fun h => .inl (.inl h)) .inr
  · rintro ⟨h1, h2⟩
    rw [h0] at h2
    unfold delD
    simp only [List.mem_append, List.mem_singleton] at h2 ⊢
    rcases h2 with (h2 | h2) | h2
    · exact .inl h2
    · exact absurd h2 h1
    · exact .inr h2
theorem delD_pos {d : List (Int × Int)} {x : Int × Int} (hd : WayD d) (hm : x ∈ d) : posD (delD d x) (dk x) = posD d (dk x) := by
  have hlt := posD_lt hd hm
  have hat := posD_at hd hm
  obtain ⟨hl0, he0⟩ := List.getElem?_eq_some_iff.1 hat
  refine posD_is (by simp [delD]; omega) (fun m y hm hy => ?_) (fun m y hm hy => ?_)
  · unfold delD at hy
    rw [List.getElem?_append_left (by simp; omega), List.getElem?_take_of_lt hm] at hy
    exact posD_lt' hm hy
  · unfold delD at hy
    rw [List.getElem?_append_right (by simp; omega)] at hy
    simp only [List.length_take, Nat.min_eq_left (Nat.le_of_lt hlt), List.getElem?_drop] at hy
    exact posD_ge' hd.o (by omega) hy
theorem delD_ins {d : List (Int × Int)} {x : Int × Int} (hd : WayD d) (hm : x ∈ d) : insD (delD d x) x = d := by
  have hlt := posD_lt hd hm
  unfold insD
  rw [delD_pos hd hm]
  unfold delD
  rw [List.take_append_of_le_length (by simp; omega), List.take_of_length_le (by rw [List.length_take]; omega), List.drop_append_of_le_length (by simp; omega), List.drop_eq_nil_of_le (by simp; omega)]
  exact (delD_split hd hm).symm
theorem part_eq {n : NetA} {f t : Int} (h : rightB n = true) (hp : pkB f t 0 = true) : partN n f t = if (f, t) ∈ n.d then (net0, 5) else (⟨n.s, n.l, insD n.d (f, t)⟩, 0) := by
  unfold partN
  rw [if_pos h, if_pos hp]
  rfl
theorem mend_eq {n : NetA} {f t : Int} (h : rightB n = true) (hp : pkB f t 0 = true) : mendN n f t = if (f, t) ∈ n.d then (⟨n.s, n.l, delD n.d (f, t)⟩, 0) else (net0, 4) := by
  unfold mendN
  rw [if_pos h, if_pos hp]
  rfl
theorem right_ins {n : NetA} {x : Int × Int} (h : Right n) (hp : pkB x.1 x.2 0 = true) (hn : x ∉ n.d) : Right ⟨n.s, n.l, insD n.d x⟩ := ⟨h.l, h.s, h.p, insD_way h.d hp hn⟩
theorem right_del {n : NetA} {x : Int × Int} (h : Right n) : Right ⟨n.s, n.l, delD n.d x⟩ := ⟨h.l, h.s, h.p, delD_way h.d⟩
theorem part_ok (n : NetA) (f t : Int) : (partN n f t).1.Ok ∧ (partN n f t).1.Sz := by
  have : (partN n f t).1.Ok := by
    rcases part_cases n f t with ⟨_, h⟩ | ⟨_, _, h⟩ | ⟨_, _, _, h⟩ | ⟨hr, hp, hm, h⟩ <;> rw [h]
    · exact net0_ok
    · exact net0_ok
    · exact net0_ok
    · exact right_ok (right_ins (right_of hr) hp hm)
  exact ⟨this, this.sz⟩
theorem mend_ok (n : NetA) (f t : Int) : (mendN n f t).1.Ok ∧ (mendN n f t).1.Sz := by
  have : (mendN n f t).1.Ok := by
    rcases mend_cases n f t with ⟨_, h⟩ | ⟨_, _, h⟩ | ⟨hr, hp, hm, h⟩ | ⟨_, _, _, h⟩ <;> rw [h]
    · exact net0_ok
    · exact net0_ok
    · exact right_ok (right_del (right_of hr))
    · exact net0_ok
  exact ⟨this, this.sz⟩
theorem pkB_comm {f t : Int} : pkB f t 0 = true ↔ pkB t f 0 = true := by rw [pkB_iff, pkB_iff]; omega
theorem mend2 {n m : NetA} {f t : Int} (hn : Right n) (hm : Right m) (h : (f, t) ∈ n.d ↔ (f, t) ∈ m.d) : (mendN n f t).2 = (mendN m f t).2 := by
  unfold mendN
  rw [if_pos (right_is hn), if_pos (right_is hm)]
  by_cases h1 : (f, t) ∈ n.d
  · rw [if_pos h1, if_pos (h.1 h1)]; split <;> rfl
  · rw [if_neg h1, if_neg (fun h2 => h1 (h.2 h2))]
theorem back1 {n : NetA} {f t : Int} (h : (partN n f t).2 = 0) : mendN (partN n f t).1 f t = (n, 0) ∧ (mendN (partN n f t).1 t f).2 = (mendN n t f).2 ∧ (partN (partN n f t).1 f t).2 = 5 := by
  rcases part_cases n f t with ⟨_, h1⟩ | ⟨_, _, h1⟩ | ⟨_, _, _, h1⟩ | ⟨hr, hp, hm, -⟩
  · rw [h1] at h; cases h
  · rw [h1] at h; cases h
  · rw [h1] at h; cases h
  have hR := right_of hr
  rw [part_eq hr hp, if_neg hm]
  have hR2 := right_ins hR hp hm
  refine ⟨?_, ?_, ?_⟩
  · rw [mend_eq (right_is hR2) hp, if_pos (insD_mem.2 (.inl rfl))]
    simp only
    rw [insD_del hR.d hp hm]
  · refine mend2 hR2 hR ?_
    rw [insD_mem]
    have := pkB_iff.1 hp
    exact ⟨fun h => h.elim (fun e => by simp only [Prod.mk.injEq] at e; omega) id, .inr⟩
  · rw [part_eq (right_is hR2) hp, if_pos (insD_mem.2 (.inl rfl))]
theorem back2 {n : NetA} {f t : Int} (h : (mendN n f t).2 = 0) : partN (mendN n f t).1 f t = (n, 0) ∧ (mendN (mendN n f t).1 t f).2 = (mendN n t f).2 := by
  rcases mend_cases n f t with ⟨_, h1⟩ | ⟨_, _, h1⟩ | ⟨hr, hp, hm, -⟩ | ⟨_, _, _, h1⟩
  · rw [h1] at h; cases h
  · rw [h1] at h; cases h
  · have hR := right_of hr
    rw [mend_eq hr hp, if_pos hm]
    have hR2 := right_del (x := (f, t)) hR
    refine ⟨?_, ?_⟩
    · rw [part_eq (right_is hR2) hp, if_neg (fun h2 => ((delD_mem hR.d hm).1 h2).1 rfl)]
      simp only
      rw [delD_ins hR.d hm]
    · refine mend2 hR2 hR ?_
      rw [delD_mem hR.d hm]
      have := pkB_iff.1 hp
      exact ⟨fun h => h.2, fun h => ⟨fun e => by simp only [Prod.mk.injEq] at e; omega, h⟩⟩
  · rw [h1] at h; cases h
end Go.Proofs.Ytmhmldpccccjbaa

namespace Go.Proofs.Ytmhmldpccccjbaa
open Go.RowKit
set_option linter.unusedVariables false
set_option linter.unusedSimpArgs false
set_option maxRecDepth 20000
set_option maxRecDepth 20000 in
theorem lBack_X (b c e : Bool) (n0 : NetA) (f t : Int) (hn : n0.In) : XMeets Try.prog 8 [netT b c e n0, .v (.int .i64 f), .v (.int .i64 t)] (.p (.v (.bool (true))) (nlv _)) := by
  refine XMeets.of_X tabX_ok (avs := [.ag [.p (.sl false (n0.s.map (slC false))) (nl_sl _ _).sl, .p (.v (.int .i64 n0.l)) (nlv _), .p (.sl false (n0.d.map dfC)) (nl_df _).sl], .p (.v (.int .i64 f)) (nlv _), .p (.v (.int .i64 t)) (nlv _)]) [(0, .ag [.p (.sl false (n0.s.map (slC false))) (nl_sl _ _).sl, .p (.v (.int .i64 n0.l)) (nlv _), .p (.sl false (n0.d.map dfC)) (nl_df _).sl]), (1, .p (.v (.int .i64 f)) (nlv _)), (2, .p (.v (.int .i64 t)) (nlv _))] (by kernel_rfl) Try.func8 rfl (by simp [PuL, Pu, netT, slC, dfC, pu_by1, pu_sl, pu_df]) (by simp only [untagL, untag, netT, untag_by1, untag_sl, untag_df]; rfl) rfl rfl ?_
  intro B w0
  obtain ⟨n, hnn⟩ : ∃ n, fewN n0 = n := ⟨_, rfl⟩
  have ho : n.Ok := hnn ▸ few_ok hn
  have hsz := ho.sz
  have hsp := (part_ok n f t).2
  have hsm := (mend_ok n f t).2
  conv => whnf
  refine .ct ?_
  conv => whnf
  refine CallG.mk (wakes_X) rfl ?_
  conv => whnf
  refine .ct ?_
  conv => whnf
  refine CallG.mk ((few_X _ _ _ n0 hn).eq (by rw [hnn])) rfl ?_
  conv => whnf
  refine .ct ?_
  conv => whnf
  refine CallG.mk (mend_X _ _ _ n _ _ ho _ rfl) rfl ?_
  conv => whnf
  refine .ct ?_
  conv => whnf
  refine CallG.mk (part_X _ _ _ n _ _ ho _ rfl) rfl ?_
  conv => whnf
  cases hc1 : (decide ((partN n f t).snd = 0))
  · skip
    try simp only [bls] at hc1
    conv => whnf
    refine .ct ?_
    conv => whnf
    refine CallG.mk (mend_X _ _ _ n _ _ ho _ rfl) rfl ?_
    conv => whnf
    cases hc2 : (decide ((mendN n f t).snd = 0))
    · skip
      try simp only [bls] at hc2
      conv => whnf
      refine FinG.mk none ?_ (by rintro _ ⟨⟩)
      simp only [outs, List.length_map, List.length_append, List.length_take, List.length_drop, List.length_cons, List.length_nil, slC, dfC, netX, net0, List.map_nil, mix_len, pkX, slX, sl0, delS]
    · skip
      try simp only [bls] at hc2
      conv => whnf
      refine .ct ?_
      conv => whnf
      refine CallG.mk (part_X _ _ _ (mendN n f t).1 _ _ (mend_ok n f t).1 _ rfl) rfl ?_
      conv => whnf
      refine .ct ?_
      conv => whnf
      refine CallG.mk (mend_X _ _ _ (mendN n f t).1 _ _ (mend_ok n f t).1 _ rfl) rfl ?_
      conv => whnf
      cases hc3 : (decide ((partN (mendN n f t).fst f t).snd = 0))
      · skip
        try simp only [bls] at hc3
        conv => whnf
        refine FinG.mk none ?_ (by rintro _ ⟨⟩)
        simp only [outs, List.length_map, List.length_append, List.length_take, List.length_drop, List.length_cons, List.length_nil, slC, dfC, netX, net0, List.map_nil, mix_len, pkX, slX, sl0, delS]
        obtain ⟨a1, a2⟩ := back2 (n := n) (f := f) (t := t) (by assumption)
        exact absurd (congrArg Prod.snd a1) (by assumption)
      · skip
        try simp only [bls] at hc3
        conv => whnf
        refine .ct ?_
        conv => whnf
        refine CallG.mk (same_X _ _ _ _ _ _ n (partN (mendN n f t).1 f t).1 hsz (part_ok _ _ _).2) rfl ?_
        conv => whnf
        cases hc4 : (decide (n = (partN (mendN n f t).fst f t).fst))
        · skip
          try simp only [bls] at hc4
          conv => whnf
          refine FinG.mk none ?_ (by rintro _ ⟨⟩)
          simp only [outs, List.length_map, List.length_append, List.length_take, List.length_drop, List.length_cons, List.length_nil, slC, dfC, netX, net0, List.map_nil, mix_len, pkX, slX, sl0, delS]
          obtain ⟨a1, a2⟩ := back2 (n := n) (f := f) (t := t) (by assumption)
          exact absurd (congrArg Prod.fst a1).symm (by assumption)
        · skip
          try simp only [bls] at hc4
          conv => whnf
          refine FinG.mk none ?_ (by rintro _ ⟨⟩)
          simp only [outs, List.length_map, List.length_append, List.length_take, List.length_drop, List.length_cons, List.length_nil, slC, dfC, netX, net0, List.map_nil, mix_len, pkX, slX, sl0, delS]
          obtain ⟨a1, a2⟩ := back2 (n := n) (f := f) (t := t) (by assumption)
          rw [a2]
          simp
  · skip
    try simp only [bls] at hc1
    conv => whnf
    refine .ct ?_
    conv => whnf
    refine CallG.mk (mend_X _ _ _ (partN n f t).1 _ _ (part_ok n f t).1 _ rfl) rfl ?_
    conv => whnf
    refine .ct ?_
    conv => whnf
    refine CallG.mk (mend_X _ _ _ (partN n f t).1 _ _ (part_ok n f t).1 _ rfl) rfl ?_
    conv => whnf
    refine .ct ?_
    conv => whnf
    refine CallG.mk (part_X _ _ _ (partN n f t).1 _ _ (part_ok n f t).1 _ rfl) rfl ?_
    conv => whnf
    cases hc5 : (decide ((mendN (partN n f t).fst f t).snd = 0))
    · skip
      try simp only [bls] at hc5
      conv => whnf
      refine FinG.mk none ?_ (by rintro _ ⟨⟩)
      simp only [outs, List.length_map, List.length_append, List.length_take, List.length_drop, List.length_cons, List.length_nil, slC, dfC, netX, net0, List.map_nil, mix_len, pkX, slX, sl0, delS]
      obtain ⟨a1, a2, a3⟩ := back1 (n := n) (f := f) (t := t) (by assumption)
      exact absurd (congrArg Prod.snd a1) (by assumption)
    · skip
      try simp only [bls] at hc5
      conv => whnf
      refine .ct ?_
      conv => whnf
      refine CallG.mk (same_X _ _ _ _ _ _ n (mendN (partN n f t).1 f t).1 hsz (mend_ok _ _ _).2) rfl ?_
      conv => whnf
      cases hc6 : (decide (n = (mendN (partN n f t).fst f t).fst))
      · skip
        try simp only [bls] at hc6
        conv => whnf
        refine FinG.mk none ?_ (by rintro _ ⟨⟩)
        simp only [outs, List.length_map, List.length_append, List.length_take, List.length_drop, List.length_cons, List.length_nil, slC, dfC, netX, net0, List.map_nil, mix_len, pkX, slX, sl0, delS]
        obtain ⟨a1, a2, a3⟩ := back1 (n := n) (f := f) (t := t) (by assumption)
        exact absurd (congrArg Prod.fst a1).symm (by assumption)
      · skip
        try simp only [bls] at hc6
        conv => whnf
        cases hc7 : (decide ((mendN (partN n f t).fst t f).snd = (mendN n t f).snd))
        · skip
          try simp only [bls] at hc7
          conv => whnf
          refine FinG.mk none ?_ (by rintro _ ⟨⟩)
          simp only [outs, List.length_map, List.length_append, List.length_take, List.length_drop, List.length_cons, List.length_nil, slC, dfC, netX, net0, List.map_nil, mix_len, pkX, slX, sl0, delS]
          obtain ⟨a1, a2, a3⟩ := back1 (n := n) (f := f) (t := t) (by assumption)
          exact absurd a2 (by assumption)
        · skip
          try simp only [bls] at hc7
          conv => whnf
          refine FinG.mk none ?_ (by rintro _ ⟨⟩)
          simp only [outs, List.length_map, List.length_append, List.length_take, List.length_drop, List.length_cons, List.length_nil, slC, dfC, netX, net0, List.map_nil, mix_len, pkX, slX, sl0, delS]
          obtain ⟨a1, a2, a3⟩ := back1 (n := n) (f := f) (t := t) (by assumption)
          rw [a3]
          rfl
end Go.Proofs.Ytmhmldpccccjbaa
