/- lex.Quote: what is written into a builder. No condition. -/
import Derived.Test.YtekpmlfcmnlmiaaGreatDoorJB
import Derived.Test.YtekpmlfcmnlmiaaGreatDoorX2
namespace Go.Proofs.YtekpmlfcmnlmiaaGreatDoor
open Go.Shelf Go.RowKit
set_option linter.unusedVariables false

def wbRen : Go.Shelf.Ren := ⟨fun | 167 => 65 | 240 => 52 | 276 => 69 | n => n, fun | 0 => 0 | 4 => 4 | 5 => 5 | 9 => 9 | 20 => 20 | 37 => 57 | 70 => 56 | 72 => 59 | 75 => 62 | 164 => 93 | 80 => 66 | n => n, fun n => n⟩
theorem wbLays : Go.Proofs.Lays.n167 Tryz.prog wbRen := {
  mixed := by kernel_rfl
  f167 := Tryz.func65.trans (congrArg some (by kernel_rfl))
  f240 := Tryz.func52.trans (congrArg some (by kernel_rfl))
  f276 := Tryz.func69.trans (congrArg some (by kernel_rfl))
  t0 := Tryz.underlying0
  a0 := Tryz.isAgg0
  z0 := Tryz.sizeOf0
  v0 := Tryz.zeroValue0
  t4 := Tryz.underlying4
  a4 := Tryz.isAgg4
  z4 := Tryz.sizeOf4
  v4 := Tryz.zeroValue4
  t5 := Tryz.underlying5
  a5 := Tryz.isAgg5
  z5 := Tryz.sizeOf5
  v5 := Tryz.zeroValue5
  t9 := Tryz.underlying9
  a9 := Tryz.isAgg9
  z9 := Tryz.sizeOf9
  v9 := Tryz.zeroValue9
  t20 := Tryz.underlying20
  a20 := Tryz.isAgg20
  z20 := Tryz.sizeOf20
  v20 := Tryz.zeroValue20
  t37 := Tryz.underlying57
  a37 := Tryz.isAgg57
  z37 := Tryz.sizeOf57
  v37 := Tryz.zeroValue57
  t70 := Tryz.underlying56
  a70 := Tryz.isAgg56
  z70 := Tryz.sizeOf56
  v70 := Tryz.zeroValue56
  t72 := Tryz.underlying59
  a72 := Tryz.isAgg59
  z72 := Tryz.sizeOf59
  v72 := Tryz.zeroValue59
  t75 := Tryz.underlying62
  a75 := Tryz.isAgg62
  z75 := Tryz.sizeOf62
  v75 := Tryz.zeroValue62
  t164 := Tryz.underlying93
  a164 := Tryz.isAgg93
  z164 := Tryz.sizeOf93
  v164 := Tryz.zeroValue93 }
theorem wbExtra : Builder.Extra Tryz.prog wbRen := {
  sizeBuilder := by kernel_rfl
  liesBuilder := by kernel_rfl
  t5 := Tryz.underlying5
  a5 := Tryz.isAgg5
  z5 := Tryz.sizeOf5
  v5 := Tryz.zeroValue5
  infoByte := by kernel_rfl
  cellsByte := by kernel_rfl
  sizeByte := by kernel_rfl
  neB5 := by decide }
/-- A builder: its block, the value of its row, what it holds. -/
structure Bld (base b : Nat) (v : Value) (l : List Value) (w : World) : Prop where
  ge : base ≤ b
  at_ : ∃ p, (p = Value.pointer none ∨ p = Value.pointer (some ⟨b, 0, none⟩)) ∧ w.heap[b]? = some (.cells #[p, v] 59 (0, 0))
  own : w.ownsRow base 5 1 v l.length l
  ne : v.ownBlock ≠ some b
theorem Bld.new (w : World) {base : Nat} (hb : base ≤ w.heap.size) : Bld base w.heap.size (.slice none 0 0) [] (w.alloc (.cells #[.pointer none, .slice none 0 0] 59 (0, 0))) :=
  ⟨hb, ⟨_, .inl rfl, Blk.new w _ _⟩, World.ownsRow_nil _ _ _ _, by simp [Value.ownBlock]⟩
theorem Bld.is {base b : Nat} {v : Value} {l : List Value} {w : World} (h : Bld base b v l w) : Lib.IsBuilder 59 5 base b l w := by
  obtain ⟨p, hp, hb⟩ := h.at_
  rcases hp with rfl | rfl
  · exact .inl ⟨h.ge, v, hb, h.own, h.ne⟩
  · exact .inr ⟨h.ge, v, hb, h.own, h.ne⟩
set_option maxHeartbeats 2000000 in
theorem wb {base b : Nat} {v : Value} {l : List Value} {w : World} (c : Int) (h : Bld base b v l w) (hlen : l.length + 1 ≤ 100000000) (hBw : base ≤ w.heap.size) :
    Calls Tryz.prog 65 #[.pointer (some ⟨b, 0, none⟩), .int .u8 c] w fun e w' => e = .returned .nilIface ∧ ∃ v', Bld base b v' (l ++ [.int .u8 c]) w' ∧ w.heap.size ≤ w'.heap.size ∧ (∀ k, k < w.heap.size → k ≠ b → v.ownBlock ≠ some k → w'.heap[k]? = w.heap[k]?) ∧ (v'.ownBlock = v.ownBlock ∨ ∃ g, w.heap.size ≤ g ∧ v'.ownBlock = some g) ∧ Below base w w' := by
  have key : Calls Tryz.prog 52 #[.pointer (some ⟨b, 0, none⟩)] w fun e w' => e = .returned (.tuple #[]) ∧ w'.heap[b]? = some (.cells #[.pointer (some ⟨b, 0, none⟩), v] 59 (0, 0)) ∧ w'.heap.size = w.heap.size ∧ (∀ k, k ≠ b → w'.heap[k]? = w.heap[k]?) ∧ w'.ownsRow base 5 1 v l.length l ∧ Below base w w' := by
    obtain ⟨p, hp, hb⟩ := h.at_
    rcases hp with rfl | rfl
    · have h2 : Lib.BuilderAt 59 5 base b (.pointer none) l w := ⟨h.ge, v, hb, h.own, h.ne⟩
      refine (Any.Builder_copyCheck_fresh (P := Tryz.prog) (ρ := wbRen) { wbLays with } wbExtra.toX72 b w h2.cell0 h2.shape h2.frozen0).mono ?_
      rintro e w' ⟨rfl, rfl⟩
      exact ⟨rfl, by simp [World.setCell, Array.getElem?_modify, hb], by simp [World.setCell], fun k hk => Below.heap_setCell _ _ _ _ hk, h.own.kept (row := some b) (grown_set w b 0 _) (Or.inr h.ne), (Below.refl base w).setCell (p := ⟨b, 0, none⟩) h.ge _⟩
    · have h2 : Lib.BuilderAt 59 5 base b (.pointer (some ⟨b, 0, none⟩)) l w := ⟨h.ge, v, hb, h.own, h.ne⟩
      refine (Any.Builder_copyCheck_used (P := Tryz.prog) (ρ := wbRen) { wbLays with } wbExtra.toX72 b w h2.cell0).mono ?_
      rintro e w' ⟨rfl, rfl⟩
      exact ⟨rfl, hb, rfl, fun _ _ => rfl, h.own, Below.refl _ _⟩
  have T0 : ElemTy Tryz.prog 57 5 (.int .u8 0) 1 1 := ⟨Tryz.underlying57, by kernel_rfl, rfl, by omega, by omega⟩
  go_enter Tryz.func65, Tryz.ntmps65
  go_wp2_with (go_at_call 52; refine key.mono ?_)
  rintro e w1 ⟨rfl, hbk, hsz, hoth, hown, hB1⟩
  have hbw1 : base ≤ w1.heap.size := by omega
  have hZ := Lib.hid hsz
  clear hsz
  have c0 : w1.cell? ⟨b, 0, none⟩ = some (.pointer (some ⟨b, 0, none⟩)) := by rw [Lib.cell_of_heap hbk]; rfl
  obtain ⟨A, cap, rfl⟩ : ∃ A cap, v = .slice A l.length cap := by
    rcases hown.2 with ⟨hv, h0⟩ | ⟨g, cap, cur, hv, _⟩
    · exact ⟨none, 0, by rw [hv, h0]⟩
    · exact ⟨_, _, hv⟩
  have c1 : w1.cell? ⟨b, 1, none⟩ = some (.slice A l.length cap) := by rw [Lib.cell_of_heap hbk]; rfl
  go_wp2_with (at_builtin; refine Door.enter ?_)
  refine Door.leave (wl_append_lit T0 (base := base) (m := 1) (k := l.length + 1) (zs := l ++ [.int .u8 c]) (cs := #[.int .u8 c]) hown rfl rfl rfl (by intro u hu; simp at hu; subst hu; rfl) (by omega) hbw1 rfl rfl rfl rfl ?_)
  intro A' c' w2 h2 h3 h4 h5
  have hlt : b < w1.heap.size := by
    rcases Nat.lt_or_ge b w1.heap.size with h' | h'
    · exact h'
    · simp [Array.getElem?_eq_none h'] at hbk
  have hb2 : w2.heap[b]? = some (.cells #[.pointer (some ⟨b, 0, none⟩), .slice A l.length cap] 59 (0, 0)) := by
    rw [h4.block b hlt (fun e => h.ne e.symm)]; exact hbk
  have d0 : w2.cell? ⟨b, 0, none⟩ = some (.pointer (some ⟨b, 0, none⟩)) := by rw [Lib.cell_of_heap hb2]; rfl
  have d1 : w2.cell? ⟨b, 1, none⟩ = some (.slice A l.length cap) := by rw [Lib.cell_of_heap hb2]; rfl
  have f1 : w2.frozen? ⟨b, 1, none⟩ = false := Lib.frozen_of_heap hb2 1
  have hq := h.ne
  have hH := Lib.hid hoth
  clear hoth
  go_wp2
  go_ret
  have hsz := hZ.out
  have hl1 : (l ++ [Value.int .u8 c]).length = l.length + 1 := by simp
  have hne := Lib.ownBlock_ne h2 hb2 (by decide)
  refine ⟨rfl, _, ⟨h.ge, ⟨_, .inr rfl, ?_⟩, ?_, hne⟩, ?_, ?_, ?_, ?_⟩
  · simp [World.setCell, Array.getElem?_modify, hb2]
  · rw [hl1]; exact h2.kept (row := some b) (grown_set w2 b 1 _) (Or.inr hne)
  · have := h4.size
    simp [World.setCell]; omega
  · intro k hk hkb hkv
    rw [Below.heap_setCell _ _ _ _ hkb, h4.block k (by omega) (fun e => hkv e.symm), hH.out k hkb]
  · rcases h5 with h5 | ⟨g, hg, h5⟩
    · exact .inl h5
    · exact .inr ⟨g, by omega, h5⟩
  · exact (hB1.trans h3).setCell (p := ⟨b, 1, none⟩) h.ge _
end Go.Proofs.YtekpmlfcmnlmiaaGreatDoor

namespace Go.Proofs.YtekpmlfcmnlmiaaGreatDoor
open Go.RowKit
set_option linter.unusedVariables false
set_option linter.unusedSimpArgs false
theorem quo_by (s : ByteArray) : ∃ u : List UInt8, ib .u8 (quoN (numS s) ++ [39]) = Lib.byteCells u ∧ quoS s = ⟨u.toArray⟩ := by
  have h1 : ∀ c : UInt8, quoI (c.toNat : Int) = (if c = 39 then [(39 : UInt8), 39] else [c]).map fun c : UInt8 => (c.toNat : Int) := by
    intro c
    unfold quoI
    by_cases h : c = 39
    · subst h; rfl
    · have : ¬ ((c.toNat : Int) = 39) := fun e => h (UInt8.toNat_inj.1 (show c.toNat = 39 by omega))
      rw [if_neg h, if_neg this]; rfl
  have h2 : ∀ l : List UInt8, (l.map fun c : UInt8 => (c.toNat : Int)).flatMap quoI = (l.flatMap fun c => if c = 39 then [(39 : UInt8), 39] else [c]).map fun c : UInt8 => (c.toNat : Int) := by
    intro l
    induction l with
    | nil => rfl
    | cons a l ih => simp only [List.map_cons, List.flatMap_cons, ih, h1, List.map_append]
  have h3 : quoN (numS s) ++ [39] = ((39 : UInt8) :: (bs s).flatMap (fun c => if c = 39 then [(39 : UInt8), 39] else [c]) ++ [39]).map fun c : UInt8 => (c.toNat : Int) := by
    have := h2 (bs s)
    simp only [quoN, List.cons_append, List.map_cons, List.map_append, List.map_nil]
    rw [← this]; rfl
  refine ⟨(39 : UInt8) :: (bs s).flatMap (fun c => if c = 39 then [(39 : UInt8), 39] else [c]) ++ [39], ?_, ?_⟩
  · rw [h3]; simp [ib, Lib.byteCells]
  · unfold quoS strOfNums
    rw [h3]
    simp
    exact (List.map_congr_left fun c _ => by simp [Function.comp]).trans (List.map_id _)
theorem Bld.keep {base b : Nat} {v : Value} {l : List Value} {w w' : World} (h : Bld base b v l w) (hb : Below w.heap.size w w') : Bld base b v l w' := by
  obtain ⟨p, hp, ha⟩ := h.at_
  have hlt : b < w.heap.size := by
    rcases Nat.lt_or_ge b w.heap.size with h' | h'
    · exact h'
    · simp [Array.getElem?_eq_none h'] at ha
  exact ⟨h.ge, ⟨p, hp, (hb.block b hlt).trans ha⟩, h.own.kept (row := none) ⟨hb.os, hb.tape, hb.output, hb.size, fun k hk _ => hb.block k hk⟩ (Classical.em _), h.ne⟩
theorem quo_at (s : ByteArray) {k : Nat} (hk : k < s.size) : (numS s)[k]? = some ((s.data.toList.getD k 0).toNat : Int) := by
  unfold numS bs
  have : k < s.data.toList.length := by simpa using hk
  rw [List.getElem?_map, List.getElem?_eq_getElem this, List.getD_eq_getElem?_getD, List.getElem?_eq_getElem this]; rfl
/-- A builder in block b, and a block kb that is none of its. -/
def QS (b kb : Nat) (o : Option Obj) (l : List Value) (w : World) : Prop := ∃ v, Bld b b v l w ∧ w.heap[kb]? = o ∧ v.ownBlock ≠ some kb ∧ kb < w.heap.size ∧ kb ≠ b ∧ b ≤ w.heap.size
theorem wbQ {b kb : Nat} {o : Option Obj} {l : List Value} {w : World} (c : Int) (h : QS b kb o l w) (hlen : l.length + 1 ≤ 100000000) :
    Calls Tryz.prog 65 #[.pointer (some ⟨b, 0, none⟩), .int .u8 c] w fun e w' => e = .returned .nilIface ∧ QS b kb o (l ++ [.int .u8 c]) w' ∧ Below b w w' := by
  obtain ⟨v, h1, h2, h3, h4, h5, h6⟩ := h
  refine (wb c h1 hlen h6).mono ?_
  rintro e w' ⟨rfl, v', g1, g2, g3, g4, g5⟩
  refine ⟨rfl, ⟨v', g1, (g3 kb h4 h5 h3).trans h2, ?_, by omega, h5, by omega⟩, g5⟩
  rcases g4 with g4 | ⟨g, hg, g4⟩
  · rw [g4]; exact h3
  · rw [g4]; intro e; injection e with e; omega
set_option maxHeartbeats 2000000 in
theorem quote_raw (s : ByteArray) (w : World) (hs : s.size ≤ 1000000) : Calls Tryz.prog 45 #[.string s] w fun e w' => e = .returned (.string (quoS s)) ∧ Below w.heap.size w w' := by
  have kc := fun (w : World) => Lib.run_convert_string_bytes (P := Tryz.prog) w 9 57 5 s Tryz.underlying9 Tryz.underlying57 Tryz.underlying5
  have b0 := Bld.new w (Nat.le_refl w.heap.size)
  have B0 := (Below.refl w.heap.size w).alloc (Nat.le_refl _) (.cells #[.pointer none, .slice none 0 0] 59 (0, 0))
  go_enter Tryz.func45, Tryz.ntmps45
  go_wp2_with (go_at_call 65; refine (wb 39 b0 (by simp) (by simp)).mono ?_)
  rintro e w1 ⟨rfl, v1, b1, hz1, ho1, hv1, B1⟩
  have hne1 : v1.ownBlock ≠ some w1.heap.size := by
    intro e
    have := b1.own.lt _ e
    omega
  have Z1 := Lib.hid hz1
  have B1' := B0.trans B1
  clear b0 B0 hz1 ho1 hv1 B1
  go_wp2
  have hn := Lib.bytesWorld_at_new w1 5 s
  have ho := Lib.bytesWorld_at_old w1 5 s
  have hzz := Lib.bytesWorld_size w1 5 s
  have hcl := Lib.bytesWorld_cell w1 5 s
  have hb2 := b1.keep (bytesWorld_below w1 5 s)
  have B2 := B1'.trans (show Below w.heap.size w1 (Lib.bytesWorld w1 5 s) from ⟨rfl, rfl, rfl, (bytesWorld_below w1 5 s).size, fun k hk => (bytesWorld_below w1 5 s).block k (by have := Z1.out; simp at this; omega)⟩)
  have hsz1 : w.heap.size < w1.heap.size := by have := Z1.out; simp at this; omega
  clear b1 B1' Z1 ho hn
  revert hzz hcl hb2 B2
  generalize Lib.bytesWorld w1 5 s = w2
  intro hzz hcl hb2 B2
  have Hcl := Lib.hid hcl
  have Hzz := Lib.hid hzz
  have Hs1 := Lib.hid hsz1
  have Hs := Lib.hid hs
  clear hcl hzz hsz1 kc
  have hq0 : QS w.heap.size w1.heap.size w2.heap[w1.heap.size]? (ib .u8 (quoN ((numS s).take 0))) w2 := ⟨v1, hb2, rfl, hne1, by have := Hzz.out; omega, by have := Hs1.out; omega, by have := Hzz.out; have := Hs1.out; omega⟩
  have HQ0 := Lib.hid hq0
  clear hq0 hb2 hne1
  go_loopw [5, 10] (fun _ i wr => ∃ (k : Nat), k ≤ s.size ∧ i = .int .i64 k ∧ Hid (QS w.heap.size w1.heap.size w2.heap[w1.heap.size]? (ib .u8 (quoN ((numS s).take k))) wr) ∧ Below w.heap.size w wr) (fun _ i _ => s.size - (intOf i).toNat)
  case atStart => exact ⟨0, Nat.zero_le _, rfl, HQ0, B2⟩
  case round =>
    obtain ⟨k, hk, rfl, hq, hB⟩ := hrel
    have HL : Hid ((ib .u8 (quoN ((numS s).take k))).length + 2 ≤ 100000000) := Lib.hid (by
      have h1 := quo_len (numS s) k
      have h2 := numS_len s
      have h3 := Hs.out
      rw [ib_length]; omega)
    by_cases hlt : k < s.size
    · obtain ⟨y, hy, hc⟩ : ∃ y : Int, (numS s)[k]? = some y ∧ wr.cell? ⟨w1.heap.size, k, none⟩ = some (.int .u8 y) := by
        obtain ⟨v, g1, g2, g3⟩ := hq.out
        exact ⟨_, quo_at s hlt, (World.cell?_of_block g2).trans (Hcl.out k hlt)⟩
      have HQ := Lib.hid (quo_row (numS s) hy)
      clear hy
      by_cases h39 : y = 39
      · subst h39
        go_wp2_with (go_at_call 65; refine (wbQ 39 hq.out (by have := HL.out; omega)).mono ?_)
        rintro e wa ⟨rfl, qa, Ba⟩
        have Qa := Lib.hid qa
        have hBa := hB.trans Ba
        clear hq qa hc hB Ba
        go_wp2_with (go_at_call 65; refine (wbQ 39 Qa.out (by have := HL.out; simp; omega)).mono ?_)
        rintro e wb ⟨rfl, qb, Bb⟩
        have hBb := hBa.trans Bb
        have Qb := Lib.hid qb
        clear Qa qb hBa Bb
        go_wp2
        go_round
        case rel => exact ⟨k + 1, by omega, by go_num, Lib.hid (by rw [HQ.out]; simpa [ib, quoI] using Qb.out), hBb⟩
        case measure => simp [intOf]; omega
      · go_wp2_with (go_at_call 65; refine (wbQ y hq.out (by have := HL.out; omega)).mono ?_)
        rintro e wa ⟨rfl, qa, Ba⟩
        have Qa := Lib.hid qa
        have hBa := hB.trans Ba
        clear hq qa hc hB Ba
        go_wp2
        go_round
        case rel => exact ⟨k + 1, by omega, by go_num, Lib.hid (by rw [HQ.out]; simpa [ib, quoI, h39] using Qa.out), hBa⟩
        case measure => simp [intOf]; omega
    · go_wp2_with (go_at_call 65; refine (wbQ 39 hq.out (by have := HL.out; omega)).mono ?_)
      rintro e wa ⟨rfl, qa, Ba⟩
      have hBa := hB.trans Ba
      obtain ⟨u, hu1, hu2⟩ := quo_by s
      have hfin : ib .u8 (quoN ((numS s).take k)) ++ [.int .u8 39] = Lib.byteCells u := by
        rw [← hu1, List.take_of_length_le (by rw [numS_len]; omega)]; simp [ib]
      rw [hfin] at qa
      obtain ⟨v, g1, g2, g3, g4, g5, g6⟩ := qa
      have gi := g1.is
      clear hq Ba hB g2 g3 g4 g5 hfin hu1 g1
      have Hu := Lib.hid hu2
      have hst := (Tryz.Builder_String_any w.heap.size w.heap.size u wa gi g6)
      clear hu2
      go_wp2_with (go_at_call 34; refine hst.mono ?_)
      rintro e wc ⟨rfl, Bc⟩
      go_wp2
      go_ret
      exact ⟨by simp [results, Hu.out], hBa.trans Bc⟩
theorem quote_X (s : ByteArray) (hs : s.size ≤ 1000000) : XMeets Tryz.prog 45 [.v (.string s)] (.p (.v (.string (quoS s))) (nlv _)) := ⟨by kernel_rfl, fun C vals _ hd => by
  simp only [DnL, Dn] at hd
  obtain ⟨u, us, rfl, rfl, rfl⟩ := hd
  refine (quote_raw s C.w hs).mono ?_
  rintro e w' ⟨rfl, hb⟩
  exact res_v hb⟩
end Go.Proofs.YtekpmlfcmnlmiaaGreatDoor
