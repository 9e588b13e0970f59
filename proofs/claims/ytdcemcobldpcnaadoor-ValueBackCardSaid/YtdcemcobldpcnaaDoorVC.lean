/- The model's entry for comparing bytes. No condition. -/
import Derived.Test.YtdcemcobldpcnaaDoorV1
import Derived.Lib.BytesEntry
import Derived.Laws.Externs
namespace Go.Proofs.YtdcemcobldpcnaaDoor
open Go.RowKit
set_option linter.unusedVariables false
set_option linter.unusedSimpArgs false
theorem run_bytesOf {P : Program} {C : Cx} {b : Bool} {l : List Int} {v : Value} (hd : Dn C (.sl b (l.map by1)) v) : (Extern.Bytes.bytesOf v).run P C.w = .ok (strOfNums l) C.w := by
  simp only [Dn] at hd
  obtain ⟨A, c, css, sz, e1, h3, h4, h5, h6, h7, h8⟩ := hd
  have hfl := dnll_by1 h7
  rw [e1]
  cases A with
  | none =>
    have hl : l = [] := by have := h5 rfl; simpa using this
    subst hl
    rfl
  | some ad =>
    obtain ⟨g1, g2⟩ := h8 ad rfl
    have := Lib.run_loadBytesX (P := P) C.w l ad .empty (fun j x hj => g2 j _ (by rw [hfl, List.getElem?_map, hj]; rfl))
    show (Extern.Bytes.loadBytes ad (l.map by1).length .empty).run P C.w = _
    rw [List.length_map, this]
    simp [Lib.bytesOf, strOfNums, ByteArray.empty, ByteArray.emptyWithCapacity]
    rfl
theorem cmp_ext {b b' : Bool} {l l' : List Int} : ExtM Tryd.prog 60 [.sl b (l.map by1), .sl b' (l'.map by1)] (.int .i64 (Extern.BytealgCompare.cmp (strOfNums l) (strOfNums l'))) := fun C vals hd => by
  simp only [DnL] at hd
  obtain ⟨v, vs, rfl, h1, v', vs', rfl, h2, rfl⟩ := hd
  rw [run_callFunc_extern Tryd.func60 (by kernel_rfl) (by kernel_rfl) (by kernel_rfl) (e := Extern.BytealgCompare.compare) (by kernel_rfl)]
  have e : (Extern.BytealgCompare.compare #[v, v']).run Tryd.prog C.w = .ok (.int .i64 (Extern.BytealgCompare.cmp (strOfNums l) (strOfNums l'))) C.w := by
    change Sem.run Tryd.prog (do
      let a ← Extern.Bytes.bytesOf v
      let c ← Extern.Bytes.bytesOf v'
      pure (goInt (Extern.BytealgCompare.cmp a c))) C.w = _
    simp only [Sem.run_bind, run_bytesOf h1, run_bytesOf h2, Result.andThen, Sem.run_pure, goInt]
  show (Sem.run Tryd.prog (Extern.BytealgCompare.compare #[v, v']) C.w).andThen _ = _
  rw [e]; rfl
end Go.Proofs.YtdcemcobldpcnaaDoor
