/- Asset: AssetLists, the given statement. No condition. -/
import Derived.Test.YtepkalebaaidcaaAstL
import Derived.Test.YtepkalebaaidcaaEng33
import Derived.Test.YtepkalebaaidcaaRows
set_option linter.unusedSimpArgs false
namespace Go.Proofs.Ytepkalebaaidcaa
open Go.Eng Go.ChangeShapes Go.WideShapes Go.ChangeAt Go.RowKit

theorem own : ownKnob Try.prog.godebug = none := by kernel_rfl
theorem laidOut : laidOutB Try.prog = true := by kernel_rfl

theorem rd_asset {vs : List V} {n : Nat} (h : Rd Try.prog n 23 vs) : ∃ x : As, vs = [.int .i64 x.id, .int .i64 x.by_, .str x.alt, .int .i64 x.fr, .int .i64 x.un] ∧ (Lit.int .i64 x.fr).wf = true ∧ (Lit.int .i64 x.un).wf = true := by
  obtain ⟨u0, w0, rfl, h0, u1, w1, rfl, h1, u2, w2, rfl, h2, u3, w3, rfl, h3, u4, w4, rfl, h4, rfl⟩ := rd_struct Try.underlying23 h
  obtain ⟨a, rfl, _⟩ := rd_int Try.underlying3 h0
  obtain ⟨b, rfl, _⟩ := rd_int Try.underlying3 h1
  obtain ⟨c, rfl, _⟩ := rd_str Try.underlying9 h2
  obtain ⟨d, rfl, hd⟩ := rd_int Try.underlying3 h3
  obtain ⟨e, rfl, he⟩ := rd_int Try.underlying3 h4
  exact ⟨⟨a, b, c, d, e⟩, rfl, hd, he⟩
theorem rd_as {v : V} {n : Nat} (h : RdV Try.prog n 23 v) : ∃ x : As, v = x.v := by
  obtain ⟨vs, hr, rfl⟩ := h
  obtain ⟨x, rfl, _⟩ := rd_asset hr
  exact ⟨x, by rw [tyA23]; rfl⟩
theorem rd_num {v : V} {n : Nat} (h : RdV Try.prog n 3 v) : ∃ a, v = .int .i64 a ∧ (Lit.int .i64 a).wf = true := by
  obtain ⟨vs, hr, rfl⟩ := h
  obtain ⟨a, rfl, hw⟩ := rd_int Try.underlying3 hr
  exact ⟨a, by rw [tyA3]; rfl, hw⟩

theorem rd_ints {v : V} {n : Nat} (h : RdV Try.prog n 29 v) : ∃ zs, v = .ro 1 (nums zs) := by
  obtain ⟨vs, hr, rfl⟩ := h
  obtain ⟨es, rfl, _, hes⟩ := rd_slice Try.underlying29 hr
  obtain ⟨zs, he, _⟩ := map_map_of (g := mkV (tagg Try.prog 3)) (f' := V.int .i64) (f := fun z => [V.int .i64 z]) (fun x hx => by
    obtain ⟨a, h, _⟩ := rd_int Try.underlying3 (hes x hx)
    exact ⟨a, h⟩) (fun y => by rw [tyA3]; rfl)
  refine ⟨zs, ?_⟩
  rw [he, tyA29, show Try.prog.cellsOf 3 = 1 by kernel_rfl]
  rfl
theorem rd_list {v : V} {n : Nat} (h : RdV Try.prog n 30 v) : ∃ l : List As, v = .ro 5 (l.map As.v) := by
  obtain ⟨vs, hr, rfl⟩ := h
  obtain ⟨es, rfl, _, hes⟩ := rd_slice Try.underlying30 hr
  obtain ⟨l, he, _⟩ := map_map_of (g := mkV (tagg Try.prog 23)) (f' := As.v) (f := fun x : As => [.int .i64 x.id, .int .i64 x.by_, .str x.alt, .int .i64 x.fr, .int .i64 x.un]) (fun x hx => by
    obtain ⟨a, h, _⟩ := rd_asset (hes x hx)
    exact ⟨a, h⟩) (fun y => by rw [tyA23]; rfl)
  refine ⟨l, ?_⟩
  rw [he, tyA30, show Try.prog.cellsOf 23 = 5 by kernel_rfl]
  rfl

set_option maxRecDepth 100000 in
theorem listsLifted (os : Os) (started : os.Started) (H : Type) (enc : TypeId × Value → H) :
    ReturnsInHanded {} Try.checked os 4 .any (Rows.assetListsSpec.pre6 enc Try.prog Try.f4 Rows.assetListsRow.domain false) (Rows.assetListsSpec.post enc Try.prog Try.f4 false true false false) := by
  refine returnsInHanded_of_change_sized (C := Try.checked) own started (by kernel_rfl) Try.func4
    (ChangeSpec.witness6 (enc := enc) (C := Try.checked) false ⟨#[], #[.slice none 0 0, .slice none 0 0, .int .i64 0], []⟩ 8 (by kernel_rfl) (by kernel_rfl) (by kernel_rfl) (by kernel_rfl)) ?_
  intro W base args ds gs before hval hW _ hz _
  refine row_contractS (n := 8) (tb := 4) (ts := [29, 30, 3]) (by rw [Try.params4]) (by kernel_rfl) laidOut rfl Try.underlying4 rfl (fun ds hl => ?_) (fun vs hvs hsz => ?_) hval hW hz
  · match ds, hl with
    | [d1, d2, d3], _ => rfl
  · obtain ⟨v0, r0, rfl, h0, v1, r1, rfl, h1, v2, r2, rfl, h2, rfl⟩ := hvs
    obtain ⟨a, rfl⟩ := rd_ints h0
    obtain ⟨l, rfl⟩ := rd_list h1
    obtain ⟨d, rfl, _⟩ := rd_num h2
    have hlen := hsz 0 29 3 1 (nums a) rfl Try.underlying29 rfl
    rw [show Try.prog.bytesOf 3 = 8 by kernel_rfl, numsL] at hlen
    exact assetLists_ac a l d (by unfold reachBytes at hlen; omega)

theorem assetListsOver : Rows.assetListsRow.holds Try.pinned (OpenSpec.ofChange Rows.assetListsSpec) :=
  OpenClaim.holds_of_wide 4 Try.f4 rfl rfl rfl rfl rfl rfl rfl ⟨rfl, rfl, rfl, rfl, rfl⟩ rfl rfl rfl rfl rfl (by kernel_rfl) Try.func4 (by kernel_rfl)
    (of_decide_eq_true (by kernel_rfl)) (by unfold Func.isWrapper; first | (rw [if_pos (by decide +kernel)]; kernel_rfl) | (rw [if_neg (by decide +kernel)]; exact ⟨rfl, rfl⟩))
    (fun os started H enc _ => listsLifted os started H enc)

theorem assetListsProved : Rows.AssetListsSaid := assetListsOver
#print axioms assetListsProved
end Go.Proofs.Ytepkalebaaidcaa
