import Derived.Test.YtnklkkagpkcmfaaGreatDoorGI5
import Derived.Test.YtnklkkagpkcmfaaGreatDoorGB
import Derived.Test.YtnklkkagpkcmfaaGreatDoorG7
import Derived.Test.YtnklkkagpkcmfaaGreatDoorJA1
import Derived.Test.YtnklkkagpkcmfaaGreatDoorCards
import Derived.ChangeSame
import Derived.ChangeVars
import Derived.JoinedOf
import Derived.RowKit
import Derived.LaidLaws
import Derived.LaidHandle
import Derived.LaidSub
import Derived.Stop.Joined
import Derived.Deep.DeepHandedRow
import Derived.SevenTiedAt
import Derived.Test.YtnklkkagpkcmfaaGreatDoorJgo
import Derived.Test.YtnklkkagpkcmfaaGreatDoorJlooks
import Derived.Test.YtnklkkagpkcmfaaGreatDoorJM
import Derived.Test.YtnklkkagpkcmfaaGreatDoorJpin
import Derived.Test.YtnklkkagpkcmfaaGreatDoorJtw
import Derived.Test.YtnklkkagpkcmfaaGreatDoorJtw2
import Derived.Test.YtnklkkagpkcmfaaGreatDoorJtr
import Derived.Test.YtnklkkagpkcmfaaGreatDoorJtg
import Derived.Test.YtnklkkagpkcmfaaGreatDoorJtn
import Derived.Test.YtnklkkagpkcmfaaGreatDoorJtd
import Derived.Test.YtnklkkagpkcmfaaGreatDoorJt1
import Derived.Test.YtnklkkagpkcmfaaGreatDoorJt2
import Derived.Test.YtnklkkagpkcmfaaGreatDoorJt3
import Derived.Test.YtnklkkagpkcmfaaGreatDoorJA2
import Derived.Test.YtnklkkagpkcmfaaGreatDoorJA9
import Derived.Test.YtnklkkagpkcmfaaGreatDoorJA10
import Derived.Test.YtnklkkagpkcmfaaGreatDoorJA11
import Derived.Test.YtnklkkagpkcmfaaGreatDoorJA12
import Derived.Test.YtnklkkagpkcmfaaGreatDoorJA22
import Derived.Test.YtnklkkagpkcmfaaGreatDoorJA24
import Derived.Test.YtnklkkagpkcmfaaGreatDoorJA25
import Derived.Test.YtnklkkagpkcmfaaGreatDoorJAn
set_option linter.all false
namespace Go.Proofs.YtnklkkagpkcmfaaGreatDoor
open Go.Eng
theorem awake_ac : AC Tryz.prog 9 [] (fun r => r = .bool true) := ac_of_okc e1253_ok
end Go.Proofs.YtnklkkagpkcmfaaGreatDoor

set_option maxRecDepth 4000
namespace Go.Proofs.YtnklkkagpkcmfaaGreatDoor
open Go.Eng Go.Eng.Limb
theorem aF_small {it : It} (hi : it.small) {e c : Int} {a : An} {e2 : Int} (h : aF e it c = (a, e2)) : a.small := by
  have ht : (it.txts.getD 0 []).length ≤ 2000000 := by
    by_cases h0 : 0 < it.txts.length
    · rw [getD_lt h0]; exact hi.txts.2 _ (List.getElem_mem h0)
    · have : it.txts = [] := List.length_eq_zero_iff.1 (by omega)
      rw [this]; simp
  have hc := hi.ch
  unfold aF riF an0 at h
  (repeat' split at h) <;> cases h <;> constructor <;> first | exact ht | exact hc | exact Nat.zero_le _ | (simp; omega)
set_option maxHeartbeats 16000000 in
theorem answers_acq (it : It) (c : Int) (hi : it.small) (hco : it.code.length ≤ 4000000000) : ACQ gv Tryz.prog 4 [it.v, .int .i64 c] (fun r => r = .bool true) := by
  have c10 := answer_acq it c hi
  have c11 := answerR_ac it c hi hco
  rw [item_same] at c11
  have c9 := awake_ac
  have hsc := fun a (h : aF (itemE it) it c = (a, 0)) => sco_ok h
  have hsm := fun a e (h : aF (itemE it) it c = (a, e)) => aF_small hi h
  generalize aF (itemE it) it c = p at *
  obtain ⟨a, e⟩ := p
  have ha := hsm a e rfl
  have c12 := score_acq sortedC it a hi ha ha.ch
  have hs0 := fun (h : e = 0) => hsc a (by rw [h])
  generalize scoF it a = sq at *
  obtain ⟨q, e3⟩ := sq
  have ev : anE (a, e) = V.tup [V.agg [.int .i64 a.item, .ro 1 (ints a.ch), .int .i64 a.val, .str a.txt, .bool a.om], .int .i64 e] := rfl
  have eav : a.v = V.agg [.int .i64 a.item, .ro 1 (ints a.ch), .int .i64 a.val, .str a.txt, .bool a.om] := rfl
  rw [ev] at c10 c11
  rw [eav] at c12
  have za := ints_pure a.ch
  have zl := ints_len a.ch
  have zq := fun (k : Nat) (h : k < a.ch.length) => ints_gD h
  have hal := ha.ch
  clear ev eav hsm hsc
  generalize ints a.ch = zv at *
  have eit : it.v = V.agg [.int .i64 it.id, .int .i64 it.ver, .int .i64 it.kind, .str it.stem, .ro 1 (strsV it.opts), .ro 1 (ints it.ch), .int .i64 it.val, .int .i64 it.tol, .ro 1 (strsV it.txts), .int .i64 it.pts, .str it.code, .int .i64 it.fam, .int .i64 it.set, .int .i64 it.wo, .int .i64 it.se, .ro 1 (ints it.ass), .int .i64 it.rub] := rfl
  rw [eit] at c10 c11 c12 ⊢
  have i1 := strsV_pure it.opts
  have i2 := ints_pure it.ch
  have i3 := strsV_pure it.txts
  have i4 := ints_pure it.ass
  have li1 := strsV_len it.opts
  have li2 := ints_len it.ch
  have li3 := strsV_len it.txts
  have li4 := ints_len it.ass
  generalize strsV it.opts = ov at *
  generalize ints it.ch = cv at *
  generalize strsV it.txts = xv at *
  generalize ints it.ass = av at *
  have ei1 : ov = [] ↔ it.opts = [] := by rw [← List.length_eq_zero_iff, li1, List.length_eq_zero_iff]
  have ei2 : cv = [] ↔ it.ch = [] := by rw [← List.length_eq_zero_iff, li2, List.length_eq_zero_iff]
  have ei3 : xv = [] ↔ it.txts = [] := by rw [← List.length_eq_zero_iff, li3, List.length_eq_zero_iff]
  refine acq_intro Tryz.func4 rfl (by show (2 : Nat) ≤ 115; omega) (fun w0 N0 hG => ?_)
  refine aw_step [1, 2] [2] (by simp [Tryz.ntmps4] <;> rfl) ?_
  refine aw_seq (aw_region ?_)
  refine awl_go 2 (by simp <;> rfl) ?_
  refine awl_callQ hG c10 Tryz.func10 rfl (by kernel_rfl) (by simp) rfl rfl rfl (by simp <;> rfl) (by simp [i1, i2, i3, i4]) (by simp <;> rfl) ?_
  refine awl_end [1, 2, 5, 6] [2, 5] (by simp <;> rfl) ?_
  refine aw_seq (aw_region ?_)
  refine awl_go 2 (by simp <;> rfl) ?_
  refine awl_call1 c11 Tryz.func11 rfl (by kernel_rfl) rfl rfl rfl (by simp <;> rfl) (by simp [i1, i2, i3, i4]) (by simp <;> rfl) ?_
  refine awl_end [1, 2, 5, 6, 7, 8] [2, 5, 7] (by simp <;> rfl) ?_
  refine aw_seq ?_
  refine aw_step [1, 2, 5, 6, 7, 62] [2, 5, 7] (by simp <;> rfl) ?_
  refine aw_cond rfl (fun h1 => by simp at h1) (fun h1 => aw_skip ?_)
  refine aw_seq ?_
  refine aw_step [1, 2, 5, 6, 7, 65, 66] [2, 5, 7] (by simp <;> rfl) ?_
  refine aw_block ?_
  refine aw_count (fun k nx => ⟨[(1, V.int .i64 c), (2, V.bp 2 0 17 0 0), (5, V.bp 5 8 5 0 0), (6, V.int .i64 e), (7, V.bp 7 17 5 0 0), (65, V.int .i64 zv.length), (66, V.int .i64 k)], [(2, ⟨0, 17, 39, [V.agg [.int .i64 it.id, .int .i64 it.ver, .int .i64 it.kind, .str it.stem, .ro 1 ov, .ro 1 cv, .int .i64 it.val, .int .i64 it.tol, .ro 1 xv, .int .i64 it.pts, .str it.code, .int .i64 it.fam, .int .i64 it.set, .int .i64 it.wo, .int .i64 it.se, .ro 1 av, .int .i64 it.rub]]⟩), (5, ⟨8, 5, 41, [V.agg [.int .i64 a.item, .ro 1 zv, .int .i64 a.val, .str a.txt, .bool a.om]]⟩), (7, ⟨17, 5, 41, [V.agg [.int .i64 a.item, .ro 1 zv, .int .i64 a.val, .str a.txt, .bool a.om]]⟩)], nx, 115⟩) (fun k => True) zv.length _ trivial (AS.le_refl _) ?_
  intro k nx hk hI
  refine aw_step [1, 2, 5, 6, 7, 65, 66, 67] [2, 5, 7] (by simp <;> rfl) ?_
  refine aw_seq ?_
  refine aw_cond rfl (fun h2 => aw_skip ?_) (fun h2 => ?_)
  · have hlt : k < zv.length := by simp at h2; omega
    have gk := zq k (by omega)
    have hw1 := wrap_succ (k := k) (by omega)
    generalize a.ch.getD k 0 = x at *
    refine aw_seq ?_
    refine aw_block ?_
    refine aw_step [1, 2, 5, 6, 7, 9, 65, 66] [2, 5, 7] (by simp <;> rfl) ?_
    refine aw_dstep [(0, []), (2, []), (5, []), (7, []), (1, []), (3, []), (4, []), (6, []), (8, []), (9, []), (10, [])] [1, 2, 5, 6, 7, 65, 66, 79] [2, 5, 7] hmixA (by kernel_rfl) (by simp [gk, hlt] <;> rfl) ?_
    refine aw_cond rfl (fun h3 => by simp at h3) (fun h3 => aw_skip ?_)
    refine aw_one [1, 2, 5, 6, 7, 65, 66] [2, 5, 7] (by simp [hw1] <;> rfl) ?_
    exact ⟨hlt, trivial, _, AS.le_refl _⟩
  · refine aw_exit ?_
    refine aw_seq ?_
    refine aw_step [1, 2, 5, 82] [2, 5] (by simp <;> rfl) ?_
    refine aw_cond rfl (fun h4 => ?_) (fun h4 => aw_skip ?_)
    · refine aw_seq (aw_region ?_)
      refine awl_call1 c9 Tryz.func9 rfl (by kernel_rfl) rfl rfl rfl (by simp <;> rfl) (by simp) (by simp <;> rfl) ?_
      refine awl_end [4] [] (by simp <;> rfl) ?_
      exact aw_ret (ends_ret (by simp [Tryz.results4] <;> rfl) rfl)
    have he : e = 0 := by simpa using h4
    obtain ⟨g1, g2, g3⟩ := hs0 he
    simp only at g1 g2 g3
    refine aw_seq (aw_region ?_)
    refine awl_go 2 (by simp <;> rfl) ?_
    refine awl_callQ hG c12 Tryz.func12 rfl (by kernel_rfl) (by simp) rfl rfl rfl (by simp <;> rfl) (by simp [i1, i2, i3, i4, za]) (by simp <;> rfl) ?_
    refine awl_end [1, 2, 6, 10] [2] (by simp <;> rfl) ?_
    refine aw_seq (aw_region ?_)
    refine awl_go 23 (by simp [g1] <;> rfl) ?_
    refine awl_gcall (fun hg => c9) Tryz.func9 rfl (by kernel_rfl) (by simp <;> rfl) rfl rfl (by simp <;> rfl) (by simp) (by simp <;> rfl) ?_
    refine awl_end [4] [] (by simp <;> rfl) ?_
    exact aw_ret (ends_ret (by simp [Tryz.results4] <;> rfl) (by simp; omega))
end Go.Proofs.YtnklkkagpkcmfaaGreatDoor

set_option maxRecDepth 10000
namespace Go.Proofs.YtnklkkagpkcmfaaGreatDoor
open Go.Eng Go.Eng.Limb Go.ChangeShapes Go.WideShapes Go.ChangeAt Go.RowKit

theorem own : ownKnob Tryz.prog.godebug = none := by kernel_rfl
theorem rd_one {vs : List V} {n : Nat} (h : Rd Tryz.prog n 3 vs) : ∃ x : Int, vs = [.int .i64 x] := by
  obtain ⟨a, rfl, _⟩ := rd_int Tryz.underlying3 h
  exact ⟨a, rfl⟩
theorem rd_txt {vs : List V} {n : Nat} (h : Rd Tryz.prog n 9 vs) : ∃ x : List UInt8, vs = [.str x] := by
  obtain ⟨a, rfl, _⟩ := rd_str Tryz.underlying9 h
  exact ⟨a, rfl⟩
theorem rd_cells {α : Type} {f : α → V} {t : TypeId} {l : List (List V)} (ht : tagg Tryz.prog t = some false) (h : ∀ x ∈ l, ∃ y, x = [f y]) : ∃ l' : List α, l.map (mkV (tagg Tryz.prog t)) = l'.map f := by
  refine map_of (fun v hv => ?_)
  obtain ⟨x, hx, rfl⟩ := List.mem_map.1 hv
  obtain ⟨y, rfl⟩ := h x hx
  exact ⟨y, by rw [ht]; rfl⟩
theorem rd_ints {vs : List V} {n : Nat} (h : Rd Tryz.prog n 22 vs) : ∃ x : List Int, vs = [.ro 1 (ints x)] := by
  obtain ⟨es, rfl, _, hes⟩ := rd_slice Tryz.underlying22 h
  obtain ⟨l, hl⟩ := rd_cells (f := V.int .i64) (t := 3) (by kernel_rfl) (fun x hx => rd_one (hes x hx))
  exact ⟨l, by rw [hl, show Tryz.prog.cellsOf 3 = 1 by kernel_rfl]; rfl⟩
theorem rd_strs {vs : List V} {n : Nat} (h : Rd Tryz.prog n 37 vs) : ∃ x : List (List UInt8), vs = [.ro 1 (strsV x)] := by
  obtain ⟨es, rfl, _, hes⟩ := rd_slice Tryz.underlying37 h
  obtain ⟨l, hl⟩ := rd_cells (f := V.str) (t := 9) (by kernel_rfl) (fun x hx => rd_txt (hes x hx))
  exact ⟨l, by rw [hl, show Tryz.prog.cellsOf 9 = 1 by kernel_rfl]; rfl⟩
theorem rd_item {vs : List V} {n : Nat} (h : Rd Tryz.prog n 39 vs) : ∃ x : It, V.agg vs = x.v := by
  obtain ⟨ua0, wa0, rfl, ha0, ua1, wa1, rfl, ha1, ua2, wa2, rfl, ha2, ua3, wa3, rfl, ha3, ua4, wa4, rfl, ha4, ua5, wa5, rfl, ha5, ua6, wa6, rfl, ha6, ua7, wa7, rfl, ha7, ua8, wa8, rfl, ha8, ua9, wa9, rfl, ha9, ua10, wa10, rfl, ha10, ua11, wa11, rfl, ha11, ua12, wa12, rfl, ha12, ua13, wa13, rfl, ha13, ua14, wa14, rfl, ha14, ua15, wa15, rfl, ha15, ua16, wa16, rfl, ha16, rfl⟩ := rd_struct Tryz.underlying39 h
  obtain ⟨a0, rfl⟩ := rd_one ha0
  obtain ⟨a1, rfl⟩ := rd_one ha1
  obtain ⟨a2, rfl⟩ := rd_one ha2
  obtain ⟨a3, rfl⟩ := rd_txt ha3
  obtain ⟨a4, rfl⟩ := rd_strs ha4
  obtain ⟨a5, rfl⟩ := rd_ints ha5
  obtain ⟨a6, rfl⟩ := rd_one ha6
  obtain ⟨a7, rfl⟩ := rd_one ha7
  obtain ⟨a8, rfl⟩ := rd_strs ha8
  obtain ⟨a9, rfl⟩ := rd_one ha9
  obtain ⟨a10, rfl⟩ := rd_txt ha10
  obtain ⟨a11, rfl⟩ := rd_one ha11
  obtain ⟨a12, rfl⟩ := rd_one ha12
  obtain ⟨a13, rfl⟩ := rd_one ha13
  obtain ⟨a14, rfl⟩ := rd_one ha14
  obtain ⟨a15, rfl⟩ := rd_ints ha15
  obtain ⟨a16, rfl⟩ := rd_one ha16
  exact ⟨⟨a0, a1, a2, a3, a4, a5, a6, a7, a8, a9, a10, a11, a12, a13, a14, a15, a16⟩, rfl⟩
theorem sml_strs {l : List (List UInt8)} (h : SmlV 1048576 (.ro 1 (strsV l))) : l.length ≤ 2000000 ∧ ∀ s ∈ l, s.length ≤ 2000000 := by
  cases h with
  | ro h k =>
    rw [strsV_len] at h
    refine ⟨by omega, fun s hs => ?_⟩
    have := k (.str s) (List.mem_map_of_mem hs)
    cases this with
    | str h => omega
theorem sml_len {sz : Nat} {es : List V} (h : SmlV 1048576 (.ro sz es)) : es.length ≤ 1048576 := by cases h with
  | ro h _ => exact h
theorem sml_item {it : It} (h : SmlV 1048576 it.v) : it.small := by
  cases h with
  | agg h =>
    have h1 := h (.str it.stem) (by simp)
    have h2 := sml_strs (h (.ro 1 (strsV it.opts)) (by simp))
    have h3 := sml_strs (h (.ro 1 (strsV it.txts)) (by simp))
    have h4 := sml_len (h (.ro 1 (ints it.ch)) (by simp))
    have h5 := sml_len (h (.ro 1 (ints it.ass)) (by simp))
    rw [ints_len] at h4 h5
    cases h1 with
    | str h1 => exact ⟨by omega, h2, h3, by omega, by omega⟩
theorem sml_code {it : It} (h : SmlV 1048576 it.v) : it.code.length ≤ 4000000000 := by
  cases h with
  | agg h =>
    have h1 := h (.str it.code) (by simp)
    cases h1 with
    | str h1 => omega
theorem rdw_item {v : V} (h : RdW Tryz.prog 39 v) : ∃ it : It, v = it.v := by
  obtain ⟨n, vs, hr, rfl⟩ := h
  obtain ⟨it, h2⟩ := rd_item hr
  exact ⟨it, by rw [show tagg Tryz.prog 39 = some true by kernel_rfl]; exact h2⟩
theorem rdw_int {v : V} (h : RdW Tryz.prog 3 v) : ∃ c : Int, v = .int .i64 c := by
  obtain ⟨n, vs, hr, rfl⟩ := h
  obtain ⟨c, rfl⟩ := rd_one hr
  exact ⟨c, by rw [tyA3]; rfl⟩
theorem bulk_part {H : Type} {d : DataW H} {l : List (DataW H)} (h : d ∈ l) : Rows.uptoBulk d ≤ Rows.uptoBulkAll l := by
  induction l with
  | nil => cases h
  | cons x r ih =>
    simp only [Rows.uptoBulkAll]
    cases List.mem_cons.1 h with
    | inl e => subst e; omega
    | inr e => have := ih e; omega
theorem bulk_one {H : Type} (d : DataW H) : 1 ≤ Rows.uptoBulk d := by
  cases d with
  | lit l => cases l <;> simp [Rows.uptoBulk]
  | _ => simp [Rows.uptoBulk]
theorem bulk_length {H : Type} (l : List (DataW H)) : l.length ≤ Rows.uptoBulkAll l := by
  induction l with
  | nil => simp [Rows.uptoBulkAll]
  | cons x r ih => have := bulk_one x; simp only [Rows.uptoBulkAll, List.length_cons]; omega
theorem bulkOk (H : Type) : BulkOk (Rows.uptoBulk (H := H)) where
  str b := by simp [Rows.uptoBulk]
  slice elems spare := by
    refine ⟨?_, fun e he => ?_⟩
    · have := bulk_length elems; simp only [Rows.uptoBulk]; omega
    · have := bulk_part he; simp only [Rows.uptoBulk]; omega
  agg parts e he := by have := bulk_part he; simp only [Rows.uptoBulk]; omega
theorem bulk_bound {H : Type} {l : List (DataW H)} (hk : Rows.uptoSmall H l = true) : ∀ d ∈ l, Rows.uptoBulk d ≤ 1048576 := by
  have h : Rows.uptoBulkAll l ≤ 1048576 := of_decide_eq_true hk
  exact fun d hd => Nat.le_trans (bulk_part hd) h
theorem gv_of {W : World} (hs : W.ShapedOpen Tryz.prog) : gv.P W :=
  Go.Proofs.cell_of_shapedOpen_int (zero := #[.int .i64 0]) (t := 3) hs (of_decide_eq_true (by kernel_rfl)) (by kernel_rfl) rfl (by kernel_rfl) (by kernel_rfl) Tryz.underlying3
abbrev laidL : List (String × DataW Unit) := Rows.simulateAnswersRow.laid
def errT : Value := .iface 589 (.agg #[.pointer (some ⟨4, 264, none⟩)])
def litV : DataW Unit → Value
  | .lit (.int k n) => .int k n
  | _ => undef
def litL (l : List (DataW Unit)) : List Value := l.flatMap fun
  | .agg m => m.map litV
  | x => [litV x]
noncomputable def layVar (h : Array Obj) (x : String × DataW Unit) : Array Obj := match Tryz.prog.globalNamed x.1, x.2 with
  | some g, .agg l => h.modify g fun
      | .cells _ t frozen => .cells (litL l).toArray t frozen
      | o => o
  | _, _ => h
noncomputable def laidWorld (os : Os) : World :=
  { World.holding Tryz.prog os ⟨#[], #[], []⟩ with heap := (laidL.foldl layVar (World.holding Tryz.prog os ⟨#[], #[], []⟩).heap).modify 3 fun
      | .cells _ t frozen => .cells #[errT] t frozen
      | o => o }
def zI : Value := .int .i64 0
def zS : Value := .slice none 0 0
def dI {H : Type} : DataW H := .lit (.int .i64 0)
def zT : Value := .string ⟨#[]⟩
def zA : Array Value := #[.agg #[zI, zI, zI, zT, zS, zS, zI, zI, zS, zI, zT, zI, zI, zI, zI, zS, zI], zI]
def dS {H : Type} : DataW H := .lit (.string [])
theorem laid_metA (os : Os) : laidMetH Tryz.prog laidL ((laidWorld os).forCall (fun _ _ => 0) ⟨#[], zA, []⟩).memory :=
  laidMetH_of_parts (laidMet_of_run' 8 (by kernel_rfl) (by kernel_rfl)) (by kernel_rfl)
theorem readsA (os : Os) {H : Type} (enc : TypeId × Value → H) : ∃ ds places, DataW.whole enc Tryz.prog ((laidWorld os).forCall (fun _ _ => 0) ⟨#[], zA, []⟩).memory Tryz.f4.params.toList Rows.simulateAnswersSpec.vars false zA.toList 8 = some (ds, [], places) ∧ Rows.uptoSmall H (ds ++ []) = true :=
  ⟨[.agg [dI, dI, dI, dS, .nil, .nil, dI, dI, .nil, dI, dS, dI, dI, dI, dI, .nil, dI], dI], [], by kernel_rfl, by kernel_rfl⟩
end Go.Proofs.YtnklkkagpkcmfaaGreatDoor

set_option maxRecDepth 10000
namespace Go.Proofs.YtnklkkagpkcmfaaGreatDoor
open Go.Eng Go.Eng.Limb Go.ChangeShapes Go.WideShapes Go.ChangeAt Go.RowKit

theorem bt {a b : Bool} (h1 : a = true) (h2 : b = true) : (a && b) = true := by rw [h1, h2]; rfl
theorem tieS : Tryz.prog.laidByTextLater [("unicode/utf8.acceptRanges", Rows.laid_unicode_utf8_acceptRanges), ("errors.errorType", Rows.laid_errors_errorType)] [.data, .handle] true :=
  Program.laidByTextLater_by_run_h 400 8 tw tw2 tr tk tg tn td t1 t2 t3
theorem fitsS : Tryz.pinned.checked.prog.listedFits [("unicode/utf8.first", Rows.laid_unicode_utf8_first), ("unicode/utf8.acceptRanges", Rows.laid_unicode_utf8_acceptRanges), ("errors.errorType", Rows.laid_errors_errorType)] = true := by
  unfold Program.listedFits
  rw [noOwnU]
  kernel_rfl
theorem tieA : Rows.simulateAnswersUptoRow.laidByTextAt .later Tryz.pinned [.pinned, .data, .handle] true :=
  OpenClaim.laidByTextAt_pinned rfl rfl tieS rfl rfl rfl rfl (fun y hy _e => by
    simp only [Rows.simulateAnswersUptoRow, List.zip_cons_cons, List.zip_nil_right, List.mem_cons, List.mem_nil_iff, or_false] at hy
    rcases hy with rfl | rfl | rfl
    · exact ⟨pinF, by kernel_rfl⟩
    · cases _e
    · cases _e) fitsS
theorem factsA : joinedFacts Tryz.prog 4 Tryz.f4 (Rows.OpenSpec.upto Rows.simulateAnswersSpec).bare Rows.simulateAnswersUptoRow = true := by
  unfold joinedFacts
  exact bt (bt (bt (bt (bt (bt (bt (bt (bt (bt (bt (bt (bt (bt (bt (bt (bt (bt (bt (bt (bt (bt (bt (bt (bt (bt (bt (bt (bt (bt (bt (jA0) jA1) jA2) jA3) jA4) jA5) jA6) jA7) jA8) jA9) jA10) jA11) jA12) jA13) jA14) jA15) jA16) jA17) jA18) jA19) jA20) jA21) jA22) jA23) jA24) jA25) jA26) jA27) jA28) jA29) jA30) jA31

set_option maxRecDepth 100000 in
theorem answersLifted (os : Os) (started : os.Started) (H : Type) (enc : TypeId × Value → H) (F : Stop.Interp) :
    ReturnsInHanded {} Tryz.checked os 4 .any ((Rows.OpenSpec.upto Rows.simulateAnswersSpec).preRow enc Tryz.prog Tryz.f4 Rows.simulateAnswersUptoRow.domain false Rows.simulateAnswersUptoRow.laid) (((Rows.OpenSpec.upto Rows.simulateAnswersSpec).at F).post enc Tryz.prog Tryz.f4 false true false false) := by
  obtain ⟨ds, places, hx, hsm⟩ := readsA os enc
  refine returnsInHanded_of_row (C := Tryz.checked) (s := Rows.OpenSpec.upto Rows.simulateAnswersSpec) own started (by kernel_rfl) Tryz.func4
    (witness_row_at (enc := enc) (C := Tryz.checked) false (laidWorld os) zA rfl (by kernel_rfl) (by kernel_rfl) (by kernel_rfl)
      (OpenSpec.preRow_of_cond 8 hx (by kernel_rfl) (fun k hk => by cases hk; exact hsm) (by kernel_rfl) (laid_metA os))) ?_
  intro W base args ds gs before hval hW _ hcond _ hL hS _
  refine row_contractQB (s := Rows.simulateAnswersSpec) (L := [39, 37, 22, 9, 3, 4]) (tb := 4) (ts := [39, 3]) (by rw [Tryz.params4]) (by kernel_rfl) (by kernel_rfl) jA1 rfl Tryz.underlying4 rfl (fun ds hl => ?_) (fun vs hvs hsm => ?_) (G := gv) (gv_of hS) (bulkOk H) (fun d hd => bulk_bound (hcond _ rfl) d (List.mem_append_left _ hd)) hval hW
  · match ds, hl with
    | [d0, d1], _ => rfl
  · obtain ⟨v0, r0, rfl, h0, v1, r1, rfl, h1, rfl⟩ := hvs
    obtain ⟨it, rfl⟩ := rdw_item h0
    obtain ⟨c, rfl⟩ := rdw_int h1
    have hm := hsm it.v (by simp)
    exact answers_acq it c (sml_item hm) (sml_code hm)
theorem answersUpto : Rows.SimulateAnswersUptoSaid :=
  OpenClaim.holds_of_cond 4 Tryz.f4 rfl rfl rfl rfl rfl rfl rfl ⟨rfl, rfl, rfl, rfl, rfl⟩ rfl rfl rfl rfl rfl jAnamed Tryz.func4 factsA
    (of_decide_eq_true (by kernel_rfl)) (by unfold Func.isWrapper; first | (rw [if_pos (by decide +kernel)]; kernel_rfl) | (rw [if_neg (by decide +kernel)]; exact ⟨rfl, rfl⟩))
    (fun os started H enc _ F => by rw [OpenClaim.pre_eq_preRow]; exact answersLifted os started H enc F)
theorem answersPlain (f : FuncId) (fn : Func) (hf : Tryz.pinned.checked.prog.funcNamed "examboard/examboardlaw58.SimulateAnswers" = some f) (hfn : Tryz.pinned.checked.prog.funcs[f]? = some fn) :
    true = Tryz.pinned.checked.prog.looks [] ∧ ∀ (j : Nat) t, fn.params[j]? = some t → Tryz.pinned.checked.prog.wantsStandIn t = false := by
  obtain rfl : f = 4 := Option.some.inj (jAnamed.symm.trans hf) |>.symm
  obtain rfl : fn = Tryz.f4 := (Option.some.inj (Tryz.func4.symm.trans hfn)).symm
  refine ⟨lks, fun j t ht => ?_⟩
  rw [Tryz.params4] at ht
  have h3 : t = 39 ∨ t = 3 := by
    have := Array.mem_of_getElem? ht
    simp at this
    omega
  rcases h3 with rfl | rfl
  · exact (show Tryz.prog.wantsStandIn 39 = false by kernel_rfl)
  · exact (show Tryz.prog.wantsStandIn 3 = false by kernel_rfl)
theorem simulateAnswersProved : Rows.SimulateAnswersUptoCardSaid :=
  Claim7.holds_tied_plain_at .later [] _ _ _ _ answersUpto (fun _ h => by cases h) jAwft (fun _ h => by cases h) tieA rfl ⟨rfl, rfl⟩ mainS rfl answersPlain jAgoes
end Go.Proofs.YtnklkkagpkcmfaaGreatDoor
