import Derived.Test.YtliogkkhofhfcaaGreatDoorGK
import Derived.Test.YtliogkkhofhfcaaGreatDoorE10
import Derived.Test.YtliogkkhofhfcaaGreatDoorRows
import Derived.Test.YtliogkkhofhfcaaGreatDoorCards
import Derived.Test.YtliogkkhofhfcaaGreatDoorTie
import Derived.WalkKit
import Derived.ProofKit
import Derived.OpenShut
import Derived.Deep.DeepHandedRow
import Derived.Lib.LaidTab
import Derived.Stop.LaidErr
/- Query: what comes in; the package variables; a world for the witness. No condition. -/
set_option linter.unusedSimpArgs false
set_option maxRecDepth 10000
namespace Go.Proofs.YtliogkkhofhfcaaGreatDoor
open Go.Eng Go.ChangeShapes Go.WideShapes Go.ChangeAt Go.RowKit

theorem own : ownKnob Tryz.prog.godebug = none := by kernel_rfl
theorem laidOut : laidOutB Tryz.prog = true := by kernel_rfl
theorem ce24 : Tryz.prog.cellsOf 24 = 6 := by kernel_rfl
theorem ce69 : Tryz.prog.cellsOf 69 = 17 := by kernel_rfl
theorem ce51 : Tryz.prog.cellsOf 51 = 7 := by kernel_rfl
theorem ce105 : Tryz.prog.cellsOf 105 = 2 := by kernel_rfl
theorem ce3 : Tryz.prog.cellsOf 3 = 1 := by kernel_rfl
theorem ce9 : Tryz.prog.cellsOf 9 = 1 := by kernel_rfl
theorem ce34 : Tryz.prog.cellsOf 34 = 1 := by kernel_rfl
theorem ce189 : Tryz.prog.cellsOf 189 = 2 := by kernel_rfl
theorem ce191 : Tryz.prog.cellsOf 191 = 5 := by kernel_rfl
theorem ce193 : Tryz.prog.cellsOf 193 = 4 := by kernel_rfl

theorem rd_one {vs : List V} {n : Nat} (h : Rd Tryz.prog n 3 vs) : ∃ x : Int, vs = [.int .i64 x] := by
  obtain ⟨a, rfl, _⟩ := rd_int Tryz.underlying3 h
  exact ⟨a, rfl⟩
theorem rd_txt {vs : List V} {n : Nat} (h : Rd Tryz.prog n 9 vs) : ∃ x : List UInt8, vs = [.str x] := by
  obtain ⟨a, rfl, _⟩ := rd_str Tryz.underlying9 h
  exact ⟨a, rfl⟩
theorem rd_any {vs : List V} {n : Nat} {t e : TypeId} {k : Nat} (hu : Tryz.prog.underlying t = some (.slice e)) (hc : Tryz.prog.cellsOf e = k) (h : Rd Tryz.prog n t vs) : ∃ l : List V, vs = [.ro k l] := by
  obtain ⟨es, rfl, _⟩ := rd_slice hu h
  exact ⟨_, by rw [hc]⟩
/-- Lists whose elements read alike. -/
theorem rd_map {α : Type} {f : α → V} {t : TypeId} {l : List (List V)} (ht : tagg Tryz.prog t = some true) (h : ∀ x ∈ l, ∃ y, V.agg x = f y) : ∃ l' : List α, l.map (mkV (tagg Tryz.prog t)) = l'.map f := by
  refine map_of (fun v hv => ?_)
  obtain ⟨x, hx, rfl⟩ := List.mem_map.1 hv
  obtain ⟨y, hy⟩ := h x hx
  exact ⟨y, by rw [ht]; exact hy⟩
theorem rd_item {vs : List V} {n : Nat} (h : Rd Tryz.prog n 69 vs) : ∃ x : It, V.agg vs = x.v := by
  obtain ⟨u0, w0, rfl, h0, u1, w1, rfl, h1, u2, w2, rfl, h2, u3, w3, rfl, h3, u4, w4, rfl, h4, u5, w5, rfl, h5, u6, w6, rfl, h6, u7, w7, rfl, h7, u8, w8, rfl, h8, u9, w9, rfl, h9, u10, w10, rfl, h10, u11, w11, rfl, h11, u12, w12, rfl, h12, u13, w13, rfl, h13, u14, w14, rfl, h14, u15, w15, rfl, h15, u16, w16, rfl, h16, rfl⟩ := rd_struct Tryz.underlying69 h
  obtain ⟨x0, rfl⟩ := rd_one h0
  obtain ⟨x1, rfl⟩ := rd_one h1
  obtain ⟨x2, rfl⟩ := rd_one h2
  obtain ⟨x3, rfl⟩ := rd_txt h3
  obtain ⟨x4, rfl⟩ := rd_any Tryz.underlying67 ce9 h4
  obtain ⟨x5, rfl⟩ := rd_any Tryz.underlying34 ce3 h5
  obtain ⟨x6, rfl⟩ := rd_one h6
  obtain ⟨x7, rfl⟩ := rd_one h7
  obtain ⟨x8, rfl⟩ := rd_any Tryz.underlying67 ce9 h8
  obtain ⟨x9, rfl⟩ := rd_one h9
  obtain ⟨x10, rfl⟩ := rd_txt h10
  obtain ⟨x11, rfl⟩ := rd_one h11
  obtain ⟨x12, rfl⟩ := rd_one h12
  obtain ⟨x13, rfl⟩ := rd_one h13
  obtain ⟨x14, rfl⟩ := rd_one h14
  obtain ⟨x15, rfl⟩ := rd_any Tryz.underlying34 ce3 h15
  obtain ⟨x16, rfl⟩ := rd_one h16
  exact ⟨⟨x0, x1, x2, x3, x4, x5, x6, x7, x8, x9, x10, x11, x12, x13, x14, x15, x16⟩, rfl⟩
theorem rd_entry {vs : List V} {n : Nat} (h : Rd Tryz.prog n 51 vs) : ∃ x : En, V.agg vs = x.v := by
  obtain ⟨u0, w0, rfl, h0, u1, w1, rfl, h1, u2, w2, rfl, h2, rfl⟩ := rd_struct Tryz.underlying51 h
  obtain ⟨es, rfl, _, hes⟩ := rd_slice Tryz.underlying43 h0
  obtain ⟨l, hl⟩ := rd_map (f := It.v) (t := 69) (by kernel_rfl) (fun x hx => rd_item (hes x hx))
  obtain ⟨a0, b0, rfl, g0, a1, b1, rfl, g1, a2, b2, rfl, g2, a3, b3, rfl, g3, a4, b4, rfl, g4, rfl⟩ := rd_struct Tryz.underlying46 h1
  obtain ⟨x0, rfl⟩ := rd_one g0
  obtain ⟨x1, rfl⟩ := rd_one g1
  obtain ⟨x2, rfl⟩ := rd_any Tryz.underlying34 ce3 g2
  obtain ⟨x3, rfl⟩ := rd_any Tryz.underlying34 ce3 g3
  obtain ⟨x4, rfl⟩ := rd_any Tryz.underlying44 ce193 g4
  obtain ⟨a5, b5, rfl, g5, rfl⟩ := rd_struct Tryz.underlying49 h2
  obtain ⟨x5, rfl⟩ := rd_any Tryz.underlying47 ce34 g5
  exact ⟨⟨l, x0, x1, x2, x3, x4, x5⟩, by rw [hl, ce69]; rfl⟩
theorem rd_pair {vs : List V} {n : Nat} (h : Rd Tryz.prog n 105 vs) : ∃ x : Int × Int, V.agg vs = prV x := by
  obtain ⟨u0, w0, rfl, h0, u1, w1, rfl, h1, rfl⟩ := rd_struct Tryz.underlying105 h
  obtain ⟨x0, rfl⟩ := rd_one h0
  obtain ⟨x1, rfl⟩ := rd_one h1
  exact ⟨(x0, x1), rfl⟩
theorem rd_bank {vs : List V} {n : Nat} (h : Rd Tryz.prog n 42 vs) : ∃ x : Bk, V.agg vs = x.v := by
  obtain ⟨u0, w0, rfl, h0, u1, w1, rfl, h1, u2, w2, rfl, h2, u3, w3, rfl, h3, u4, w4, rfl, h4, u5, w5, rfl, h5, rfl⟩ := rd_struct Tryz.underlying42 h
  obtain ⟨x0, rfl⟩ := rd_one h0
  obtain ⟨a0, b0, rfl, g0, a1, b1, rfl, g1, rfl⟩ := rd_struct Tryz.underlying36 h1
  obtain ⟨x1, rfl⟩ := rd_any Tryz.underlying34 ce3 g0
  obtain ⟨x2, rfl⟩ := rd_any Tryz.underlying34 ce3 g1
  obtain ⟨x3, rfl⟩ := rd_any Tryz.underlying37 ce189 h2
  obtain ⟨x4, rfl⟩ := rd_any Tryz.underlying38 ce191 h3
  obtain ⟨es, rfl, _, hes⟩ := rd_slice Tryz.underlying39 h4
  obtain ⟨l, hl⟩ := rd_map (f := En.v) (t := 51) (by kernel_rfl) (fun x hx => rd_entry (hes x hx))
  obtain ⟨fs, rfl, _, hfs⟩ := rd_slice Tryz.underlying40 h5
  obtain ⟨m, hm⟩ := rd_map (f := prV) (t := 105) (by kernel_rfl) (fun x hx => rd_pair (hfs x hx))
  exact ⟨⟨x0, x1, x2, x3, x4, l, m⟩, by rw [hl, hm, ce51, ce105]; rfl⟩
theorem rd_query : ∀ (n : Nat) {vs : List V}, Rd Tryz.prog n 24 vs → ∃ x : Qy, V.agg vs = x.v := by
  intro n
  induction n using Nat.strongRecOn with
  | _ n ih =>
    intro vs h
    cases n with
    | zero => exact h.elim
    | succ n =>
      obtain ⟨u0, w0, rfl, h0, u1, w1, rfl, h1, u2, w2, rfl, h2, u3, w3, rfl, h3, u4, w4, rfl, h4, u5, w5, rfl, h5, rfl⟩ := rd_struct Tryz.underlying24 h
      obtain ⟨x0, rfl⟩ := rd_one h0
      obtain ⟨x1, rfl⟩ := rd_one h1
      obtain ⟨x2, rfl⟩ := rd_one h2
      obtain ⟨x3, rfl⟩ := rd_txt h3
      obtain ⟨x4, rfl⟩ := rd_txt h4
      obtain ⟨es, rfl, _, hes⟩ := rd_slice Tryz.underlying22 h5
      obtain ⟨l, hl⟩ := rd_map (f := Qy.v) (t := 24) (by kernel_rfl) (fun x hx => ih (n + 1 - 1 - 1) (by omega) (hes x hx))
      exact ⟨.mk x0 x1 x2 x3 x4 l, by rw [hl, ce24, Qy.v]; rfl⟩
theorem rdw_query {v : V} (h : RdW Tryz.prog 24 v) : ∃ x : Qy, v = x.v := by
  obtain ⟨n, vs, hr, rfl⟩ := h
  obtain ⟨x, hx⟩ := rd_query n hr
  exact ⟨x, by rw [show tagg Tryz.prog 24 = some true by kernel_rfl]; exact hx⟩
theorem rdw_bank {v : V} (h : RdW Tryz.prog 42 v) : ∃ x : Bk, v = x.v := by
  obtain ⟨n, vs, hr, rfl⟩ := h
  obtain ⟨x, hx⟩ := rd_bank hr
  exact ⟨x, by rw [show tagg Tryz.prog 42 = some true by kernel_rfl]; exact hx⟩
theorem rdw_entry {v : V} (h : RdW Tryz.prog 51 v) : ∃ x : En, v = x.v := by
  obtain ⟨n, vs, hr, rfl⟩ := h
  obtain ⟨x, hx⟩ := rd_entry hr
  exact ⟨x, by rw [show tagg Tryz.prog 51 = some true by kernel_rfl]; exact hx⟩
theorem sml_query : ∀ (m : Nat) (q : Qy), SizeOf.sizeOf q < m → SmlV 1048576 q.v → SmQ q := by
  intro m
  induction m with
  | zero => intro q h; omega
  | succ m ih =>
    rintro ⟨k, c, n, f, s, ks⟩ hm h
    rw [Qy.v] at h
    cases h with
    | agg h =>
      have hf := h (.str f) (by simp)
      have hs := h (.str s) (by simp)
      have hk := h (.ro 6 (ks.map Qy.v)) (by simp)
      cases hf with
      | str hf => cases hs with
        | str hs => cases hk with
          | ro _ hk =>
            refine .mk (by omega) (by omega) (fun x hx => ?_)
            have := Qy.kid_lt (k := k) (c := c) (n := n) (f := f) (s := s) hx
            exact ih x (by omega) (hk _ (List.mem_map.2 ⟨x, hx, rfl⟩))
theorem sml_entry {e : En} (h : SmlV 1048576 e.v) : ∀ it ∈ e.vers, it.stem.length ≤ 2000000 := by
  intro it hit
  cases h with
  | agg h =>
    have h1 := h (.ro 17 (e.vers.map It.v)) (by simp)
    cases h1 with
    | ro _ h1 =>
      have h2 := h1 _ (List.mem_map.2 ⟨it, hit, rfl⟩)
      cases h2 with
      | agg h2 =>
        have h3 := h2 (.str it.stem) (by simp)
        cases h3 with
        | str h3 => omega
theorem sml_bank {b : Bk} (h : SmlV 1048576 b.v) : (∀ e ∈ b.ents, ∀ it ∈ e.vers, it.stem.length ≤ 2000000) ∧ b.ents.length ≤ 2000000 := by
  cases h with
  | agg h =>
    have h1 := h (.ro 7 (b.ents.map En.v)) (by simp)
    cases h1 with
    | ro hl h1 => exact ⟨fun e he => sml_entry (h1 _ (List.mem_map.2 ⟨e, he, rfl⟩)), by simp at hl; omega⟩

theorem bulk_part {H : Type} {d : DataW H} {l : List (DataW H)} (h : d ∈ l) : Rows.uptoBulk d ≤ Rows.uptoBulkAll l := by
  induction l with
  | nil => cases h
  | cons x r ih =>
    simp only [Rows.uptoBulkAll]
    cases List.mem_cons.1 h with
    | inl e => subst e; omega
    | inr e => have := ih e; omega
theorem bulk_one {H : Type} (d : DataW H) : 1 ≤ Rows.uptoBulk d := by
  cases d with
  | lit l => cases l <;> simp [Rows.uptoBulk]
  | _ => simp [Rows.uptoBulk]
theorem bulk_length {H : Type} (l : List (DataW H)) : l.length ≤ Rows.uptoBulkAll l := by
  induction l with
  | nil => simp [Rows.uptoBulkAll]
  | cons x r ih => have := bulk_one x; simp only [Rows.uptoBulkAll, List.length_cons]; omega
theorem bulkOk (H : Type) : BulkOk (Rows.uptoBulk (H := H)) where
  str b := by simp [Rows.uptoBulk]
  slice elems spare := by
    refine ⟨?_, fun e he => ?_⟩
    · have := bulk_length elems; simp only [Rows.uptoBulk]; omega
    · have := bulk_part he; simp only [Rows.uptoBulk]; omega
  agg parts e he := by have := bulk_part he; simp only [Rows.uptoBulk]; omega
theorem bulk_bound {H : Type} {l : List (DataW H)} (hk : Rows.uptoSmall H l = true) : ∀ d ∈ l, Rows.uptoBulk d ≤ 1048576 := by
  have h : Rows.uptoBulkAll l ≤ 1048576 := of_decide_eq_true hk
  exact fun d hd => Nat.le_trans (bulk_part hd) h

abbrev laidL : List (String × DataW Unit) := Rows.queryBooleanRow.laid
noncomputable def powT : TypeId := ((Tryz.prog.globals[1]?).map (·.type)).getD 0
theorem powTy : (Tryz.prog.globals[1]?).map (·.type) = some powT := by kernel_rfl
noncomputable def powE : TypeId := match Tryz.prog.underlying powT with | some (.array _ e) => e | _ => 0
theorem powU : Tryz.prog.underlying powT = some (.array 20 powE) := by kernel_rfl
theorem powEu : Tryz.prog.underlying powE = some (.int .u64) := by kernel_rfl
theorem gv_of {W : World} (h : laidMetH Tryz.prog laidL W) (hs : W.ShapedOpen Tryz.prog) : gv.P W := by
  refine ⟨Go.Proofs.cell_of_shapedOpen_int (zero := #[.int .i64 0]) (t := 3) hs (of_decide_eq_true (by kernel_rfl)) (by kernel_rfl) rfl (by kernel_rfl) (by kernel_rfl) Tryz.underlying3, ?_⟩
  have h' : laidMet Tryz.prog laidL W := h
  have h2 := laidMet.tail (laidMet.tail h')
  exact Lib.tabIs_of_head (rest := []) (t := powT) (e := powE) (n := 20) powG powTy powU powEu (by kernel_rfl) (by kernel_rfl) h2
/-- A world in which the tables are laid. -/
def litV : DataW Unit → Value
  | .lit (.int k n) => .int k n
  | _ => undef
noncomputable def layVar (h : Array Obj) (x : String × DataW Unit) : Array Obj := match Tryz.prog.globalNamed x.1, x.2 with
  | some g, .agg l => h.modify g fun
      | .cells _ t frozen => .cells (l.map litV).toArray t frozen
      | o => o
  | _, _ => h
noncomputable def laidWorld (os : Os) : World :=
  { World.holding Tryz.prog os ⟨#[], #[], []⟩ with heap := laidL.foldl layVar (World.holding Tryz.prog os ⟨#[], #[], []⟩).heap }
def zq : Value := .agg #[.int .i64 0, .int .i64 0, .int .i64 0, .string ⟨#[]⟩, .string ⟨#[]⟩, .slice none 0 0]
def ze : Value := .agg #[.slice none 0 0, .int .i64 0, .int .i64 0, .slice none 0 0, .slice none 0 0, .slice none 0 0, .slice none 0 0]
def zb : Value := .agg #[.int .i64 0, .slice none 0 0, .slice none 0 0, .slice none 0 0, .slice none 0 0, .slice none 0 0, .slice none 0 0]
def dQ {H : Type} : DataW H := .agg [.lit (.int .i64 0), .lit (.int .i64 0), .lit (.int .i64 0), .lit (.string []), .lit (.string []), .nil]
def dE {H : Type} : DataW H := .agg [.nil, .agg [.lit (.int .i64 0), .lit (.int .i64 0), .nil, .nil, .nil], .agg [.nil]]
def dB {H : Type} : DataW H := .agg [.lit (.int .i64 0), .agg [.nil, .nil], .nil, .nil, .nil, .nil]
theorem laid_metB (os : Os) : laidMet Tryz.prog laidL ((laidWorld os).forCall (fun _ _ => 0) ⟨#[], #[zb, ze, zq, zq], []⟩).memory :=
  laidMet_of_run' 8 (by kernel_rfl) (by kernel_rfl)
end Go.Proofs.YtliogkkhofhfcaaGreatDoor
