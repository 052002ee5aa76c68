import Derived.Test.YtliogkkhofhfcaaGreatDoorGC
import Derived.Test.YtliogkkhofhfcaaGreatDoorGA
import Derived.Lib.AppendIntMem
/- Query: a builder of strings of the call's own. No condition. -/
set_option linter.unusedSimpArgs false
set_option maxRecDepth 4000
namespace Go.Proofs.YtliogkkhofhfcaaGreatDoor
open Go.Eng Go.RowKit

/-- A builder that was not copied: its first cell is nil or its own address. -/
def okA (d v : Nat) (ad : V) : Prop := ad = .nilp ∨ ad = .bp d v 2 0 0
abbrev bOb (v : Nat) (ad buf : V) : Ob := ⟨v, 2, 94, [.agg [ad, buf]]⟩
theorem lies94 (n : Nat) (h : 1 ≤ n) : liesAt Tryz.prog Tryz.prog.depth 94 n 0 94 1 = true := by
  have hpos : Nat.blt 0 Tryz.prog.depth = true := by kernel_rfl
  have hpos' : 0 < Tryz.prog.depth := Nat.le_of_ble_eq_true hpos
  obtain ⟨d, hd⟩ : ∃ d, Tryz.prog.depth = d + 1 := ⟨Tryz.prog.depth - 1, by omega⟩
  have hs : Tryz.prog.cellsOf 94 = 2 := by kernel_rfl
  have hl : sameLayout Tryz.prog Tryz.prog.depth 94 94 = true := by kernel_rfl
  rw [hd] at hl ⊢
  unfold liesAt
  rw [hd]
  unfold rowAt
  simp [hs, hl, h]
theorem ptr91 : Tryz.prog.underlying 91 = some (.pointer 94) := by kernel_rfl
theorem uns155 : Tryz.prog.underlying 155 = some .unsafePointer := by kernel_rfl
theorem info94 : ∃ j, Tryz.prog.info? 94 = some j ∧ j.size = 2 := by
  have h : (Tryz.prog.info? 94).map (·.size) = some 2 := by kernel_rfl
  obtain ⟨j, h1, h2⟩ := Option.map_eq_some_iff.1 h
  exact ⟨j, h1, h2⟩

theorem eqp_nil (w : World) : (binOp .eql 91 (.pointer none) (.pointer none)).run Tryz.prog w = .ok (.bool true) w := by
  have h : ∀ d : Nat, (Op.equalIn (d + 1) 91 (.pointer none) (.pointer none)).run Tryz.prog w = .ok true w := fun d => by
    simp [Op.equalIn, run_underlying ptr91]
  simp only [binOp]
  simp [Op.equal, Op.maxDepth, h 9999]
theorem eqp_some (w : World) (a : Addr) : (binOp .eql 91 (.pointer (some a)) (.pointer none)).run Tryz.prog w = .ok (.bool false) w := by
  have h : ∀ d : Nat, (Op.equalIn (d + 1) 91 (.pointer (some a)) (.pointer none)).run Tryz.prog w = .ok false w := fun d => by
    simp [Op.equalIn, run_underlying ptr91]
  simp only [binOp]
  simp [Op.equal, Op.maxDepth, h 9999]
theorem neqp_same (w : World) (a : Addr) : (binOp .neq 91 (.pointer (some a)) (.pointer (some a))).run Tryz.prog w = .ok (.bool false) w := by
  obtain ⟨j, hj, _⟩ := info94
  exact Lib.run_neq_ptr_same w a ptr91 hj
theorem noEscape_run (w : World) (x : Value) : (callFunc 112 #[x]).run Tryz.prog w = .ok (.value x) w := by
  rw [run_callFunc_extern Tryz.func112 (by kernel_rfl) (by kernel_rfl) (by kernel_rfl) (e := Extern.AbiNoEscape.same) (by kernel_rfl)]
  rw [Lib.run_noEscape]
  rfl
set_option maxHeartbeats 1000000 in
theorem copyCheck_acs (d v : Nat) (ad buf : V) (h : okA d v ad) (hb : buf.isCell = true) :
    ACS Tryz.prog 104 [.bp d v 2 0 0] [(d, bOb v ad buf)] (fun r q => r = .tup [] ∧ q = [(d, bOb v (.bp d v 2 0 0) buf)]) (fun _ => False) := by
  refine acs_intro Tryz.func104 rfl (by show (1 : Nat) ≤ 20; omega) (fun w0 N0 nx0 => ?_)
  refine aw_seq (aw_region ?_)
  rcases h with rfl | rfl
  · refine awl_go 4 (by simp [Tryz.ntmps104] <;> rfl) ?_
    refine awl_raw (v := .bool true) rfl (fun D μ a w hr => ⟨.bool true, ?_, .pur (.bool true)⟩) (by simp <;> rfl) ?_
    · have h5 := hr.nilp_at (t := 5) (by simp [Eng.get])
      show (do let z ← (do eqGuard .eql 91 _ _ (a.eval (.tmp 5)) (.pointer none); binOp .eql 91 (a.eval (.tmp 5)) (.pointer none)); pure (Next.value z) : Sem Next).run _ _ = _
      rw [h5]
      have hgd : (eqGuard .eql 91 (Operand.tmp 5) (.const (.pointer none)) (.pointer none) (.pointer none) : Sem Unit) = pure () := rfl
      simp [hgd, eqp_nil]
    refine awl_end [0, 6] [d] (by simp <;> rfl) ?_
    refine aw_cond rfl (fun h1 => ?_) (fun h1 => by simp at h1)
    refine aw_region ?_
    refine awl_go 2 (by simp <;> rfl) ?_
    refine awl_raw (v := .bp d v 2 0 0) rfl (fun D μ a w hr => ?_) (by simp <;> rfl) ?_
    · obtain ⟨g, cap, hm, h8⟩ := hr.bp_at (t := 8) (d := d) (v := v) (sz := 2) (k := 0) (off := 0) (by simp [Eng.get])
      obtain ⟨_, hc, arr, hw, hs⟩ := hr.ob_at (d := d) (o := bOb v .nilp buf) (by simp [Eng.get]) hm
      obtain ⟨j, hj, hjs⟩ := info94
      refine ⟨a.eval (.tmp 8), ?_, by rw [h8]; exact .bp _ _ _ _ _ _ _ hm⟩
      show (do let z ← convert 91 155 (a.eval (.tmp 8)); pure (Next.value z) : Sem Next).run _ _ = _
      rw [h8, Sem.run_bind, Lib.run_to_unsafe w _ ptr91 uns155 hj (by omega) (e := 94) (cells := arr.size) (by simp [World.shape?, hw]) (by simp at hs hc ⊢; omega)]
      rfl
    refine awl_raw (v := .bp d v 2 0 0) rfl (fun D μ a w hr => ?_) (by simp <;> rfl) ?_
    · obtain ⟨g, cap, hm, h9⟩ := hr.bp_at (t := 9) (d := d) (v := v) (sz := 2) (k := 0) (off := 0) (by simp [Eng.get])
      refine ⟨a.eval (.tmp 9), ?_, by rw [h9]; exact .bp _ _ _ _ _ _ _ hm⟩
      have hn := noEscape_run w (a.eval (.tmp 9))
      have he : a.eval (.func 112) = .func (.func 112) #[] #[] := rfl
      unfold execOp
      simp [resolve, he, Deferred.ofValue, invoke, hn]
    refine awl_raw (v := .bp d v 2 0 0) rfl (fun D μ a w hr => ?_) (by simp <;> rfl) ?_
    · obtain ⟨g, cap, hm, h10⟩ := hr.bp_at (t := 10) (d := d) (v := v) (sz := 2) (k := 0) (off := 0) (by simp [Eng.get])
      obtain ⟨_, hc, arr, hw, hs⟩ := hr.ob_at (d := d) (o := bOb v .nilp buf) (by simp [Eng.get]) hm
      obtain ⟨j, hj, hjs⟩ := info94
      refine ⟨a.eval (.tmp 10), ?_, by rw [h10]; exact .bp _ _ _ _ _ _ _ hm⟩
      show (do let z ← convert 155 91 (a.eval (.tmp 10)); pure (Next.value z) : Sem Next).run _ _ = _
      have hz : Tryz.prog.cellsOf 94 = 2 := by kernel_rfl
      rw [h10, Sem.run_bind, Lib.run_from_unsafe w _ uns155 ptr91 hj (e := 94) (cells := arr.size) (by simp [World.shape?, hw]) (by rw [hz, show 0 * 2 + 0 = 0 from rfl]; exact lies94 _ (by simp at hs hc ⊢; omega))]
      rfl
    refine awl_end [0] [d] (by simp [hb] <;> rfl) ?_
    refine ⟨by simp only; omega, .tup [], [(d, bOb v (.bp d v 2 0 0) buf)], by simp [Tryz.results104], fun k o hk => get_one (by simp [Eng.get]) hk, rfl, rfl⟩
  · refine awl_go 4 (by simp [Tryz.ntmps104] <;> rfl) ?_
    refine awl_raw (v := .bool false) rfl (fun D μ a w hr => ⟨.bool false, ?_, .pur (.bool false)⟩) (by simp <;> rfl) ?_
    · obtain ⟨g, cap, hm, h5⟩ := hr.bp_at (t := 5) (d := d) (v := v) (sz := 2) (k := 0) (off := 0) (by simp [Eng.get])
      show (do let z ← (do eqGuard .eql 91 _ _ (a.eval (.tmp 5)) (.pointer none); binOp .eql 91 (a.eval (.tmp 5)) (.pointer none)); pure (Next.value z) : Sem Next).run _ _ = _
      rw [h5]
      have hgd : ∀ q, (eqGuard .eql 91 (Operand.tmp 5) (.const (.pointer none)) (.pointer (some q)) (.pointer none) : Sem Unit) = pure () := fun _ => rfl
      simp [hgd, eqp_some]
    refine awl_end [0, 6] [d] (by simp <;> rfl) ?_
    refine aw_cond rfl (fun h1 => by simp at h1) (fun h1 => ?_)
    refine aw_seq (aw_region ?_)
    refine awl_go 5 (by simp <;> rfl) ?_
    refine awl_raw (v := .bool false) rfl (fun D μ a w hr => ⟨.bool false, ?_, .pur (.bool false)⟩) (by simp <;> rfl) ?_
    · obtain ⟨g, cap, hm, h17⟩ := hr.bp_at (t := 17) (d := d) (v := v) (sz := 2) (k := 0) (off := 0) (by simp [Eng.get])
      obtain ⟨g2, cap2, hm2, h18⟩ := hr.bp_at (t := 18) (d := d) (v := v) (sz := 2) (k := 0) (off := 0) (by simp [Eng.get])
      rw [hm] at hm2
      injection hm2 with hm2
      injection hm2 with hm2
      injection hm2 with hm3 hm4
      subst hm3
      show (do let z ← (do eqGuard .neq 91 _ _ (a.eval (.tmp 17)) (a.eval (.tmp 18)); binOp .neq 91 (a.eval (.tmp 17)) (a.eval (.tmp 18))); pure (Next.value z) : Sem Next).run _ _ = _
      rw [h17, h18]
      have hgd : ∀ q r, (eqGuard .neq 91 (Operand.tmp 17) (Operand.tmp 18) (.pointer (some q)) (.pointer (some r)) : Sem Unit) = pure () := fun _ _ => rfl
      simp [hgd, neqp_same]
    refine awl_end [0, 19] [d] (by simp <;> rfl) ?_
    refine aw_cond rfl (fun h1 => by simp at h1) (fun h1 => aw_skip ?_)
    refine ⟨by simp only; omega, .tup [], [(d, bOb v (.bp d v 2 0 0) buf)], by simp [Tryz.results104], fun k o hk => get_one (by simp [Eng.get]) hk, rfl, rfl⟩

def bys (l : List UInt8) : List V := l.map byV
theorem bysL (l : List UInt8) : (bys l).length = l.length := by simp [bys]
theorem bys_app (l s : List UInt8) : bys (l ++ s) = bys l ++ s.map byV := by simp [bys]
/-- A builder that holds t, and what leaves it so. -/
abbrev bObs (d v : Nat) (ad : V) (vq : Nat) (t : List UInt8) : List (Nat × Ob) := [(d, bOb v ad (.sl (d + 1) vq 1 t.length)), (d + 1, ⟨vq, 1, 5, bys t⟩)]
def bRes (d v : Nat) (t : List UInt8) (r0 : V) : V → List (Nat × Ob) → Prop := fun r o => r = r0 ∧ ∃ ad vq, okA d v ad ∧ o = bObs d v ad vq t
theorem get_two {d k : Nat} {x y o : Ob} {l : List (Nat × Ob)} (h : Eng.get l d = some x) (h' : Eng.get l (d + 1) = some y) (hk : Eng.get [(d, x), (d + 1, y)] k = some o) : Eng.get l k = some o := by
  simp only [Eng.get] at hk
  split at hk
  · rename_i e; subst e; rw [h]; exact hk
  · split at hk
    · rename_i e; subst e; rw [h']; exact hk
    · cases hk
theorem has_two {d k : Nat} {x y x' y' : Ob} (h : Eng.get [(d, x), (d + 1, y)] k = none) : Eng.get [(d, x'), (d + 1, y')] k = none := by
  simp only [Eng.get] at h ⊢
  split at h
  · cases h
  · rename_i h1
    split at h
    · cases h
    · rename_i h2
      rw [if_neg h1, if_neg h2]
@[simp] theorem dd1 (d : Nat) : (d = d + 1) = False := by simp
@[simp] theorem dd2 (d : Nat) : (d + 1 = d) = False := by simp
set_option maxHeartbeats 2000000 in
theorem writeString_acs (d v vq : Nat) (ad : V) (l s : List UInt8) (h : okA d v ad) (hb : l.length + s.length ≤ 1000000) :
    ACS Tryz.prog 84 [.bp d v 2 0 0, .str s] (bObs d v ad vq l) (bRes d v (l ++ s) (.tup [.int .i64 s.length, .nili])) (fun _ => False) := by
  have hl := bysL l
  have hbig : l.length + s.length ≤ maxLen := by unfold maxLen; omega
  have hbig2 : l.length + s.length ≤ 140737488355328 := by omega
  unfold bRes bObs
  rw [bys_app]
  generalize bys l = bv at hl
  have hcc := copyCheck_acs d v ad (.sl (d + 1) vq 1 l.length) h rfl
  refine acs_intro Tryz.func84 rfl (by show (2 : Nat) ≤ 19; omega) (fun w0 N0 nx0 => ?_)
  refine aw_step [0, 1] [d, d + 1] (by simp [Tryz.ntmps84] <;> rfl) ?_
  refine aw_seq (aw_region ?_)
  refine awl_go 1 (by simp <;> rfl) ?_
  refine awl_callS hcc Tryz.func104 rfl (by kernel_rfl) rfl rfl rfl (by simp <;> rfl) (fun k o hk => get_one (by simp [Eng.get]) hk) ?_ (fun ch hch => hch.elim)
  rintro r outs nx ⟨rfl, rfl⟩ hnx
  have hnx' : nx0 ≤ nx := by simp at hnx; omega
  refine ⟨fun k hk => ?_, _, by simp <;> rfl, ?_⟩
  · simp only [Eng.get] at hk ⊢
    split at hk
    · cases hk
    · rename_i h1; rw [if_neg h1]
  refine awl_end [0, 1] [d, d + 1] (by simp <;> rfl) ?_
  refine aw_step [0, 1] [d, d + 1] (by simp [hl, hbig, hbig2] <;> rfl) ?_
  refine aw_step [4, 5] [d, d + 1] (by simp <;> rfl) ?_
  exact aw_ret ⟨by simp only; omega, .tup [.int .i64 s.length, .nili], _, by simp [Tryz.results84], fun k o hk => get_two (d := d) (by simp [Eng.get]; rfl) (by simp [Eng.get]; rfl) hk, rfl, .bp d v 2 0 0, nx + 2 + 6, .inr rfl, by simp⟩
end Go.Proofs.YtliogkkhofhfcaaGreatDoor

/- Query: Len and String of a builder. No condition. -/
set_option linter.unusedSimpArgs false
set_option maxRecDepth 4000
namespace Go.Proofs.YtliogkkhofhfcaaGreatDoor
open Go.Eng Go.RowKit

theorem len_acs (d v vq : Nat) (ad : V) (t : List UInt8) (h : okA d v ad) : ACS Tryz.prog 41 [.bp d v 2 0 0] (bObs d v ad vq t) (bRes d v t (.int .i64 t.length)) (fun _ => False) := by
  unfold bRes bObs
  generalize bys t = bv
  refine acs_intro Tryz.func41 rfl (by show (1 : Nat) ≤ 8; omega) (fun w0 N0 nx0 => ?_)
  refine aw_step [0, 2] [d, d + 1] (by simp [Tryz.ntmps41] <;> rfl) ?_
  refine aw_step [2] [d, d + 1] (by simp <;> rfl) ?_
  exact aw_ret ⟨by simp only; omega, .int .i64 t.length, _, by simp [Tryz.results41], fun k o hk => get_two (d := d) (by simp [Eng.get]) (by simp [Eng.get]) hk, rfl, ad, vq, h, rfl⟩

set_option maxHeartbeats 2000000 in
set_option maxRecDepth 100000 in
theorem string_run (w : World) (b g cap : Nat) (cur : Array Value) (l : List UInt8) (hb : w.cell? ⟨b, 1, none⟩ = some (.slice (some ⟨g, 0, none⟩) l.length cap)) (hg : w.heap[g]? = some (.cells cur 5 (0, 0)))
    (hc : l.length ≤ cap) (hm : cap ≤ maxLen) (hs : cur.size = cap) (hx : ∀ (j : Nat) x, l[j]? = some x → cur[j]? = some (.int .u8 x.toNat)) (h0 : l ≠ []) :
    Calls Tryz.prog 42 #[.pointer (some ⟨b, 0, none⟩)] w fun e w' => e = .returned (.string ⟨l.toArray⟩) ∧ w' = w.drew.freeze ⟨g, 0, none⟩ l.length := by
  have hl0 : l.length ≠ 0 := by simpa using h0
  have hgd : w.drew.heap[g]? = some (.cells cur 5 (0, 0)) := hg
  have c1 : w.drew.cell? ⟨b, 1, none⟩ = some (.slice (some ⟨g, 0, none⟩) l.length cap) := hb
  have hSD : (Builtin.unsafeSliceData_ #[92] 112 #[.slice (some ⟨g, 0, none⟩) l.length cap]).run Tryz.prog w.drew = .ok (.pointer (some ⟨g, 0, none⟩)) w.drew :=
    Lib.run_unsafeSliceData_row _ _ _ _ _ _ (by omega)
  have hUS : (Builtin.unsafeString_ #[112, 3] 9 #[.pointer (some ⟨g, 0, none⟩), .int .i64 l.length]).run Tryz.prog w.drew = .ok (.string ⟨l.toArray⟩) (w.drew.freeze ⟨g, 0, none⟩ l.length) := by
    refine Lib.run_unsafeString_row w.drew 112 3 9 5 Tryz.underlying112 (by kernel_rfl) g cur.size (by simp [World.shape?, hgd]) l h0 (by omega) (by unfold maxLen at hm; omega) ?_
    intro j x hj
    have := hx j x hj
    have ha : (⟨g, 0, none⟩ : Addr).add j = ⟨g, j, none⟩ := by
      unfold Addr.add
      by_cases h : j = 0 <;> simp [h]
    rw [ha]
    simp [World.cell?, hgd, this]
  have mixed : Tryz.prog.follows .mixedOrders = true := hmix
  have u91 := run_underlying Tryz.underlying91; have u94 := run_underlying Tryz.underlying94; have u92 := run_underlying Tryz.underlying92; have u112 := run_underlying Tryz.underlying112
  go_enter Tryz.func42, Tryz.ntmps42
  go_wp2
  go_region_o
  all_goals (go_wp2; go_ret; exact ⟨rfl, rfl⟩)

theorem freeze_keep (w : World) (p : Addr) (n k : Nat) (h : k ≠ p.block) : (w.freeze p n).heap[k]? = w.heap[k]? := by
  unfold World.freeze
  split
  · rfl
  · simp only
    rw [Array.getElem?_modify, if_neg (fun e => h e.symm)]
theorem freeze_size (w : World) (p : Addr) (n : Nat) : (w.freeze p n).heap.size = w.heap.size := by
  unfold World.freeze
  split <;> simp
/-- String uses the builder up. -/
theorem string_acz (d v vq : Nat) (ad : V) (t : List UInt8) (h0 : t ≠ []) : ACZ Tryz.prog 42 [.bp d v 2 0 0] (bObs d v ad vq t) (fun r => r = .str t) := by
  intro B N μ nx xs hlen hdf hr
  have hl0 : t.length ≠ 0 := by simpa using h0
  obtain ⟨x, rfl⟩ : ∃ x, xs = [x] := by
    cases xs with
    | nil => simp at hlen
    | cons x r => cases r with
      | nil => exact ⟨x, rfl⟩
      | cons _ _ => simp at hlen
  obtain ⟨b, cb, hmb, hx⟩ := hr.bp_at (t := 0) (d := d) (v := v) (sz := 2) (k := 0) (off := 0) (by simp [env0, Eng.get])
  have hxv : x = .pointer (some ⟨b, 0, none⟩) := hx
  subst hxv
  obtain ⟨l1, hl1, hob1⟩ := hr.objs d (bOb v ad (.sl (d + 1) vq 1 t.length)) (by simp [Eng.get])
  rw [hmb] at hl1
  injection hl1 with hl1
  subst hl1
  obtain ⟨_, _, _, _, arr, harr, hasz, hcell⟩ := hob1
  obtain ⟨y, hy, hey⟩ := hcell 0 (.agg [ad, .sl (d + 1) vq 1 t.length]) 1 (.sl (d + 1) vq 1 t.length) rfl rfl
  simp only [Nat.zero_mul, Nat.zero_add] at hy
  obtain ⟨g, cap, hmg, hyv, hcap, hmax⟩ : ∃ g cap, μ (d + 1) vq = some (some (g, cap)) ∧ y = .slice (some ⟨g, 0, none⟩) t.length cap ∧ t.length ≤ cap ∧ cap ≤ maxLen := by
    generalize hlen' : t.length = n at hey hl0
    cases hey with
    | pur hp => cases hp
    | slr _ _ _ _ g cap hμ h hm => exact ⟨g, cap, hμ, rfl, h, hm⟩
    | slv => exact absurd rfl hl0
  subst hyv
  obtain ⟨l2, hl2, hob2⟩ := hr.objs (d + 1) ⟨vq, 1, 5, bys t⟩ (by simp [Eng.get])
  rw [hmg] at hl2
  injection hl2 with hl2
  subst hl2
  obtain ⟨hfree, _, _, _, cur, hcur, hcsz, hcells⟩ := hob2
  simp only [Nat.mul_one] at hcsz
  refine (string_run B.w b g cap cur t (by simp [World.cell?, harr, hy]) hcur hcap hmax hcsz (fun j c hj => ?_) h0).mono ?_
  · obtain ⟨z, hz, hez⟩ := hcells j (byV c) 0 (byV c) (by simp [bys, hj]) rfl
    simp only [Nat.mul_one, Nat.add_zero] at hz
    rw [hz]
    cases hez with
    | pur hp => cases hp; rfl
  · rintro e w' ⟨rfl, rfl⟩
    refine ⟨_, _, rfl, rfl, rfl, .str t, ?_⟩
    refine ⟨?_, ?_, ?_, by rw [freeze_size]; exact Nat.le_refl _, fun k hk hX => ?_⟩
    · unfold World.freeze; split <;> rfl
    · unfold World.freeze; split <;> rfl
    · unfold World.freeze; split <;> rfl
    · have hkg : k ≠ g := fun e => by
        subst e
        rcases hfree with h | h
        · omega
        · exact hX h
      rw [freeze_keep _ _ _ _ hkg]
      rfl
end Go.Proofs.YtliogkkhofhfcaaGreatDoor

/- Query: package variables; Itoa, Cut, Contains, IndexByte. No condition. -/
set_option linter.unusedSimpArgs false
set_option maxRecDepth 4000
namespace Go.Proofs.YtliogkkhofhfcaaGreatDoor
open Go.Eng Go.RowKit Go.Sort Go.Lib

/-- The name of the table of powers, as the row lists it. -/
def powN : String := "internal/strconv.uint64pow10"
theorem powG : Tryz.prog.globalNamed powN = some 1 := by kernel_rfl
/-- What is known of the package variables: the library's bound is some number, the table of powers is as the program lays it. -/
def gv : Gp where
  P := fun w => (∃ m, w.cell? ⟨0, 0, none⟩ = some (.int .i64 m)) ∧ Lib.TabIs Tryz.prog w powN .u64 Lib.pow10Tab
  bl := fun b => b = 0 ∨ b = 1
  stable := by
    rintro w w' ⟨⟨m, h1⟩, h2⟩ hk
    refine ⟨⟨m, ?_⟩, ?_⟩
    · rw [World.cell?_of_block (hk 0 (.inl rfl))]; exact h1
    · unfold Lib.TabIs World.var? at h2 ⊢
      rw [powG] at h2 ⊢
      simp only [Option.bind_some] at h2 ⊢
      rw [hk 1 (.inr rfl)]; exact h2
  low := by
    rintro w ⟨⟨m, h1⟩, h2⟩ b (rfl | rfl)
    · rcases Nat.lt_or_ge 0 w.heap.size with h | h
      · exact h
      · simp [World.cell?, Array.getElem?_eq_none h] at h1
    · rcases Nat.lt_or_ge 1 w.heap.size with h | h
      · exact h
      · unfold Lib.TabIs World.var? at h2
        rw [powG] at h2
        simp [Array.getElem?_eq_none h] at h2

theorem one_arg {P : Program} {w : World} {N : Nat → Prop} {xs : List Value} {v : V} (hl : xs.length = [v].length) (hp : ∀ (i : Nat) x u, xs[i]? = some x → [v][i]? = some u → Pur w N x u) : ∃ x, xs = [x] ∧ Pur w N x v := by
  cases xs with
  | nil => simp at hl
  | cons x r => cases r with
    | nil => exact ⟨x, rfl, hp 0 x v rfl rfl⟩
    | cons _ _ => simp at hl
theorem two_args {w : World} {N : Nat → Prop} {xs : List Value} {v u : V} (hl : xs.length = [v, u].length) (hp : ∀ (i : Nat) x z, xs[i]? = some x → [v, u][i]? = some z → Pur w N x z) : ∃ x y, xs = [x, y] ∧ Pur w N x v ∧ Pur w N y u := by
  cases xs with
  | nil => simp at hl
  | cons x r => cases r with
    | nil => simp at hl
    | cons y r => cases r with
      | nil => exact ⟨x, y, rfl, hp 0 x v rfl rfl, hp 1 y u rfl rfl⟩
      | cons _ _ => simp at hl

theorem itoa_acq (n : Int) (h0 : -9223372036854775808 ≤ n) (h1 : n ≤ 9223372036854775807) : ACQ gv Tryz.prog 86 [.int .i64 n] (fun r => r = .str (Lib.itoa n)) := by
  intro w N xs hG _ hl hp
  obtain ⟨x, rfl, hx⟩ := one_arg (P := Tryz.prog) hl hp
  cases hx
  refine (Tryz.strconv_Itoa n h0 h1 w hG.2).mono ?_
  rintro e w' ⟨rfl, k, os, rfl⟩
  exact ⟨_, _, rfl, rfl, .str _, Lib.below_grow _ w (Nat.le_refl _) k os⟩
theorem below_drewN (w : World) (k : Nat) : Below w.heap.size w (w.drewN k) := by
  have := Lib.below_grow w.heap.size w (Nat.le_refl _) k #[]
  simpa using this
theorem cut_acq (s sep : List UInt8) (hs : s.length < 4294967281) : ACQ gv Tryz.prog 114 [.str s, .str sep] (fun r => r = .tup [.str (Lib.cut s sep).1, .str (Lib.cut s sep).2.1, .bool (Lib.cut s sep).2.2]) := by
  intro w N xs hG _ hl hp
  obtain ⟨x, y, rfl, hx, hy⟩ := two_args hl hp
  cases hx; cases hy
  obtain ⟨m, hm⟩ := hG.1
  refine (Tryz.strings_Cut ⟨s.toArray⟩ ⟨sep.toArray⟩ m w (by rw [Lib.size_eq]; simpa using hs) hm).mono ?_
  rintro e w' ⟨rfl, k, rfl⟩
  refine ⟨_, _, rfl, rfl, .tup _ _ rfl ?_, below_drewN w k⟩
  intro i x c hx hc
  rcases i with _ | _ | _ | i
  · simp at hx hc; subst hx; subst hc; exact .str _
  · simp at hx hc; subst hx; subst hc; exact .str _
  · simp at hx hc; subst hx; subst hc; exact .bool _
  · simp at hx
theorem contS_acq (s sub : List UInt8) (hs : s.length < 4294967281) : ACQ gv Tryz.prog 37 [.str s, .str sub] (fun r => r = .bool (Lib.contains s sub)) := by
  intro w N xs hG _ hl hp
  obtain ⟨x, y, rfl, hx, hy⟩ := two_args hl hp
  cases hx; cases hy
  obtain ⟨m, hm⟩ := hG.1
  refine (Tryz.strings_Contains ⟨s.toArray⟩ ⟨sub.toArray⟩ m w (by rw [Lib.size_eq]; simpa using hs) hm).mono ?_
  rintro e w' ⟨rfl, rfl⟩
  exact ⟨_, _, rfl, rfl, by simpa using Pur.bool _, Below.refl _ _⟩
theorem indexByte_ac (s : List UInt8) (c : UInt8) : AC Tryz.prog 65 [.str s, .int .u8 c.toNat] (fun r => r = .int .i64 (Lib.indexByte s c)) := by
  intro w N xs _ hl hp
  obtain ⟨x, y, rfl, hx, hy⟩ := two_args hl hp
  cases hx; cases hy
  refine (Tryz.strings_IndexByte ⟨s.toArray⟩ c.toNat w).mono ?_
  rintro e w' ⟨rfl, rfl⟩
  refine ⟨_, _, rfl, rfl, ?_, Below.refl _ _⟩
  have : ((c.toNat : Int).toNat).toUInt8 = c := by simp
  rw [this]
  exact .int _ _
end Go.Proofs.YtliogkkhofhfcaaGreatDoor
