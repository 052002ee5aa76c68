import Derived.Test.YtmkbhognijicjaaDoorGC
/- Joins: the encoding of trees. No condition. -/
set_option linter.unusedSimpArgs false
set_option maxRecDepth 4000
namespace Go.Proofs.YtmkbhognijicjaaDoor
open Go.Eng


/-- The natural number that stands for an integer, as the code computes it. -/
def foldI (n : Int) : Int := bits .xor .u64 (IntKind.u64.wrap (IntKind.u64.wrap n * 2)) (IntKind.u64.wrap (n.fdiv (2 ^ 63)))
theorem bits_range (op : BinOp) (x y : Int) : 0 ≤ bits op .u64 x y ∧ bits op .u64 x y < 2 ^ 64 := by
  unfold bits
  simp only [IntKind.wrap_u64]
  omega
def foldN (n : Int) : Nat := (foldI n).toNat
theorem foldN_lt (n : Int) : foldN n < 2 ^ 64 := by have := bits_range .xor (IntKind.u64.wrap (IntKind.u64.wrap n * 2)) (IntKind.u64.wrap (n.fdiv (2 ^ 63))); unfold foldN foldI; omega
theorem fold1_ac (n : Int) : AC Tryd.prog 41 [.int .i64 n] (fun r => r = .int .u64 (foldN n)) := by
  have h0 : ((foldN n : Nat) : Int) = foldI n := by
    have := bits_range .xor (IntKind.u64.wrap (IntKind.u64.wrap n * 2)) (IntKind.u64.wrap (n.fdiv (2 ^ 63)))
    unfold foldN foldI
    omega
  rw [h0]
  refine ac_intro Tryd.func41 rfl (by show (1 : Nat) ≤ 10; omega) (fun w0 N0 => ?_)
  refine aw_step [0] [] (by simp [Tryd.ntmps41] <;> rfl) ?_   -- codec.go:40
  refine aw_step [2] [] (by simp <;> rfl) ?_   -- codec.go:41
  exact aw_ret (ends_ret (by simp [Tryd.results41] <;> rfl) rfl)

/-- The encoding of a tree. -/
def byN : Nd → List UInt8
  | .mk t k n s ks => vEnc t.toNat ++ UInt8.ofNat k.toNat :: (if k = 1 then vEnc (foldN n) else if k = 2 then vEnc s.length ++ s else vEnc ks.length ++ (ks.map byN).flatten)
/-- A tree that can be encoded, but for its size. -/
def Wf : Nd → Prop
  | .mk t k _ s ks => 0 ≤ t ∧ t ≤ 9999999 ∧ 1 ≤ k ∧ k ≤ 3 ∧ s.length ≤ 2000 ∧ ks.length ≤ 1024 ∧ ∀ x ∈ ks, Wf x
theorem flatten_take (l : List (List UInt8)) (k : Nat) (h : k < l.length) : (l.take (k + 1)).flatten = (l.take k).flatten ++ l[k] := by
  rw [List.take_succ_eq_append_getElem h, List.flatten_append]
  simp only [List.flatten_cons, List.flatten_nil, List.append_nil]
theorem flatten_take_le (l : List (List UInt8)) (k : Nat) : (l.take k).flatten.length ≤ l.flatten.length := by
  have : l.flatten = (l.take k).flatten ++ (l.drop k).flatten := by rw [← List.flatten_append, List.take_append_drop]
  rw [this]; simp

set_option maxHeartbeats 4000000 in
theorem appendNode_aca : ∀ (m : Nat) (x : Nd) (es : List UInt8), SizeOf.sizeOf x < m → Wf x → es.length + (byN x).length ≤ 2 ^ 39 → ACA Tryd.prog 30 [x.v] 1 5 (bys es) (bys (byN x)) := by
  intro m
  induction m with
  | zero => intro x es h; omega
  | succ m ih =>
  intro x es hm hwf hlen
  obtain ⟨t, kd, n, s, ks⟩ := x
  have ih' : ∀ y ∈ ks, ∀ es' : List UInt8, es'.length + (byN y).length ≤ 2 ^ 39 → ACA Tryd.prog 30 [y.v] 1 5 (bys es') (bys (byN y)) := fun y hy es' hl => ih y es' (by have := Nd.kid_lt (t := t) (k := kd) (n := n) (s := s) hy; omega) (by rw [Wf] at hwf; exact hwf.2.2.2.2.2.2 y hy) hl
  rw [Wf] at hwf
  obtain ⟨ht0, ht1, hk0, hk1, hs, hks, _⟩ := hwf
  rw [byN] at hlen ⊢
  simp only [List.length_append, List.length_cons] at hlen
  have hkl : (ks.map Nd.v).length = ks.length := by simp
  have hga := fun (k : Nat) (h : k < ks.length) => nthN h
  rw [Nd.v]
  generalize ks.map Nd.v = kv at hkl hga
  refine aca_intro Tryd.func30 rfl (by show (2 : Nat) ≤ 55; omega) (fun d v w0 N0 nx0 => ?_)
  obtain ⟨tn, htn⟩ : ∃ tn : Nat, t = tn := ⟨t.toNat, by omega⟩
  obtain ⟨kn, hkn⟩ : ∃ kn : Nat, kd = kn := ⟨kd.toNat, by omega⟩
  subst htn
  subst hkn
  simp only [Int.toNat_natCast] at hlen ⊢
  have hwt : IntKind.u64.wrap (tn : Int) = tn := u64_in (by omega)
  obtain ⟨bk, hbk, hob⟩ : ∃ bk : Int, IntKind.u8.wrap (kn : Int) = bk ∧ V.int .u8 bk = byV (UInt8.ofNat kn) := by
    refine ⟨_, rfl, ?_⟩
    rw [byV_of (by omega), IntKind.wrap_u8]
    congr 1
    omega
  have hc1 := appendVarint_aca es tn (by omega) (by omega)
  have hf1 : (bys es ++ bys (vEnc tn)).all flatE = true := by rw [List.all_append, bys_flat, bys_flat]; rfl
  generalize hv1 : vEnc tn = v1 at hc1 hf1 hlen
  have hb1 : es.length + v1.length + 1 ≤ maxLen := by simp [maxLen]; omega
  have hb2 : es.length + v1.length ≤ 140737488355327 := by omega
  refine awk_step (d + 1) [0, 3] [d, d + 1 + 3] (by simp [Tryd.ntmps30] <;> rfl) ?_   -- codec.go:118
  refine aw_seqE ⟨[(0, .sl d (nx0 + 2 + 9) 1 (bys (es ++ v1 ++ [UInt8.ofNat kn])).length), (3, .bp (d + 1 + 3) nx0 5 0 0)], [(d, ⟨nx0 + 2 + 9, 1, 5, bys (es ++ v1 ++ [UInt8.ofNat kn])⟩), (d + 1 + 3, ⟨nx0, 5, 39, [.agg [.int .i64 tn, .int .i64 kn, .int .i64 n, .str s, .ro 5 kv]]⟩)], nx0 + 2 + 11, 55⟩ (awk_drawX (d + 1) [4] hmix ?_) ?_
  · refine at_go [(0, []), (1, []), (5, []), (2, [15]), (3, [])] (by kernel_rfl) (by simp [hwt] <;> rfl) ?_
    refine at_fork [4, 6] (by kernel_rfl) (fun i hi => ?_)
    simp only [List.mem_cons, List.not_mem_nil, or_false] at hi
    rcases hi with rfl | rfl
    · refine ⟨_, _, rfl, sx_callA (d := d) (v := v) (by decide) hc1 hf1 Tryd.func42 rfl (by kernel_rfl) rfl rfl rfl (by simp <;> rfl) (by simp <;> rfl) (by simp <;> rfl), ?_⟩
      refine at_go [(6, [15]), (7, []), (8, []), (9, []), (10, [])] (by kernel_rfl) (by simp [hbk, hb1, hb2] <;> rfl) ?_
      exact at_end [0, 3] [d, d + 1 + 3] (by kernel_rfl) (by simp <;> rfl) (by simp [hob]; try omega)
    · refine ⟨_, _, rfl, sx_go (by simp <;> rfl), ?_⟩
      refine at_go [(7, [])] (by kernel_rfl) (by simp [hbk] <;> rfl) ?_
      refine at_fork [4, 8] (by kernel_rfl) (fun i hi => ?_)
      simp only [List.mem_cons, List.not_mem_nil, or_false] at hi
      rcases hi with rfl | rfl
      · refine ⟨_, _, rfl, sx_callA (d := d) (v := v) (by decide) hc1 hf1 Tryd.func42 rfl (by kernel_rfl) rfl rfl rfl (by simp <;> rfl) (by simp <;> rfl) (by simp <;> rfl), ?_⟩
        refine at_go [(8, []), (9, []), (10, [])] (by kernel_rfl) (by simp [hb1, hb2] <;> rfl) ?_
        exact at_end [0, 3] [d, d + 1 + 3] (by kernel_rfl) (by simp <;> rfl) (by simp [hob]; try omega)
      · refine ⟨_, _, rfl, sx_go (by simp <;> rfl), ?_⟩
        refine at_fork [4] (by kernel_rfl) (fun i hi => ?_)
        simp only [List.mem_cons, List.not_mem_nil, or_false] at hi
        subst hi
        refine ⟨_, _, rfl, sx_callA (d := d) (v := v) (by decide) hc1 hf1 Tryd.func42 rfl (by kernel_rfl) rfl rfl rfl (by simp <;> rfl) (by simp <;> rfl) (by simp <;> rfl), ?_⟩
        refine at_go [(9, []), (10, [])] (by kernel_rfl) (by simp [hb1, hb2] <;> rfl) ?_
        exact at_end [0, 3] [d, d + 1 + 3] (by kernel_rfl) (by simp <;> rfl) (by simp [hob]; try omega)
  obtain ⟨q1, hq1⟩ : ∃ q1, q1 = es ++ v1 ++ [UInt8.ofNat kn] := ⟨_, rfl⟩
  rw [← hq1]
  have hq1l : q1.length = es.length + v1.length + 1 := by rw [hq1]; simp; omega
  have hfin : ∀ rest, bys es ++ bys (v1 ++ UInt8.ofNat kn :: rest) = bys (q1 ++ rest) := by intro rest; simp [hq1]
  rw [hfin]
  refine aw_seq ?_
  refine awk_step (d + 1) [0, 3, 18] [d, d + 1 + 3] (by simp <;> rfl) ?_   -- codec.go:120
  refine aw_block ?_
  refine awk_step (d + 1) [0, 3, 18, 19] [d, d + 1 + 3] (by simp <;> rfl) ?_   -- codec.go:121
  refine aw_cond rfl (fun h1 => ?_) (fun h1 => ?_)   -- if t19
  · have hkn : ((kn : Nat) : Int) = 1 := by simp at h1; omega
    rw [if_pos hkn] at hlen ⊢
    have hc2 := fold1_ac n
    have hc3 := appendVarint_aca q1 (foldN n) (foldN_lt n) (by omega)
    have hf3 : (bys q1 ++ bys (vEnc (foldN n))).all flatE = true := by rw [List.all_append, bys_flat, bys_flat]; rfl
    generalize hv2 : vEnc (foldN n) = v2 at hc3 hf3
    refine aw_seq (aw_region ?_)   -- codec.go:122
    refine awlk_go (d + 1) 3 (by simp <;> rfl) ?_
    refine awl_call1 hc2 Tryd.func41 rfl (by kernel_rfl) rfl rfl rfl (by simp <;> rfl) (by simp) (by simp <;> rfl) ?_
    refine awl_callA (d := d) (v := nx0 + 2 + 9) hc3 hf3 Tryd.func42 rfl (by kernel_rfl) (by decide) rfl rfl rfl (by simp <;> rfl) (by simp <;> rfl) (by simp <;> rfl) ?_
    refine awlk_end (d + 1) [4] [d] (by simp <;> rfl) ?_
    refine aw_ret ?_
    refine endsA (v' := nx0 + 2 + 11 + 2 + 2 + 4) (by simp only; omega) ?_ ?_
    · simp [Tryd.results30]
    · simp
  · have hkn1 : ¬ ((kn : Nat) : Int) = 1 := by simp at h1; omega
    rw [if_neg hkn1] at hlen ⊢
    refine awk_step (d + 1) [0, 3, 26] [d, d + 1 + 3] (by simp <;> rfl) ?_   -- codec.go:123
    refine aw_cond rfl (fun h2 => ?_) (fun h2 => aw_skip ?_)   -- if t26
    · have hkn2 : ((kn : Nat) : Int) = 2 := by simp at h2; omega
      rw [if_pos hkn2] at hlen ⊢
      simp only [List.length_append] at hlen
      have hws : IntKind.u64.wrap (s.length : Int) = s.length := u64_in (by omega)
      have hc3 := appendVarint_aca q1 s.length (by omega) (by omega)
      have hf3 : (bys q1 ++ bys (vEnc s.length)).all flatE = true := by rw [List.all_append, bys_flat, bys_flat]; rfl
      generalize hv2 : vEnc s.length = v2 at hc3 hf3 hlen
      have hb3 : q1.length + v2.length + s.length ≤ maxLen := by simp [maxLen]; omega
      have hb4 : q1.length + v2.length + s.length ≤ 140737488355328 := by omega
      refine aw_seqE ⟨[(4, .sl d (nx0 + 2 + 11 + 2 + 2 + 2 + 8) 1 (bys (q1 ++ v2 ++ s)).length)], [(d, ⟨nx0 + 2 + 11 + 2 + 2 + 2 + 8, 1, 5, bys (q1 ++ v2 ++ s)⟩)], nx0 + 2 + 11 + 2 + 2 + 2 + 10, 55⟩ (awk_drawX (d + 1) [5] hmix ?_) ?_   -- codec.go:124
      · refine at_go [(0, []), (1, []), (6, []), (2, []), (3, []), (4, [])] (by kernel_rfl) (by simp [hws] <;> rfl) ?_
        refine at_fork [5, 7] (by kernel_rfl) (fun i hi => ?_)
        simp only [List.mem_cons, List.not_mem_nil, or_false] at hi
        rcases hi with rfl | rfl
        · refine ⟨_, _, rfl, sx_callA (d := d) (v := nx0 + 2 + 9) (by decide) hc3 hf3 Tryd.func42 rfl (by kernel_rfl) rfl rfl rfl (by simp <;> rfl) (by simp <;> rfl) (by simp <;> rfl), ?_⟩
          refine at_go [(7, []), (8, []), (9, [])] (by kernel_rfl) (by simp [hb3, hb4] <;> rfl) ?_
          exact at_end [4] [d] (by kernel_rfl) (by simp <;> rfl) (by simp; try omega)
        · refine ⟨_, _, rfl, sx_go (by simp <;> rfl), ?_⟩
          refine at_fork [5] (by kernel_rfl) (fun i hi => ?_)
          simp only [List.mem_cons, List.not_mem_nil, or_false] at hi
          subst hi
          refine ⟨_, _, rfl, sx_callA (d := d) (v := nx0 + 2 + 9) (by decide) hc3 hf3 Tryd.func42 rfl (by kernel_rfl) rfl rfl rfl (by simp <;> rfl) (by simp <;> rfl) (by simp <;> rfl), ?_⟩
          refine at_go [(8, []), (9, [])] (by kernel_rfl) (by simp [hb3, hb4] <;> rfl) ?_
          exact at_end [4] [d] (by kernel_rfl) (by simp <;> rfl) (by simp; try omega)
      refine aw_ret ?_
      rw [← List.append_assoc]
      exact endsA (v' := nx0 + 2 + 11 + 2 + 2 + 2 + 8) (by simp only; omega) (by simp [Tryd.results30]) (by simp)
    have hkn2 : ¬ ((kn : Nat) : Int) = 2 := by simp at h2; omega
    rw [if_neg hkn2] at hlen ⊢
    simp only [List.length_append] at hlen
    have hwk : IntKind.u64.wrap (kv.length : Int) = kv.length := u64_in (by omega)
    have hc3 := appendVarint_aca q1 ks.length (by omega) (by omega)
    have hf3 : (bys q1 ++ bys (vEnc ks.length)).all flatE = true := by rw [List.all_append, bys_flat, bys_flat]; rfl
    generalize hv2 : vEnc ks.length = v2 at hc3 hf3 hlen
    rw [← hkl] at hc3
    refine aw_seq (aw_region ?_)   -- codec.go:126
    refine awlk_go (d + 1) 5 (by simp [hwk] <;> rfl) ?_
    refine awl_callA (d := d) (v := nx0 + 2 + 9) hc3 hf3 Tryd.func42 rfl (by kernel_rfl) (by decide) rfl rfl rfl (by simp <;> rfl) (by simp <;> rfl) (by simp <;> rfl) ?_
    refine awlk_end (d + 1) [0, 3] [d, d + 1 + 3] (by simp <;> rfl) ?_
    refine aw_seq ?_
    refine awk_step (d + 1) [0, 44, 45, 46] [d] (by simp <;> rfl) ?_   -- codec.go:127
    refine aw_block ?_
    obtain ⟨cf, hcf⟩ : ∃ cf : Nat → List UInt8, ∀ k, cf k = ((ks.map byN).take k).flatten := ⟨_, fun _ => rfl⟩
    have hcf0 : cf 0 = [] := by rw [hcf]; rfl
    refine aw_loop (fun p : Nat × Nat × Nat => ⟨[(0, .sl d p.2.1 1 (bys (q1 ++ v2 ++ cf p.1)).length), (44, .ro 5 kv), (45, .int .i64 kv.length), (46, .int .i64 p.1)], [(d, ⟨p.2.1, 1, 5, bys (q1 ++ v2 ++ cf p.1)⟩)], p.2.2, 55⟩) (fun p => p.1 ≤ ks.length ∧ nx0 ≤ p.2.2) (fun p => ks.length - p.1) (0, nx0 + 2 + 11 + 2 + 2 + 2 + 5, nx0 + 2 + 11 + 2 + 2 + 2 + 7 + 4) ⟨Nat.zero_le _, by simp only; omega⟩ (by simp [hcf0]; exact AS.le_refl _) ?_
    rintro ⟨k, v', nx⟩ ⟨hk, hnx⟩
    simp only at hk hnx
    refine awk_step (d + 1) [0, 44, 45, 46, 47] [d] (by simp <;> rfl) ?_   -- codec.go:127
    refine aw_seq ?_
    refine aw_cond rfl (fun h3 => aw_skip ?_) (fun h3 => ?_)   -- if t47
    · have hlt : k < ks.length := by simp at h3; omega
      have hlt' : k < kv.length := by omega
      have ga := hga k hlt
      have hw := wrap_succ (k := k) (by omega)
      have hlt2 : k < (ks.map byN).length := by simpa using hlt
      have hfl := flatten_take (ks.map byN) k hlt2
      have hfle := flatten_take_le (ks.map byN) (k + 1)
      rw [hfl] at hfle
      rw [← hcf, ← hcf] at hfl
      rw [← hcf] at hfle
      simp only [List.getElem_map, List.length_append] at hfle hfl
      have hck := ih' ks[k] (List.getElem_mem hlt) (q1 ++ v2 ++ cf k) (by simp only [List.length_append]; omega)
      have hfk : (bys (q1 ++ v2 ++ cf k) ++ bys (byN ks[k])).all flatE = true := by rw [List.all_append, bys_flat, bys_flat]; rfl
      generalize hkb : byN ks[k] = kb at hck hfk hfl
      rcases hkk : ks[k] with ⟨kt, kk, kn', kss, kks⟩
      rw [hkk] at ga hck
      rw [Nd.v] at ga hck
      generalize kks.map Nd.v = kkv at ga hck
      generalize hcur : cf k = cur at hck hfk hfl
      refine aw_seq ?_
      refine aw_block ?_
      refine awk_step (d + 1) [0, 6, 44, 45, 46] [d, d + 1 + 6] (by simp [ga, hlt'] <;> rfl) ?_   -- codec.go:127
      refine aw_region ?_   -- codec.go:128
      refine awlk_go (d + 1) 2 (by simp <;> rfl) ?_
      refine awl_callA (d := d) (v := v') hck hfk Tryd.func30 rfl (by kernel_rfl) (by decide) rfl rfl rfl (by simp <;> rfl) (by simp <;> rfl) (by simp <;> rfl) ?_
      refine awlk_end (d + 1) [0, 44, 45, 46] [d] (by simp <;> rfl) ?_
      refine awk_one (d + 1) [0, 44, 45, 46] [d] (by simp [hw] <;> rfl) ?_   -- codec.go:127
      refine ⟨(k + 1, nx + 1 + 4 + 2, nx + 1 + 4 + 4 + 2), ⟨hlt, by simp only; omega⟩, by simp only; omega, ?_⟩
      simp only [hfl, List.map_append, List.append_assoc, List.length_append, List.length_map]
      exact AS.le_refl _
    · have hkl2 : k = ks.length := by simp at h3; omega
      have hall : cf k = (ks.map byN).flatten := by rw [hcf, List.take_of_length_le (by simp; omega)]
      rw [← hall]
      refine aw_exit ?_
      refine awk_step (d + 1) [4] [d] (by simp <;> rfl) ?_   -- codec.go:130
      refine aw_ret ?_
      rw [← List.append_assoc]
      exact endsA (v' := v') (by simp only; omega) (by simp [Tryd.results30]) (by simp)
end Go.Proofs.YtmkbhognijicjaaDoor

/- Resume: the tree of an event can be encoded; decoding gives the event back; the law ResumeRoundTrip. No condition. -/
set_option linter.unusedSimpArgs false
set_option maxRecDepth 4000
namespace Go.Proofs.YtmkbhognijicjaaDoor
open Go.Eng

def Nd.ss : Nd → List UInt8
  | .mk _ _ _ s _ => s
def c1 (x : Nd) : Int := 21 + x.ss.length + 21 * x.kids.length
theorem sumC_const (l : List Int) (c : Nd → Int) (h : ∀ n, c (num 0 n) = 21) : sumC c (chN l) = 21 * l.length := by
  induction l with
  | nil => simp [chN, sumC]
  | cons n l ih =>
    simp only [chN, List.map_cons, sumC, List.length_cons] at ih ⊢
    rw [h]
    push_cast
    omega
theorem numM_ac (t n lv r : Int) (ht : 0 ≤ t ∧ t ≤ 9999999) (hlv : 1 ≤ lv ∧ lv ≤ 8) (h1 : 21 ≤ r) (h2 : r ≤ 1048576) :
    AC Tryd.prog 29 [(num t n).v, .int .i64 lv, .int .i64 r] (fun q => ∃ k : Int, q = .tup [.int .i64 k, .bool true] ∧ 0 ≤ k ∧ k ≤ 21) := by
  have := measure_ac t 1 n [] [] lv r c1 ht hlv h2 (.inl ⟨rfl, rfl, rfl⟩) (by simp) (by simp) (by simpa [sumC] using h1)
  simpa [sumC, num] using this
theorem strM_ac (t : Int) (s : List UInt8) (lv r : Int) (ht : 0 ≤ t ∧ t ≤ 9999999) (hlv : 1 ≤ lv ∧ lv ≤ 8) (hs : s.length ≤ 2000) (h1 : 21 + s.length ≤ r) (h2 : r ≤ 1048576) :
    AC Tryd.prog 29 [(Nd.mk t 2 0 s []).v, .int .i64 lv, .int .i64 r] (fun q => ∃ k : Int, q = .tup [.int .i64 k, .bool true] ∧ 0 ≤ k ∧ k ≤ 21 + s.length) := by
  have := measure_ac t 2 0 s [] lv r c1 ht hlv h2 (.inr (.inl ⟨rfl, rfl, rfl, hs⟩)) (by simp) (by simp) (by simpa [sumC] using h1)
  simpa [sumC] using this
theorem chM_ac (t : Int) (l : List Int) (lv r : Int) (ht : 0 ≤ t ∧ t ≤ 9999999) (hlv : 1 ≤ lv ∧ lv ≤ 7) (hl : l.length ≤ 1024) (h1 : 21 + 21 * l.length ≤ r) (h2 : r ≤ 1048576) :
    AC Tryd.prog 29 [(Nd.mk t 3 0 [] (chN l)).v, .int .i64 lv, .int .i64 r] (fun q => ∃ k : Int, q = .tup [.int .i64 k, .bool true] ∧ 0 ≤ k ∧ k ≤ 21 + 21 * l.length) := by
  have hcc : ∀ n, c1 (num 0 n) = 21 := fun n => by simp [c1, num, Nd.ss, Nd.kids]
  have hsum := sumC_const l c1 hcc
  have hmem : ∀ x ∈ chN l, ∃ n, x = num 0 n := by
    intro x hx
    simp only [chN, List.mem_map] at hx
    obtain ⟨n, _, rfl⟩ := hx
    exact ⟨n, rfl⟩
  have := measure_ac t 3 0 [] (chN l) lv r c1 ht ⟨hlv.1, by omega⟩ h2 (.inr (.inr ⟨rfl, rfl, rfl, by simpa [chN] using hl⟩))
    (fun x hx => by obtain ⟨n, rfl⟩ := hmem x hx; rw [hcc]; omega)
    (fun x hx q hq hq2 => by
      obtain ⟨n, rfl⟩ := hmem x hx
      rw [hcc] at hq ⊢
      exact numM_ac 0 n (lv + 1) q (by omega) (by omega) hq hq2) (by rw [hsum]; simpa using h1)
  rw [hsum] at this
  simpa using this

theorem encK_mem {e : Ev} (h10 : e.ch.length ≤ 10) (ht : e.text.length ≤ 1000) : ∀ x ∈ encK e, 0 ≤ c1 x ∧ ∀ r, c1 x ≤ r → r ≤ 1048576 → AC Tryd.prog 29 [x.v, .int .i64 (1 + 1), .int .i64 r] (fun q => ∃ k : Int, q = .tup [.int .i64 k, .bool true] ∧ 0 ≤ k ∧ k ≤ c1 x) := by
  have hn : ∀ t n, 0 ≤ t → t ≤ 9999999 → 0 ≤ c1 (num t n) ∧ ∀ r, c1 (num t n) ≤ r → r ≤ 1048576 → AC Tryd.prog 29 [(num t n).v, .int .i64 (1 + 1), .int .i64 r] (fun q => ∃ k : Int, q = .tup [.int .i64 k, .bool true] ∧ 0 ≤ k ∧ k ≤ c1 (num t n)) := by
    intro t n h0 h1
    have hcc : c1 (num t n) = 21 := by simp [c1, num, Nd.ss, Nd.kids]
    rw [hcc]
    exact ⟨by omega, fun r a b => numM_ac t n (1 + 1) r ⟨h0, h1⟩ (by omega) a b⟩
  intro x hx
  unfold encK at hx
  rcases List.mem_append.1 hx with hx | hx
  · simp only [List.mem_cons, List.not_mem_nil, or_false] at hx
    rcases hx with rfl | rfl
    · exact hn _ _ (by omega) (by omega)
    · exact hn _ _ (by omega) (by omega)
  · split at hx
    · simp only [ansK, List.mem_cons, List.not_mem_nil, or_false] at hx
      rcases hx with rfl | rfl | rfl | rfl | rfl
      · exact hn _ _ (by omega) (by omega)
      · have hcc : c1 (.mk 4 3 0 [] (chN e.ch)) = 21 + 21 * e.ch.length := by simp [c1, Nd.ss, Nd.kids, chN]
        rw [hcc]
        exact ⟨by omega, fun r a b => chM_ac 4 e.ch (1 + 1) r (by omega) (by omega) (by omega) a b⟩
      · exact hn _ _ (by omega) (by omega)
      · have hcc : c1 (.mk 6 2 0 e.text []) = 21 + e.text.length := by simp [c1, Nd.ss, Nd.kids]
        rw [hcc]
        exact ⟨by omega, fun r a b => strM_ac 6 e.text (1 + 1) r (by omega) (by omega) (by omega) a b⟩
      · exact hn _ _ (by omega) (by omega)
    · split at hx
      · simp only [List.mem_cons, List.not_mem_nil, or_false] at hx
        rcases hx with rfl | rfl | rfl
        · exact hn _ _ (by omega) (by omega)
        · exact hn _ _ (by omega) (by omega)
        · exact hn _ _ (by omega) (by omega)
      · cases hx
theorem encK_sum {e : Ev} (h10 : e.ch.length ≤ 10) (ht : e.text.length ≤ 1000) : sumC c1 (encK e) ≤ 5000 ∧ (encK e).length ≤ 1024 := by
  unfold encK
  split
  · simp [ansK, sumC, c1, num, Nd.ss, Nd.kids, chN]; omega
  · split
    · simp [sumC, c1, num, Nd.ss, Nd.kids]
    · simp [sumC, c1, num, Nd.ss, Nd.kids]

theorem valid_ac (e : Ev) (hE : encE e = 0) : AC Tryd.prog 16 [(Nd.mk 50 3 0 [] (encK e)).v] (fun r => r = .bool true) := by
  obtain ⟨_, _, _, h4, h5⟩ := encE_zero hE
  have hm := encK_mem h4 h5
  have hs := encK_sum h4 h5
  have hc := measure_ac 50 3 0 [] (encK e) 1 1048576 c1 (by omega) (by omega) (by omega) (.inr (.inr ⟨rfl, rfl, rfl, hs.2⟩)) (fun x hx => (hm x hx).1) (fun x hx => (hm x hx).2) (by simp; omega)
  rw [Nd.v] at hc ⊢
  generalize (encK e).map Nd.v = kv at hc
  refine ac_intro Tryd.func16 rfl (by show (1 : Nat) ≤ 11; omega) (fun w0 N0 => ?_)
  refine aw_step [1] [1] (by simp [Tryd.ntmps16] <;> rfl) ?_   -- codec.go:87
  refine aw_seq (aw_region ?_)   -- codec.go:88
  refine awl_go 1 (by simp <;> rfl) ?_
  refine awl_call rfl rfl rfl Tryd.func29 rfl (by kernel_rfl) rfl (by simp) hc ?_
  rintro r ⟨k, rfl, _, _⟩
  refine ⟨_, rfl, ?_⟩
  refine awl_end [4] [] (by simp <;> rfl) ?_
  refine aw_step [2] [] (by simp <;> rfl) ?_   -- codec.go:89
  exact aw_ret (ends_ret (by simp [Tryd.results16] <;> rfl) rfl)

/-- The tree of an event is well formed. -/
theorem encK_wf {e : Ev} (h10 : e.ch.length ≤ 10) (ht : e.text.length ≤ 1000) : Wf (.mk 50 3 0 [] (encK e)) := by
  have hn : ∀ t n, 0 ≤ t → t ≤ 9999999 → Wf (num t n) := by
    intro t n h0 h1
    unfold num
    rw [Wf]
    simp [h0, h1]
  have hs := (encK_sum h10 ht).2
  rw [Wf]
  refine ⟨by omega, by omega, by omega, by omega, by simp, hs, fun x hx => ?_⟩
  unfold encK at hx
  rcases List.mem_append.1 hx with h | h
  · simp at h
    rcases h with rfl | rfl
    · exact hn _ _ (by omega) (by omega)
    · exact hn _ _ (by omega) (by omega)
  · split at h
    · unfold ansK at h
      simp at h
      rcases h with rfl | rfl | rfl | rfl | rfl
      · exact hn _ _ (by omega) (by omega)
      · rw [Wf]
        refine ⟨by omega, by omega, by omega, by omega, by simp, by simp [chN]; omega, fun x hx => ?_⟩
        simp only [chN, List.mem_map] at hx
        obtain ⟨n, _, rfl⟩ := hx
        exact hn _ _ (by omega) (by omega)
      · exact hn _ _ (by omega) (by omega)
      · rw [Wf]
        exact ⟨by omega, by omega, by omega, by omega, by omega, by simp, by simp⟩
      · exact hn _ _ (by omega) (by omega)
    · split at h
      · simp at h
        rcases h with rfl | rfl | rfl
        · exact hn _ _ (by omega) (by omega)
        · exact hn _ _ (by omega) (by omega)
        · exact hn _ _ (by omega) (by omega)
      · simp at h
/-- A bound on the length of an encoding. -/
theorem byN_len (x : Nd) (hx : Wf x) : (byN x).length ≤ 21 + x.ss.length + ((x.kids.map byN).flatten).length := by
  obtain ⟨t, k, n, s, ks⟩ := x
  rw [Wf] at hx
  rw [byN]
  have h1 := vEnc_len 3 t.toNat (by omega)
  have h2 := vEnc_len64 (foldN_lt n)
  have h3 := vEnc_len 3 s.length (by omega)
  have h4 := vEnc_len 3 ks.length (by omega)
  simp only [List.length_append, List.length_cons, Nd.ss, Nd.kids]
  split
  · omega
  · split
    · simp only [List.length_append]; omega
    · simp only [List.length_append]; omega
theorem flat_len {l : List Nd} {c : Nat} (h : ∀ x ∈ l, (byN x).length ≤ c) : ((l.map byN).flatten).length ≤ l.length * c := by
  induction l with
  | nil => simp
  | cons x l ih =>
    have h1 := h x (by simp)
    have h2 := ih (fun y hy => h y (by simp [hy]))
    simp only [List.map_cons, List.flatten_cons, List.length_append, List.length_cons, Nat.add_mul]
    omega
theorem enc_len {e : Ev} (h10 : e.ch.length ≤ 10) (ht : e.text.length ≤ 1000) : (byN (.mk 50 3 0 [] (encK e))).length ≤ 20000 := by
  have hw := encK_wf h10 ht
  have h1 := byN_len _ hw
  have hnum : ∀ t n, Wf (num t n) → (byN (num t n)).length ≤ 21 := by
    intro t n h
    have := byN_len _ h
    simpa [num, Nd.ss, Nd.kids] using this
  have h2 : ∀ x ∈ encK e, (byN x).length ≤ 1300 := by
    intro x hx
    have hwx : Wf x := by rw [Wf] at hw; exact hw.2.2.2.2.2.2 x hx
    have hb := byN_len x hwx
    have hkids : ((x.kids.map byN).flatten).length ≤ 210 ∧ x.ss.length ≤ 1000 := by
      unfold encK at hx
      rcases List.mem_append.1 hx with h | h
      · simp at h
        rcases h with rfl | rfl <;> simp [num, Nd.kids, Nd.ss]
      · split at h
        · unfold ansK at h
          simp at h
          rcases h with rfl | rfl | rfl | rfl | rfl
          · simp [num, Nd.kids, Nd.ss]
          · refine ⟨?_, by simp [Nd.ss]⟩
            have := flat_len (l := chN e.ch) (c := 21) (fun y hy => by
              have hwy : Wf y := by rw [Wf] at hwx; exact hwx.2.2.2.2.2.2 y hy
              simp only [chN, List.mem_map] at hy
              obtain ⟨n, _, rfl⟩ := hy
              exact hnum _ _ hwy)
            have hcl : (chN e.ch).length = e.ch.length := by simp [chN]
            simp only [Nd.kids]
            omega
          · simp [num, Nd.kids, Nd.ss]
          · exact ⟨by simp [Nd.kids], by simpa [Nd.ss] using ht⟩
          · simp [num, Nd.kids, Nd.ss]
        · split at h
          · simp at h
            rcases h with rfl | rfl | rfl <;> simp [num, Nd.kids, Nd.ss]
          · simp at h
    omega
  have h3 := flat_len h2
  have h4 : (encK e).length ≤ 7 := by
    unfold encK
    split
    · simp [ansK]
    · split <;> simp
  simp only [Nd.ss, Nd.kids, List.length_nil] at h1
  omega

set_option maxHeartbeats 1000000 in
theorem cEncode_ac (e : Ev) (hE : encE e = 0) : AC Tryd.prog 17 [(Nd.mk 50 3 0 [] (encK e)).v] (fun r => r = .tup [.ro 1 (bys (byN (.mk 50 3 0 [] (encK e)))), .int .i64 0]) := by
  obtain ⟨_, _, _, h4, h5⟩ := encE_zero hE
  have hm := encK_mem h4 h5
  have hs := encK_sum h4 h5
  have hw := encK_wf h4 h5
  have hln := enc_len h4 h5
  have hc := measure_ac 50 3 0 [] (encK e) 1 1048576 c1 (by omega) (by omega) (by omega) (.inr (.inr ⟨rfl, rfl, rfl, hs.2⟩)) (fun x hx => (hm x hx).1) (fun x hx => (hm x hx).2) (by simp; omega)
  have hc2 := appendNode_aca _ (.mk 50 3 0 [] (encK e)) [] (Nat.lt_succ_self _) hw (by simp; omega)
  generalize byN (.mk 50 3 0 [] (encK e)) = bs at hc2 hln
  rw [Nd.v] at hc hc2 ⊢
  generalize (encK e).map Nd.v = kv at hc hc2
  have hp := bys_pure bs
  have hf : (bys [] ++ bys bs).all flatE = true := by rw [List.all_append, bys_flat, bys_flat]; rfl
  refine ac_intro Tryd.func17 rfl (by show (1 : Nat) ≤ 17; omega) (fun w0 N0 => ?_)
  refine aw_step [1] [1] (by simp [Tryd.ntmps17] <;> rfl) ?_
  refine aw_seq (aw_region ?_)
  refine awl_go 1 (by simp <;> rfl) ?_
  refine awl_call rfl rfl rfl Tryd.func29 rfl (by kernel_rfl) rfl (by simp) hc ?_
  rintro r ⟨k, rfl, hk0, hk1⟩
  refine ⟨_, rfl, ?_⟩
  refine awl_end [1, 4, 5] [1] (by simp <;> rfl) ?_
  refine aw_seq ?_
  refine aw_step [1, 4, 12] [1] (by simp <;> rfl) ?_
  refine aw_cond rfl (fun h1 => by simp at h1) (fun h1 => aw_skip ?_)
  have hkb : k ≤ 1048576 := by simp at hk1; omega
  have hk2 : 0 ≤ k ∧ k ≤ 9223372036854775807 ∧ k ≤ 281474976710656 := by omega
  refine aw_seq (aw_drawX [3] hmix ?_)
  refine at_go [(0, []), (2, [14]), (1, [])] (by kernel_rfl) (by simp [hk2] <;> rfl) ?_
  refine at_fork [3] (by kernel_rfl) (fun i hi => ?_)
  simp only [List.mem_cons, List.not_mem_nil, or_false] at hi
  subst hi
  refine ⟨_, _, rfl, sx_callA (d := 14) (by decide) hc2 hf Tryd.func30 rfl (by kernel_rfl) rfl rfl rfl (by simp <;> rfl) (by simp <;> rfl) (by simp <;> rfl), ?_⟩
  refine at_go [(4, []), (5, [])] (by kernel_rfl) (by simp <;> rfl) ?_
  refine at_end [2, 3] [14] (by kernel_rfl) (by simp <;> rfl) ?_
  exact aw_ret (ends_ret (by simp [Tryd.results17, hp] <;> rfl) rfl)
end Go.Proofs.YtmkbhognijicjaaDoor

/- Joins: the reader of encodings: fail, take, varint, count. No condition. -/
set_option linter.unusedSimpArgs false
set_option maxRecDepth 4000
namespace Go.Proofs.YtmkbhognijicjaaDoor
open Go.Eng

/-- The panic with an error. -/
def pan (er : Int) : List PanicEntry := [{ v := .iface 90 (.int .i64 er), recovered := false }]
theorem fail_acs (er : Int) : ACS Tryd.prog 49 [.int .i64 er] [] (fun _ _ => False) (fun ch => ch = pan er) := by
  refine acs_intro Tryd.func49 rfl (by show (1 : Nat) ≤ 4; omega) (fun w0 N0 nx => ?_)
  refine aw_region ?_
  refine awl_go 2 (by simp [Tryd.ntmps49] <;> rfl) ?_
  exact awl_panic rfl rfl (by simp <;> rfl) rfl rfl

/-- A reader. -/
def rd (bs : List UInt8) (at_ : Nat) (e : Int) : V := .agg [.ro 1 (bys bs), .int .i64 at_, .int .i64 e]

set_option maxHeartbeats 1000000 in
theorem take_ok (d v : Nat) (bs : List UInt8) (at_ n : Nat) (e : Int) (h : at_ + n ≤ bs.length) (hb : bs.length ≤ 1048576) :
    ACS Tryd.prog 51 [.bp d v 3 0 0, .int .i64 n] [(d, ⟨v, 3, 93, [rd bs at_ e]⟩)] (fun r q => r = .ro 1 (bys ((bs.drop at_).take n)) ∧ q = [(d, ⟨v, 3, 93, [rd bs (at_ + n) e]⟩)]) (fun _ => False) := by
  have hl := bysL bs
  have hdt : bys ((bs.drop at_).take n) = ((bys bs).drop at_).take n := by simp
  rw [hdt]
  unfold rd
  generalize bys bs = bv at hl
  obtain ⟨s1, hs1, hs1'⟩ : ∃ s : Int, IntKind.i64.wrap ((bv.length : Int) - at_) = s ∧ s = (bv.length : Int) - at_ := ⟨_, rfl, wrap_in (by omega) (by omega)⟩
  obtain ⟨s2, hs2, hs2'⟩ : ∃ s : Int, IntKind.i64.wrap ((at_ : Int) + n) = s ∧ s = ((at_ + n : Nat) : Int) := ⟨_, rfl, by rw [wrap_in (by omega) (by omega)]; omega⟩
  obtain ⟨s3, hs3, hs3'⟩ : ∃ s : Int, IntKind.i64.wrap (s2 - n) = s ∧ s = (at_ : Int) := ⟨_, rfl, by rw [wrap_in (by omega) (by omega)]; omega⟩
  have hb3 : 0 ≤ s3 ∧ s3 ≤ s2 ∧ s2 ≤ bv.length := by omega
  have ht3 : s3.toNat = at_ := by omega
  have ht2 : s2.toNat - at_ = n := by omega
  refine acs_intro Tryd.func51 rfl (by show (2 : Nat) ≤ 45; omega) (fun w0 N0 nx => ?_)
  refine aw_step [0, 1] [d] (by simp [Tryd.ntmps51] <;> rfl) ?_
  refine aw_seq ?_
  refine aw_dstep [(0, []), (1, []), (2, []), (3, []), (6, []), (7, []), (8, []), (4, []), (5, []), (9, []), (10, []), (11, [])] [0, 1, 16] [d] hmix (by kernel_rfl) (by simp [hs1] <;> rfl) ?_
  refine aw_cond rfl (fun h1 => by simp at h1; omega) (fun h1 => aw_skip ?_)
  refine aw_step [0, 1] [d] (by simp [hs2] <;> rfl) ?_
  refine aw_dstep [(0, []), (1, []), (2, []), (4, []), (5, []), (6, []), (8, []), (10, []), (11, []), (12, []), (3, []), (7, []), (9, []), (13, []), (14, []), (15, [])] [4] [d] hmix (by kernel_rfl) (by simp [hs3, hb3] <;> rfl) ?_
  refine aw_ret (endsS (by simp only; omega) ?_ (fun k o hk => get_one ?_ hk))
  · simp [Tryd.results51, ht3, ht2]
  · simp [hs2']
theorem take_err (d v : Nat) (bs : List UInt8) (at_ n : Nat) (e : Int) (h : bs.length < at_ + n) (hat : at_ ≤ bs.length) (hn : n ≤ 1048576) (hb : bs.length ≤ 1048576) :
    ACS Tryd.prog 51 [.bp d v 3 0 0, .int .i64 n] [(d, ⟨v, 3, 93, [rd bs at_ e]⟩)] (fun _ _ => False) (fun ch => ch = pan e) := by
  have hl := bysL bs
  unfold rd
  generalize bys bs = bv at hl
  obtain ⟨s1, hs1, hs1'⟩ : ∃ s : Int, IntKind.i64.wrap ((bv.length : Int) - at_) = s ∧ s = (bv.length : Int) - at_ := ⟨_, rfl, wrap_in (by omega) (by omega)⟩
  refine acs_intro Tryd.func51 rfl (by show (2 : Nat) ≤ 45; omega) (fun w0 N0 nx => ?_)
  refine aw_step [0, 1] [d] (by simp [Tryd.ntmps51] <;> rfl) ?_
  refine aw_seq ?_
  refine aw_dstep [(0, []), (1, []), (2, []), (3, []), (6, []), (7, []), (8, []), (4, []), (5, []), (9, []), (10, []), (11, [])] [0, 1, 16] [d] hmix (by kernel_rfl) (by simp [hs1] <;> rfl) ?_
  refine aw_cond rfl (fun h1 => ?_) (fun h1 => by simp at h1; omega)
  refine aw_region ?_
  refine awl_go 4 (by simp <;> rfl) ?_
  exact awl_panS (fail_acs e) Tryd.func49 rfl (by kernel_rfl) rfl rfl rfl (by simp <;> rfl) (fun k q hk => by simp [Eng.get] at hk) (fun ch hch => hch)

/-- A varint. -/
def rdV (bs : List UInt8) (e : Int) : Nat → Nat → Nat → Nat → Except Int (Nat × Nat)
  | 0, _, _, _ => .error 2
  | k + 1, i, x, at_ => match bs[at_]? with
    | none => .error e
    | some c => if (i = 9 ∧ 1 < c.toNat) ∨ (0 < i ∧ c.toNat = 0) then .error 2 else
      if c.toNat < 128 then .ok (x + c.toNat * 128 ^ i, at_ + 1) else rdV bs e k (i + 1) (x + c.toNat % 128 * 128 ^ i) (at_ + 1)

theorem or_shl (x y i : Nat) (hx : x < 128 ^ i) (hi : i ≤ 9) (hy : y < 128) (h9 : i = 9 → y ≤ 1) :
    bits .or .u64 (x : Int) (IntKind.u64.wrap ((y : Int) * 2 ^ min (7 * (i : Int)).toNat IntKind.u64.bits)) = ((x + y * 128 ^ i : Nat) : Int) ∧ x + y * 128 ^ i < 128 ^ (i + 1) ∧ x + y * 128 ^ i < 2 ^ 64 := by
  have e1 : (7 * (i : Int)).toNat = 7 * i := by omega
  have e2 : min (7 * i) 64 = 7 * i := by omega
  have e3 : (2 : Nat) ^ (7 * i) = 128 ^ i := by rw [Nat.pow_mul]
  have e4 : (2 : Int) ^ (7 * i) = ((128 ^ i : Nat) : Int) := by rw [← e3]; simp
  have hpow : 128 ^ i ≤ 2 ^ 63 := by rw [← e3]; exact Nat.pow_le_pow_right (by omega) (by omega)
  have hlt : x + y * 128 ^ i < 128 ^ (i + 1) := by
    rw [Nat.pow_succ]
    have : y * 128 ^ i ≤ 127 * 128 ^ i := Nat.mul_le_mul_right _ (by omega)
    omega
  have hlt2 : x + y * 128 ^ i < 2 ^ 64 := by
    by_cases h : i = 9
    · subst h
      have := h9 rfl
      have h1 : y * 128 ^ 9 ≤ 1 * 128 ^ 9 := Nat.mul_le_mul_right _ this
      omega
    · have : 128 ^ (i + 1) ≤ 128 ^ 9 := Nat.pow_le_pow_right (by omega) (by omega)
      omega
  refine ⟨?_, hlt, hlt2⟩
  have hw : IntKind.u64.wrap ((y : Int) * 2 ^ min (7 * (i : Int)).toNat IntKind.u64.bits) = ((y * 128 ^ i : Nat) : Int) := by
    rw [e1]
    show IntKind.u64.wrap ((y : Int) * 2 ^ min (7 * i) 64) = _
    rw [e2, e4]
    have := u64_in (n := y * 128 ^ i) (by omega)
    rw [← this]
    congr 1
  rw [hw, (bits_nat x (y * 128 ^ i) ⟨by omega, by omega⟩).1]
  congr 1
  rw [Nat.or_comm, Nat.mul_comm y, ← e3, ← Nat.two_pow_add_eq_or_of_lt (by rw [e3]; exact hx)]
  omega

theorem and127 (c : Nat) (h : c < 256) : bits .and .u8 (c : Int) 127 = ((c % 128 : Nat) : Int) := by
  have := (bits_nat8 c 127 ⟨h, by decide⟩).2
  rw [show (127 : Int) = ((127 : Nat) : Int) from rfl, this]
  congr 1
  exact Nat.and_two_pow_sub_one_eq_mod c 7

set_option maxHeartbeats 4000000 in
theorem varint_acs (d v : Nat) (bs : List UInt8) (at0 : Nat) (e : Int) (hat0 : at0 ≤ bs.length) (hb : bs.length ≤ 1048576) :
    ACS Tryd.prog 50 [.bp d v 3 0 0] [(d, ⟨v, 3, 93, [rd bs at0 e]⟩)] (fun r q => ∃ x a, rdV bs e 10 0 0 at0 = .ok (x, a) ∧ r = .int .u64 x ∧ q = [(d, ⟨v, 3, 93, [rd bs a e]⟩)] ∧ a ≤ bs.length ∧ x < 2 ^ 64) (fun ch => ∃ er, rdV bs e 10 0 0 at0 = .error er ∧ ch = pan er) := by
  refine acs_intro Tryd.func50 rfl (by show (1 : Nat) ≤ 38; omega) (fun w0 N0 nx0 => ?_)
  refine aw_step [0] [d] (by simp [Tryd.ntmps50] <;> rfl) ?_
  refine aw_step [0, 3] [d] (by simp <;> rfl) ?_
  refine aw_step [0, 3, 4] [d] (by simp <;> rfl) ?_
  refine aw_block ?_
  refine aw_loop (fun p : Nat × Nat × Nat × Nat => ⟨[(0, .bp d v 3 0 0), (3, .int .u64 p.2.1), (4, .int .i64 p.1)], [(d, ⟨v, 3, 93, [rd bs p.2.2.1 e]⟩)], p.2.2.2, 38⟩) (fun p => p.1 ≤ 9 ∧ p.2.1 < 128 ^ p.1 ∧ p.2.2.1 ≤ bs.length ∧ nx0 ≤ p.2.2.2 ∧ rdV bs e (10 - p.1) p.1 p.2.1 p.2.2.1 = rdV bs e 10 0 0 at0) (fun p => 10 - p.1) (0, 0, at0, nx0 + 1 + 1 + 1) ⟨by simp, by simp, hat0, by simp only; omega, rfl⟩ (AS.le_refl _) ?_
  rintro ⟨i, x, at_, nx⟩ ⟨hi, hx, hat, hnx, hR⟩
  simp only at hi hx hat hnx hR
  obtain ⟨m, hm⟩ : ∃ m, 10 - i = m + 1 := ⟨9 - i, by omega⟩
  rw [hm, rdV] at hR
  refine aw_seq ?_
  refine aw_block ?_
  refine aw_seq (aw_region ?_)
  refine awl_go 1 (by simp <;> rfl) ?_
  by_cases hlt : at_ < bs.length
  · have hgc : bs[at_]? = some bs[at_] := List.getElem?_eq_getElem hlt
    rw [hgc] at hR
    simp only at hR
    have hone : (bs.drop at_).take 1 = [bs[at_]] := by rw [List.drop_eq_getElem_cons hlt]; rfl
    have htk := take_ok d v bs at_ 1 e (by omega) hb
    rw [hone] at htk
    generalize bs[at_] = c at hR htk
    have hcl : c.toNat < 256 := c.toNat_lt
    refine awl_callS1 htk Tryd.func51 rfl (by kernel_rfl) (by simp [rd, Eng.get]) rfl (by decide) rfl rfl rfl (by simp <;> rfl) (fun k o hk => get_one (by simp [Eng.get]) hk) (by simp <;> rfl) ?_
    refine awl_end [0, 3, 4, 5] [d] (by simp [byV] <;> rfl) ?_
    refine aw_seq ?_
    refine aw_step [0, 3, 4, 5, 25] [d] (by simp <;> rfl) ?_
    refine aw_cond rfl (fun h1 => ?_) (fun h1 => aw_skip ?_)
    · have hbad : (i = 9 ∧ 1 < c.toNat) ∨ (0 < i ∧ c.toNat = 0) := by
        simp only [Bool.or_eq_true, Bool.and_eq_true, decide_eq_true_eq] at h1
        omega
      rw [if_pos hbad] at hR
      refine aw_region ?_
      refine awl_panS (fail_acs 2) Tryd.func49 rfl (by kernel_rfl) rfl rfl rfl (by simp <;> rfl) (fun k o hk => by simp [Eng.get] at hk) (fun ch hch => ?_)
      exact ⟨2, hR.symm, hch⟩
    · have hgood : ¬ ((i = 9 ∧ 1 < c.toNat) ∨ (0 < i ∧ c.toNat = 0)) := by
        simp only [Bool.or_eq_false_iff, Bool.and_eq_false_iff, decide_eq_false_iff_not] at h1
        omega
      rw [if_neg hgood] at hR
      have hand := and127 c.toNat hcl
      have hw8 : IntKind.u64.wrap ((c.toNat % 128 : Nat) : Int) = ((c.toNat % 128 : Nat) : Int) := u64_in (by omega)
      obtain ⟨ho1, ho2, ho3⟩ := or_shl x (c.toNat % 128) i hx hi (by omega) (fun h9 => by omega)
      obtain ⟨av, hav⟩ : ∃ av : Int, bits .and .u8 (c.toNat : Int) 127 = av := ⟨_, rfl⟩
      rw [hav] at hand
      rw [← hand] at hw8 ho1
      obtain ⟨si, hsi, hsi'⟩ : ∃ si : Int, IntKind.i64.wrap (7 * (i : Int)) = si ∧ si = 7 * (i : Int) := ⟨_, rfl, wrap_in (by omega) (by omega)⟩
      rw [← hsi'] at ho1
      have hsn : ¬ si < 0 := by omega
      obtain ⟨ov, hov⟩ : ∃ ov : Int, bits .or .u64 (x : Int) (IntKind.u64.wrap (av * 2 ^ min si.toNat IntKind.u64.bits)) = ov := ⟨_, rfl⟩
      rw [hov] at ho1
      have hwi := wrap_succ (k := i) (by omega)
      refine aw_step [0, 3, 4, 5] [d] (by simp [hav, hw8, hsi, hsn, hov] <;> rfl) ?_
      refine aw_step [0, 3, 4, 36] [d] (by simp <;> rfl) ?_
      refine aw_cond rfl (fun h2 => ?_) (fun h2 => aw_skip ?_)
      · have hc128 : c.toNat < 128 := by simp at h2; omega
        rw [if_pos hc128] at hR
        rw [Nat.mod_eq_of_lt hc128] at ho1 ho3
        refine aw_step [2] [d] (by simp <;> rfl) ?_
        refine aw_ret ⟨by simp only; omega, .int .u64 ov, [(d, ⟨v, 3, 93, [rd bs (at_ + 1) e]⟩)], by simp [Tryd.results50], fun k o hk => get_one (by simp [Eng.get]) hk, _, _, hR.symm, by rw [ho1], rfl, by omega, ho3⟩
      · have hc128 : ¬ c.toNat < 128 := by simp at h2; omega
        rw [if_neg hc128] at hR
        have hi8 : i ≠ 9 := fun h9 => by omega
        refine aw_one [0, 3, 4] [d] (by simp [hwi] <;> rfl) ?_
        refine ⟨(i + 1, x + c.toNat % 128 * 128 ^ i, at_ + 1, nx + 33), ⟨by simp only; omega, ho2, by simp only; omega, by simp only; omega, ?_⟩, by simp only; omega, ?_⟩
        · simp only
          rw [show 10 - (i + 1) = m by omega]
          exact hR
        · have hc1 : ((i + 1 : Nat) : Int) = (i : Int) + 1 := by omega
          simp only [ho1, hc1]
          exact AS.le_refl _
  · have hnone : bs[at_]? = none := List.getElem?_eq_none (by omega)
    rw [hnone] at hR
    have htk := take_err d v bs at_ 1 e (by omega) hat (by omega) hb
    refine awl_panS htk Tryd.func51 rfl (by kernel_rfl) rfl rfl rfl (by simp <;> rfl) (fun k o hk => get_one (by simp [Eng.get]) hk) (fun ch hch => ?_)
    exact ⟨e, hR.symm, hch⟩
theorem varint_ok (d v : Nat) (bs : List UInt8) (at0 x a : Nat) (e : Int) (hat0 : at0 ≤ bs.length) (hb : bs.length ≤ 1048576) (h : rdV bs e 10 0 0 at0 = .ok (x, a)) :
    ACS Tryd.prog 50 [.bp d v 3 0 0] [(d, ⟨v, 3, 93, [rd bs at0 e]⟩)] (fun r q => r = .int .u64 x ∧ q = [(d, ⟨v, 3, 93, [rd bs a e]⟩)]) (fun _ => False) :=
  (varint_acs d v bs at0 e hat0 hb).mono (fun r q ⟨x', a', h1, h2, h3, _, _⟩ => by rw [h] at h1; injection h1 with h1; injection h1 with h4 h5; subst h4; subst h5; exact ⟨h2, h3⟩) (fun ch ⟨er, h1, _⟩ => by rw [h] at h1; cases h1)
theorem varint_err (d v : Nat) (bs : List UInt8) (at0 : Nat) (e er : Int) (hat0 : at0 ≤ bs.length) (hb : bs.length ≤ 1048576) (h : rdV bs e 10 0 0 at0 = .error er) :
    ACS Tryd.prog 50 [.bp d v 3 0 0] [(d, ⟨v, 3, 93, [rd bs at0 e]⟩)] (fun _ _ => False) (fun ch => ch = pan er) :=
  (varint_acs d v bs at0 e hat0 hb).mono (fun r q ⟨x', a', h1, _⟩ => by rw [h] at h1; cases h1) (fun ch ⟨er', h1, h2⟩ => by rw [h] at h1; injection h1 with h1; subst h1; exact h2)
theorem rdV_bound {bs : List UInt8} {e : Int} : ∀ {k i x at_ y a : Nat}, i + k = 10 → x < 128 ^ i → at_ ≤ bs.length → rdV bs e k i x at_ = .ok (y, a) → y < 2 ^ 64 ∧ a ≤ bs.length ∧ at_ < a
  | 0, i, x, at_, y, a, _, _, _, h => by simp [rdV] at h
  | k + 1, i, x, at_, y, a, hk, hx, hat, h => by
    rw [rdV] at h
    split at h
    · cases h
    · rename_i c hc
      have hlt : at_ < bs.length := (List.getElem?_eq_some_iff.1 hc).1
      split at h
      · cases h
      · rename_i hg
        have hcl : c.toNat < 256 := c.toNat_lt
        obtain ⟨_, h2, h3⟩ := or_shl x (c.toNat % 128) i hx (by omega) (by omega) (fun h9 => by omega)
        split at h
        · rename_i hc8
          rw [Nat.mod_eq_of_lt hc8] at h3
          injection h with h
          injection h with h4 h5
          subst h4; subst h5
          exact ⟨h3, by omega, by omega⟩
        · obtain ⟨h4, h5, h6⟩ := rdV_bound (by omega) h2 (by omega) h
          exact ⟨h4, h5, by omega⟩

/-- A number of bytes or children. -/
def rdC (bs : List UInt8) (e : Int) (most at_ : Nat) : Except Int (Nat × Nat) :=
  match rdV bs e 10 0 0 at_ with
  | .error er => .error er
  | .ok (x, a) => if most < x then .error 5 else .ok (x, a)
theorem count_ok (d v : Nat) (bs : List UInt8) (at0 x a most : Nat) (e : Int) (hat0 : at0 ≤ bs.length) (hb : bs.length ≤ 1048576) (hm : most ≤ 2000) (h : rdC bs e most at0 = .ok (x, a)) :
    ACS Tryd.prog 53 [.bp d v 3 0 0, .int .i64 most] [(d, ⟨v, 3, 93, [rd bs at0 e]⟩)] (fun r q => r = .int .i64 x ∧ q = [(d, ⟨v, 3, 93, [rd bs a e]⟩)]) (fun _ => False) := by
  unfold rdC at h
  split at h
  · cases h
  rename_i y a' hv
  split at h
  · cases h
  rename_i hle
  injection h with h
  injection h with h1 h2
  subst h1; subst h2
  have hc := varint_ok d v bs at0 y a' e hat0 hb hv
  have hw1 : IntKind.u64.wrap (most : Int) = most := u64_in (by omega)
  have hw2 : IntKind.i64.wrap (y : Int) = y := wrap_in (by omega) (by omega)
  have hle2 : ¬ ((most : Int) < y) := by omega
  refine acs_intro Tryd.func53 rfl (by show (2 : Nat) ≤ 15; omega) (fun w0 N0 nx => ?_)
  refine aw_step [0, 1] [d] (by simp [Tryd.ntmps53] <;> rfl) ?_
  refine aw_seq (aw_region ?_)
  refine awl_go 1 (by simp <;> rfl) ?_
  refine awl_callS1 hc Tryd.func50 rfl (by kernel_rfl) (by simp [rd, Eng.get]) rfl (by decide) rfl rfl rfl (by simp <;> rfl) (fun k o hk => get_one (by simp [Eng.get]) hk) (by simp <;> rfl) ?_
  refine awl_end [1, 5] [d] (by simp <;> rfl) ?_
  refine aw_seq ?_
  refine aw_step [5, 11] [d] (by simp [hw1] <;> rfl) ?_
  refine aw_cond rfl (fun h1 => by simp at h1; omega) (fun h1 => aw_skip ?_)
  refine aw_step [4] [d] (by simp [hw2] <;> rfl) ?_
  refine aw_ret (endsS (by simp only; omega) ?_ (fun k o hk => get_one ?_ hk))
  · simp [Tryd.results53]
  · simp
theorem count_err (d v : Nat) (bs : List UInt8) (at0 most : Nat) (e er : Int) (hat0 : at0 ≤ bs.length) (hb : bs.length ≤ 1048576) (hm : most ≤ 2000) (h : rdC bs e most at0 = .error er) :
    ACS Tryd.prog 53 [.bp d v 3 0 0, .int .i64 most] [(d, ⟨v, 3, 93, [rd bs at0 e]⟩)] (fun _ _ => False) (fun ch => ch = pan er) := by
  unfold rdC at h
  have hw1 : IntKind.u64.wrap (most : Int) = most := u64_in (by omega)
  refine acs_intro Tryd.func53 rfl (by show (2 : Nat) ≤ 15; omega) (fun w0 N0 nx => ?_)
  refine aw_step [0, 1] [d] (by simp [Tryd.ntmps53] <;> rfl) ?_
  refine aw_seq (aw_region ?_)
  refine awl_go 1 (by simp <;> rfl) ?_
  split at h
  · rename_i er' hv
    injection h with h
    subst h
    exact awl_panS (varint_err d v bs at0 e _ hat0 hb hv) Tryd.func50 rfl (by kernel_rfl) rfl rfl rfl (by simp <;> rfl) (fun k o hk => get_one (by simp [Eng.get]) hk) (fun ch hch => hch)
  · rename_i y a hv
    split at h
    case isFalse => cases h
    rename_i hlt
    injection h with h
    subst h
    have hc := varint_ok d v bs at0 y a e hat0 hb hv
    refine awl_callS1 hc Tryd.func50 rfl (by kernel_rfl) (by simp [rd, Eng.get]) rfl (by decide) rfl rfl rfl (by simp <;> rfl) (fun k o hk => get_one (by simp [Eng.get]) hk) (by simp <;> rfl) ?_
    refine awl_end [1, 5] [d] (by simp <;> rfl) ?_
    refine aw_seq ?_
    refine aw_step [5, 11] [d] (by simp [hw1] <;> rfl) ?_
    refine aw_cond rfl (fun h1 => ?_) (fun h1 => by simp at h1; omega)
    refine aw_region ?_
    exact awl_panS (fail_acs 5) Tryd.func49 rfl (by kernel_rfl) rfl rfl rfl (by simp <;> rfl) (fun k o hk => by simp [Eng.get] at hk) (fun ch hch => hch)
end Go.Proofs.YtmkbhognijicjaaDoor

/- Joins: the reader of trees. No condition. -/
set_option linter.unusedSimpArgs false
set_option maxRecDepth 4000
namespace Go.Proofs.YtmkbhognijicjaaDoor
open Go.Eng

/-- The integer that a natural number stands for, as the code computes it. -/
def unfI (x : Nat) : Int := bits .xor .i64 (IntKind.i64.wrap ((x : Int).fdiv (2 ^ min 1 IntKind.u64.bits))) (IntKind.i64.wrap (-(IntKind.i64.wrap (bits .and .u64 (x : Int) 1))))
theorem unfold_ac (x : Nat) : AC Tryd.prog 52 [.int .u64 x] (fun r => r = .int .i64 (unfI x)) := by
  refine ac_intro Tryd.func52 rfl (by show (1 : Nat) ≤ 11; omega) (fun w0 N0 => ?_)
  refine aw_step [0] [] (by simp [Tryd.ntmps52] <;> rfl) ?_
  refine aw_step [2] [] (by simp <;> rfl) ?_
  exact aw_ret (ends_ret (by simp [Tryd.results52] <;> rfl) (by simp [unfI]))

def rdL (f : Nat → Except Int (Nd × Nat)) : Nat → Nat → Except Int (List Nd × Nat)
  | 0, a => .ok ([], a)
  | n + 1, a => match f a with
    | .error er => .error er
    | .ok (x, a1) => match rdL f n a1 with
      | .error er => .error er
      | .ok (l, a2) => .ok (x :: l, a2)
/-- A tree of at most so many levels. -/
def rdN (bs : List UInt8) (e : Int) : Nat → Nat → Except Int (Nd × Nat)
  | 0, _ => .error 5
  | lv + 1, at_ => match rdV bs e 10 0 0 at_ with
    | .error er => .error er
    | .ok (tag, a1) => if 9999999 < tag then .error 3 else match bs[a1]? with
      | none => .error e
      | some k => if k.toNat = 1 then (match rdV bs e 10 0 0 (a1 + 1) with
          | .error er => .error er
          | .ok (x, a2) => .ok (.mk tag 1 (unfI x) [] [], a2))
        else if k.toNat = 2 then (match rdC bs e 2000 (a1 + 1) with
          | .error er => .error er
          | .ok (n, a2) => if a2 + n ≤ bs.length then .ok (.mk tag 2 0 ((bs.drop a2).take n) [], a2 + n) else .error e)
        else if k.toNat = 3 then (match rdC bs e 1024 (a1 + 1) with
          | .error er => .error er
          | .ok (n, a2) => match rdL (rdN bs e lv) n a2 with
            | .error er => .error er
            | .ok (l, a3) => .ok (.mk tag 3 0 [] l, a3))
        else .error 2
theorem rdC_bound {bs : List UInt8} {e : Int} {most at_ y a : Nat} (hat : at_ ≤ bs.length) (h : rdC bs e most at_ = .ok (y, a)) : y ≤ most ∧ a ≤ bs.length ∧ at_ < a := by
  unfold rdC at h
  split at h
  · cases h
  · rename_i x a' hv
    split at h
    · cases h
    · injection h with h
      injection h with h1 h2
      subst h1; subst h2
      obtain ⟨_, h3, h4⟩ := rdV_bound (i := 0) (by omega) (by simp) hat hv
      exact ⟨by omega, h3, h4⟩
theorem rdL_bound {bs : List UInt8} {f : Nat → Except Int (Nd × Nat)} (hf : ∀ at_ x a, at_ ≤ bs.length → f at_ = .ok (x, a) → a ≤ bs.length) : ∀ {n at_ : Nat} {l : List Nd} {a : Nat}, at_ ≤ bs.length → rdL f n at_ = .ok (l, a) → a ≤ bs.length ∧ l.length = n
  | 0, at_, l, a, hat, h => by simp only [rdL, Except.ok.injEq, Prod.mk.injEq] at h; obtain ⟨rfl, rfl⟩ := h; exact ⟨hat, rfl⟩
  | n + 1, at_, l, a, hat, h => by
    rw [rdL] at h
    split at h
    · cases h
    · rename_i x a1 hx
      split at h
      · cases h
      · rename_i l' a2 hl
        injection h with h
        injection h with h1 h2
        subst h1; subst h2
        obtain ⟨h3, h4⟩ := rdL_bound hf (hf _ _ _ hat hx) hl
        exact ⟨h3, by simp [h4]⟩
theorem rdN_bound {bs : List UInt8} {e : Int} : ∀ {lv at_ a : Nat} {x : Nd}, at_ ≤ bs.length → rdN bs e lv at_ = .ok (x, a) → a ≤ bs.length
  | 0, at_, a, x, hat, h => by simp [rdN] at h
  | lv + 1, at_, a, x, hat, h => by
    rw [rdN] at h
    split at h
    · cases h
    rename_i tag a1 hv
    obtain ⟨_, hb1, _⟩ := rdV_bound (i := 0) (by omega) (by simp) hat hv
    split at h
    · cases h
    split at h
    · cases h
    rename_i k hk
    have hlt : a1 < bs.length := (List.getElem?_eq_some_iff.1 hk).1
    split at h
    · split at h
      · cases h
      · rename_i y a2 hv2
        obtain ⟨_, hb2, _⟩ := rdV_bound (i := 0) (by omega) (by simp) (by omega) hv2
        injection h with h; injection h with h1 h2; subst h2; exact hb2
    · split at h
      · split at h
        · cases h
        · split at h
          · injection h with h; injection h with h1 h2; subst h2; assumption
          · cases h
      · split at h
        · split at h
          · cases h
          · rename_i n a2 hc
            obtain ⟨_, hb2, _⟩ := rdC_bound (by omega) hc
            split at h
            · cases h
            · rename_i l a3 hl
              injection h with h; injection h with h1 h2; subst h2
              exact (rdL_bound (fun at_ x a hat hx => rdN_bound hat hx) hb2 hl).1
        · cases h
end Go.Proofs.YtmkbhognijicjaaDoor
