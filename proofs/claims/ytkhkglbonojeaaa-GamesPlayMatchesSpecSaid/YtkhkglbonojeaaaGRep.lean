import Derived.Test.YtkhkglbonojeaaaTy
import Derived.Test.YtkhkglbonojeaaaSh3
import Derived.WalkSmall
namespace Ab
open Go Go.Proofs
set_option maxHeartbeats 4000000
attribute [local irreducible] AWP AOps thn inB Done PureOk FreshOk Sub

abbrev u64 (n : Int) : C := .imm (.val (.int .u64 n))

theorem and32 (n : Nat) (hn : n ≤ 4294967295) : Go.bits .and .u64 (n : Int) 4294967295 = n := by
  have h := bits_and_u64_nat n 4294967295 (by omega) (by omega)
  rw [show (4294967295 : Nat) = 2 ^ 32 - 1 from rfl, Nat.and_two_pow_sub_one_eq_mod] at h
  rw [show ((4294967295 : Int)) = ((2 ^ 32 - 1 : Nat) : Int) from rfl, h]
  omega
theorem small_facts (n : Nat) (hn : n ≤ 4294967295) : Go.bits .and .u64 (n : Int) 4294967295 = n ∧ Int.fdiv (n : Int) (2 ^ (min (32 : Int).toNat (IntKind.bits .u64))) = 0 ∧ IntKind.u64.wrap (1 * (n : Int)) = n ∧ IntKind.u64.wrap (0 * (n : Int)) = 0 := by
  refine ⟨and32 n hn, ?_, ?_, ?_⟩
  · show Int.fdiv (n : Int) 4294967296 = 0
    rw [Int.fdiv_eq_ediv_of_nonneg _ (by omega)]; omega
  · simp only [IntKind.wrap, IntKind.bits, IntKind.signed, Bool.false_and]; simp; omega
  · simp [IntKind.wrap, IntKind.bits, IntKind.signed]

theorem mul64_ok (n : Nat) (hn : n ≤ 4294967295) : PureOk Try.prog 39 [.c (u64 1), .c (u64 n)] (.tup [.c (u64 0), .c (u64 n)]) := by
  obtain ⟨f1, f2, f3, f4⟩ := small_facts n hn
  unfold PureOk
  refine FnOk.enter (rs := [.t 4, .t 5]) Try.func39 rfl Try.ntmps39 Try.results39 rfl ⟨trivial, trivial, trivial⟩ (by kernel_rfl) rfl ?_
  repeat (first | refine AOps.move rfl rfl ?_ | refine AOps.assign rfl rfl ?_ | refine AOps.nil ?_ | refine AWP.seq ?_ | refine AWP.region ?_ | refine thn_normal ?_ | refine AOps.andE (c := (n : Int)) rfl rfl rfl f1 ?_ | refine AOps.andE (c := 1) rfl rfl rfl (by decide) ?_ | refine AOps.andE (c := 0) rfl rfl rfl (by decide) ?_ | refine AOps.shr (c := 0) rfl rfl rfl (by decide) (by first | exact f2 | decide) ?_ | refine AOps.mulE (c := (n : Int)) rfl rfl rfl f3 ?_ | refine AOps.mulE (c := 0) rfl rfl rfl (by first | exact f4 | decide) ?_ | refine AOps.addE (c := 0) rfl rfl rfl (by decide) ?_)
  repeat (first | refine AWP.seq ?_ | refine AWP.ret ?_ | refine thn_ret ?_ | refine inB_ret ?_ | refine AWP.skip ?_ | refine thn_normal ?_ | refine inB_normal ?_ | refine AWP.exit ?_ | refine thn_exit ?_ | refine inB_exit ?_ | refine inB_exit_ne rfl ?_)
  exact Done.ret rfl rfl

theorem mul_ok (n : Nat) (hn : n ≤ 4294967295) : PureOk Try.prog 35 [.c (u64 1), .c (u64 n)] (.tup [.c (u64 0), .c (u64 n)]) := by
  unfold PureOk
  refine FnOk.enter (rs := [.t 4, .t 5]) Try.func35 rfl Try.ntmps35 Try.results35 rfl ⟨trivial, trivial, trivial⟩ (by kernel_rfl) rfl ?_
  repeat (first | refine AWP.seq ?_ | refine AWP.block ?_ | refine AWP.skip ?_ | refine thn_normal ?_ | refine inB_normal ?_ | refine AWP.condT rfl ?_ | refine AWP.condF rfl ?_)
  refine AWP.region ?_
  refine AOps.assign rfl rfl ?_
  refine AOps.assign rfl rfl ?_
  refine AOps.nil ?_
  repeat (first | refine thn_normal ?_ | refine inB_normal ?_)
  repeat (first | refine AWP.seq ?_ | refine AWP.block ?_ | refine AWP.skip ?_ | refine thn_normal ?_ | refine inB_normal ?_ | refine AWP.condT rfl ?_ | refine AWP.condF rfl ?_)
  refine AWP.region ?_
  refine AOps.move rfl rfl ?_
  refine AOps.move rfl rfl ?_
  refine AOps.callR rfl rfl rfl rfl (mul64_ok n hn) rfl ?_
  refine AOps.move rfl rfl ?_
  refine AOps.extract rfl rfl rfl ?_
  refine AOps.extract rfl rfl rfl ?_
  refine AOps.assign rfl rfl ?_
  refine AOps.assign rfl rfl ?_
  refine AOps.nil ?_
  repeat (first | refine thn_normal ?_ | refine inB_normal ?_)
  repeat (first | refine AWP.seq ?_ | refine AWP.block ?_ | refine AWP.skip ?_ | refine thn_normal ?_ | refine inB_normal ?_ | refine AWP.condT rfl ?_ | refine AWP.condF rfl ?_)
  refine AWP.region ?_
  refine AOps.move rfl rfl ?_
  refine AOps.move rfl rfl ?_
  refine AOps.assign rfl rfl ?_
  refine AOps.assign rfl rfl ?_
  refine AOps.nil ?_
  repeat (first | refine thn_normal ?_ | refine inB_normal ?_)
  repeat (first | refine AWP.seq ?_ | refine AWP.ret ?_ | refine thn_ret ?_ | refine inB_ret ?_ | refine AWP.skip ?_ | refine thn_normal ?_ | refine inB_normal ?_ | refine AWP.exit ?_ | refine thn_exit ?_ | refine inB_exit ?_ | refine inB_exit_ne rfl ?_)
  exact Done.ret rfl rfl
theorem wrap_facts (n : Nat) (hn : n ≤ 4294967295) : IntKind.u64.wrap (n : Int) = n ∧ IntKind.i64.wrap (n : Int) = n := by
  refine ⟨?_, wrap_i64 (by omega)⟩
  simp only [IntKind.wrap, IntKind.bits, IntKind.signed, Bool.false_and]; simp; omega

/-- The first i of n cells are c. -/
def repC (c : Int) (n i : Nat) : List (List C) := (List.range n).map fun j => [int (if j < i then c else 0)]

theorem rep_first {c : Int} {n : Nat} (h : 1 ≤ n) : (List.replicate n [C.imm (.val (.int .i64 0))]).take 0 ++ (([c] : List Int).map intI |>.map (·.map C.imm)).take 1 ++ (List.replicate n [C.imm (.val (.int .i64 0))]).drop (0 + 1) = repC c n 1 := by
  apply List.ext_getElem?
  intro j
  simp only [repC, List.getElem?_map]
  match j with
  | 0 => simp [show 0 < n by omega]
  | j + 1 =>
    simp only [List.take_zero, List.nil_append, List.map_cons, List.map_nil, List.take_succ_cons, List.take_nil, List.cons_append, List.getElem?_cons_succ, List.getElem?_drop, List.getElem?_replicate]
    by_cases hj : j + 1 < n
    · rw [if_pos (by omega), List.getElem?_range hj]; simp
    · rw [if_neg (by omega), List.getElem?_eq_none (by simp; omega)]; rfl

theorem rep_more {c : Int} {n i m : Nat} (h1 : m ≤ i) (h2 : i + m ≤ n) : (repC c n i).take (0 + i) ++ (((repC c n i).drop 0).take i).take m ++ (repC c n i).drop (0 + i + m) = repC c n (i + m) := by
  apply List.ext_getElem?
  intro j
  have len : (repC c n i).length = n := by simp [repC]
  have hg : ∀ k j, (repC c n k)[j]? = if j < n then some [int (if j < k then c else 0)] else none := fun k j => by
    simp only [repC, List.getElem?_map]
    by_cases hj : j < n
    · rw [List.getElem?_range hj, if_pos hj]; rfl
    · rw [List.getElem?_eq_none (by simp; omega), if_neg hj]; rfl
  rw [Nat.zero_add, List.drop_zero, hg]
  rcases Nat.lt_or_ge j i with hl | hl
  · rw [List.append_assoc, List.getElem?_append_left (by simp [len]; omega), List.getElem?_take, if_pos hl, hg]
    simp [show j < n by omega, hl, show j < i + m by omega]
  · rcases Nat.lt_or_ge j (i + m) with hl2 | hl2
    · rw [List.getElem?_append_left (by simp [len]; omega), List.getElem?_append_right (by simp [len]; omega), List.getElem?_take, if_pos (by simp [len]; omega), List.getElem?_take, if_pos (by simp [len]; omega), hg]
      have e : (List.take i (repC c n i)).length = i := by simp [len]; omega
      rw [e, if_pos (by omega), if_pos (by omega), if_pos (by omega), if_pos (by omega)]
    · rw [List.getElem?_append_right (by simp [len]; omega), List.getElem?_drop, hg]
      have e : (List.take i (repC c n i) ++ List.take m (List.take i (repC c n i))).length = i + m := by simp [len]; omega
      rw [e, show i + m + (j - (i + m)) = j by omega]
      split
      · rw [if_neg (by omega), if_neg (by omega)]
      · rfl
theorem rep_full (c : Int) (n : Nat) : Blk.cells 1 (repC c n n) = Blk.im 1 (List.replicate n [.val (.int .i64 c)]) := by
  rw [Blk.im, repC]
  congr 1
  apply List.ext_getElem?
  intro j
  simp only [List.getElem?_map, List.getElem?_replicate]
  by_cases hj : j < n
  · rw [List.getElem?_range hj, if_pos hj]; simp [hj]
  · rw [List.getElem?_eq_none (by simp; omega), if_neg hj]; rfl

theorem repeat_ok (c : Int) (n : Nat) (h1 : 1 ≤ n) (hn : n ≤ 4294967295) : FreshOk Try.prog 26 [.c (ints [c]), .c (int n)] 1 (List.replicate n [.val (.int .i64 c)]) := by
  obtain ⟨w1, w2⟩ := wrap_facts n hn
  unfold FreshOk
  refine FnOk.enter (rs := [.t 4]) Try.func26 rfl Try.ntmps26 Try.results26 rfl ⟨trivial, trivial⟩ (by kernel_rfl) rfl ?_
  repeat (first | refine AWP.seq ?_ | refine AWP.block ?_ | refine AWP.skip ?_ | refine thn_normal ?_ | refine inB_normal ?_ | refine AWP.condT rfl ?_ | refine AWP.condF rfl ?_)
  refine AWP.region ?_
  refine AOps.assign rfl rfl ?_
  refine AOps.nil ?_
  repeat (first | refine thn_normal ?_ | refine inB_normal ?_)
  have hd : decide ((n : Int) < 0) = false := decide_eq_false (by omega)
  repeat (first | refine AWP.seq ?_ | refine AWP.block ?_ | refine AWP.skip ?_ | refine thn_normal ?_ | refine inB_normal ?_ | refine AWP.condT rfl ?_ | refine AWP.condF rfl ?_)
  refine AWP.region ?_
  refine AOps.move rfl rfl ?_
  refine AOps.lss rfl rfl rfl ?_
  refine AOps.nil ?_
  repeat (first | refine thn_normal ?_ | refine inB_normal ?_)
  (repeat (refine AWP.seq ?_)); first | refine AWP.condD rfl (fun hc => ?_) (fun hc => ?_) | refine AWP.condN rfl (fun hc => ?_) (fun hc => ?_) | refine AWP.condE rfl (fun hc => ?_) (fun hc hc' => ?_) | refine AWP.condB rfl (fun hc => ?_) (fun hc => ?_) | refine AWP.cond rfl (fun hc => ?_) (fun hc => ?_)
  · omega
  repeat (first | refine AWP.skip ?_ | refine thn_normal ?_ | refine inB_normal ?_ | refine AWP.condT rfl ?_ | refine AWP.condF rfl ?_)
  repeat (first | refine AWP.seq ?_ | refine AWP.block ?_ | refine AWP.skip ?_ | refine thn_normal ?_ | refine inB_normal ?_ | refine AWP.condT rfl ?_ | refine AWP.condF rfl ?_)
  refine AWP.region ?_
  refine AOps.move rfl rfl ?_
  first | refine AOps.lenB rfl rfl (fun _ => ?_) | refine AOps.lenOwnB rfl rfl rfl (fun _ => ?_) | refine AOps.lenNil rfl rfl ?_
  refine AOps.convE (c := 1) rfl rfl (show IntKind.u64.wrap ((1 : Nat) : Int) = 1 by decide) ?_
  refine AOps.move rfl rfl ?_
  refine AOps.convE (c := (n : Int)) rfl rfl w1 ?_
  refine AOps.callR rfl rfl rfl rfl (mul_ok n hn) rfl ?_
  refine AOps.move rfl rfl ?_
  refine AOps.extract rfl rfl rfl ?_
  refine AOps.extract rfl rfl rfl ?_
  refine AOps.assign rfl rfl ?_
  refine AOps.assign rfl rfl ?_
  refine AOps.nil ?_
  repeat (first | refine thn_normal ?_ | refine inB_normal ?_)
  have hd2 : decide ((0 : Int) < 0) = false := by decide
  repeat (first | refine AWP.seq ?_ | refine AWP.block ?_ | refine AWP.skip ?_ | refine thn_normal ?_ | refine inB_normal ?_ | refine AWP.condT rfl ?_ | refine AWP.condF rfl ?_)
  refine AWP.region ?_
  refine AOps.move rfl rfl ?_
  refine AOps.gtr rfl rfl rfl ?_
  refine AOps.move rfl rfl ?_
  first | (refine AOps.guardF rfl rfl rfl (by assumption) ?_) | (refine AOps.guardSkip rfl rfl rfl ?_) | (refine AOps.guardT rfl rfl rfl (by assumption) ?_; refine AOps.move rfl rfl ?_)
  first | (refine AOps.guardF rfl rfl rfl (by assumption) ?_) | (refine AOps.guardSkip rfl rfl rfl ?_) | (refine AOps.guardT rfl rfl rfl (by assumption) ?_; refine AOps.gtr rfl rfl rfl ?_)
  first | refine AOps.pickT rfl (by assumption) rfl rfl ?_ | refine AOps.pickF rfl (by assumption) rfl rfl ?_
  refine AOps.nil ?_
  repeat (first | refine thn_normal ?_ | refine inB_normal ?_)
  (repeat (refine AWP.seq ?_)); first | refine AWP.condD rfl (fun hc => ?_) (fun hc => ?_) | refine AWP.condN rfl (fun hc => ?_) (fun hc => ?_) | refine AWP.condE rfl (fun hc => ?_) (fun hc hc' => ?_) | refine AWP.condB rfl (fun hc => ?_) (fun hc => ?_) | refine AWP.cond rfl (fun hc => ?_) (fun hc => ?_)
  · omega
  repeat (first | refine AWP.skip ?_ | refine thn_normal ?_ | refine inB_normal ?_ | refine AWP.condT rfl ?_ | refine AWP.condF rfl ?_)
  repeat (first | refine AWP.seq ?_ | refine AWP.block ?_ | refine AWP.skip ?_ | refine thn_normal ?_ | refine inB_normal ?_ | refine AWP.condT rfl ?_ | refine AWP.condF rfl ?_)
  refine AWP.region ?_
  refine AOps.move rfl rfl ?_
  refine AOps.convE (c := (n : Int)) rfl rfl w2 ?_
  refine W.make rfl rfl rfl (by omega) (by omega) rfl rfl rfl ?_
  refine AOps.assign rfl rfl ?_
  refine AOps.nil ?_
  repeat (first | refine thn_normal ?_ | refine inB_normal ?_)
  repeat (first | refine AWP.seq ?_ | refine AWP.block ?_ | refine AWP.skip ?_ | refine thn_normal ?_ | refine inB_normal ?_ | refine AWP.condT rfl ?_ | refine AWP.condF rfl ?_)
  refine AWP.region ?_
  refine AOps.move rfl rfl ?_
  refine AOps.move rfl rfl ?_
  refine AOps.copyE (m := 1) (es' := repC c n 1) rfl rfl (by omega) rfl .imm rfl (Nat.min_eq_left h1) (rep_first h1) rfl ?_
  refine AOps.assign rfl rfl ?_
  refine AOps.nil ?_
  repeat (first | refine thn_normal ?_ | refine inB_normal ?_)
  refine AWP.seq ?_
  refine AWP.block ?_
  refine AWP.loop (X := Nat) (fun i => ⟨[(7, .c (.own 0 0 n)), (8, .c (int i))], [.one (.cells 1 (repC c n i))]⟩) (fun i => 1 ≤ i ∧ i ≤ n) (fun i => n - i) 1 (Sub.env ⟨rfl, rfl, trivial⟩) ⟨Nat.le_refl _, h1⟩ ?_
  rintro i ⟨i1, i2⟩
  repeat (first | refine AWP.seq ?_ | refine AWP.block ?_ | refine AWP.skip ?_ | refine thn_normal ?_ | refine inB_normal ?_ | refine AWP.condT rfl ?_ | refine AWP.condF rfl ?_)
  refine AWP.region ?_
  refine AOps.move rfl rfl ?_
  refine AOps.move rfl rfl ?_
  first | refine AOps.lenB rfl rfl (fun _ => ?_) | refine AOps.lenOwnB rfl rfl rfl (fun _ => ?_) | refine AOps.lenNil rfl rfl ?_
  refine AOps.lss rfl rfl rfl ?_
  refine AOps.nil ?_
  repeat (first | refine thn_normal ?_ | refine inB_normal ?_)
  (repeat (refine AWP.seq ?_)); first | refine AWP.condD rfl (fun hc => ?_) (fun hc => ?_) | refine AWP.condN rfl (fun hc => ?_) (fun hc => ?_) | refine AWP.condE rfl (fun hc => ?_) (fun hc hc' => ?_) | refine AWP.condB rfl (fun hc => ?_) (fun hc => ?_) | refine AWP.cond rfl (fun hc => ?_) (fun hc => ?_)
  · have hi : i < n := by omega
    obtain ⟨m, hm⟩ : ∃ m, m = Nat.min i (n - i) := ⟨_, rfl⟩
    have hm1 : 1 ≤ m := by rw [hm]; exact Nat.le_min.2 ⟨i1, by omega⟩
    have hm2 : m ≤ i ∧ i + m ≤ n := by
      have := Nat.min_le_left i (n - i)
      have := Nat.min_le_right i (n - i)
      change m = min i (n - i) at hm
      omega
    have hcm : Nat.min (((repC c n i).drop 0).take i).length (n - i) = m := by
      rw [hm]
      congr 1
      simp [repC]; omega
    have hce : (repC c n i).take (0 + i) ++ (((repC c n i).drop 0).take i).take m ++ (repC c n i).drop (0 + i + m) = repC c n (i + m) := rep_more hm2.1 hm2.2
    repeat (first | refine AWP.skip ?_ | refine thn_normal ?_ | refine inB_normal ?_ | refine AWP.condT rfl ?_ | refine AWP.condF rfl ?_)
    repeat (first | refine AWP.seq ?_ | refine AWP.block ?_ | refine AWP.skip ?_ | refine thn_normal ?_ | refine inB_normal ?_ | refine AWP.condT rfl ?_ | refine AWP.condF rfl ?_)
    refine AWP.drawEI [7] mixed rfl rfl rfl ?_
    apply DrawSeqE.consN; exact rfl; exact rfl; intro E
    refine AOps.move rfl rfl ?_
    exact AOps.nil ⟨rfl, rfl⟩
    exact rfl
    apply DrawSeqE.consN; exact rfl; exact rfl; intro E
    refine AOps.move rfl rfl ?_
    exact AOps.nil ⟨rfl, rfl⟩
    exact rfl
    apply DrawSeqE.consN; exact rfl; exact rfl; intro E
    refine AOps.move rfl rfl ?_
    exact AOps.nil ⟨rfl, rfl⟩
    exact rfl
    apply DrawSeqE.consN; exact rfl; exact rfl; intro E
    first | refine AOps.sliceArrI rfl (Nat.le_of_ble_eq_true rfl) rfl rfl ?_ | refine AOps.sliceOwnTo rfl rfl rfl (by omega) rfl ?_ | refine AOps.sliceOwnFrom rfl rfl rfl (by omega) rfl ?_
    exact AOps.nil ⟨rfl, rfl⟩
    exact rfl
    apply DrawSeqE.consN; exact rfl; exact rfl; intro E
    refine AOps.move rfl rfl ?_
    exact AOps.nil ⟨rfl, rfl⟩
    exact rfl
    apply DrawSeqE.consN; exact rfl; exact rfl; intro E
    refine AOps.move rfl rfl ?_
    exact AOps.nil ⟨rfl, rfl⟩
    exact rfl
    apply DrawSeqE.consN; exact rfl; exact rfl; intro E
    first | refine AOps.sliceArrI rfl (Nat.le_of_ble_eq_true rfl) rfl rfl ?_ | refine AOps.sliceOwnTo rfl rfl rfl (by omega) rfl ?_ | refine AOps.sliceOwnFrom rfl rfl rfl (by omega) rfl ?_
    exact AOps.nil ⟨rfl, rfl⟩
    exact rfl
    apply DrawSeqE.consE; exact rfl; exact rfl; intro E
    refine AOps.copyE rfl rfl (by omega) rfl (Src.own rfl) rfl hcm hce rfl ?_
    exact AOps.nil ⟨rfl, rfl⟩
    exact rfl
    exact rfl
    apply DrawSeqE.consN; exact rfl; exact rfl; intro E
    refine AOps.add rfl rfl rfl (by omega) ?_
    exact AOps.nil ⟨rfl, rfl⟩
    exact rfl
    apply DrawSeqE.consN; exact rfl; exact rfl; intro E
    refine AOps.assign rfl rfl ?_
    exact AOps.nil ⟨rfl, rfl⟩
    exact rfl
    refine DrawSeqE.done rfl ?_ ?_
    · apply RestI.cons; exact rfl; exact rfl
      first | refine RestK.skip rfl ?_ | (apply RestK.go; exact rfl; exact rfl; intro E; (refine AOps.move rfl rfl ?_); exact AOps.nil ⟨rfl, rfl⟩)
      first | refine RestK.skip rfl ?_ | (apply RestK.go; exact rfl; exact rfl; intro E; (refine AOps.move rfl rfl ?_); exact AOps.nil ⟨rfl, rfl⟩)
      exact RestK.nil
      apply RestI.cons; exact rfl; exact rfl
      first | refine RestK.skip rfl ?_ | (apply RestK.go; exact rfl; exact rfl; intro E; (refine AOps.move rfl rfl ?_); exact AOps.nil ⟨rfl, rfl⟩)
      first | refine RestK.skip rfl ?_ | (apply RestK.go; exact rfl; exact rfl; intro E; (refine AOps.move rfl rfl ?_); exact AOps.nil ⟨rfl, rfl⟩)
      exact RestK.nil
      apply RestI.cons; exact rfl; exact rfl
      first | refine RestK.skip rfl ?_ | (apply RestK.go; exact rfl; exact rfl; intro E; (refine AOps.move rfl rfl ?_); exact AOps.nil ⟨rfl, rfl⟩)
      first | refine RestK.skip rfl ?_ | (apply RestK.go; exact rfl; exact rfl; intro E; (refine AOps.move rfl rfl ?_); exact AOps.nil ⟨rfl, rfl⟩)
      exact RestK.nil
      apply RestI.cons; exact rfl; exact rfl
      first | refine RestK.skip rfl ?_ | (apply RestK.go; exact rfl; exact rfl; intro E; (first | refine AOps.sliceArrI rfl (Nat.le_of_ble_eq_true rfl) rfl rfl ?_ | refine AOps.sliceOwnTo rfl rfl rfl (by omega) rfl ?_ | refine AOps.sliceOwnFrom rfl rfl rfl (by omega) rfl ?_); exact AOps.nil ⟨rfl, rfl⟩)
      first | refine RestK.skip rfl ?_ | (apply RestK.go; exact rfl; exact rfl; intro E; (first | refine AOps.sliceArrI rfl (Nat.le_of_ble_eq_true rfl) rfl rfl ?_ | refine AOps.sliceOwnTo rfl rfl rfl (by omega) rfl ?_ | refine AOps.sliceOwnFrom rfl rfl rfl (by omega) rfl ?_); exact AOps.nil ⟨rfl, rfl⟩)
      exact RestK.nil
      apply RestI.cons; exact rfl; exact rfl
      first | refine RestK.skip rfl ?_ | (apply RestK.go; exact rfl; exact rfl; intro E; (refine AOps.move rfl rfl ?_); exact AOps.nil ⟨rfl, rfl⟩)
      first | refine RestK.skip rfl ?_ | (apply RestK.go; exact rfl; exact rfl; intro E; (refine AOps.move rfl rfl ?_); exact AOps.nil ⟨rfl, rfl⟩)
      exact RestK.nil
      apply RestI.cons; exact rfl; exact rfl
      first | refine RestK.skip rfl ?_ | (apply RestK.go; exact rfl; exact rfl; intro E; (refine AOps.move rfl rfl ?_); exact AOps.nil ⟨rfl, rfl⟩)
      first | refine RestK.skip rfl ?_ | (apply RestK.go; exact rfl; exact rfl; intro E; (refine AOps.move rfl rfl ?_); exact AOps.nil ⟨rfl, rfl⟩)
      exact RestK.nil
      apply RestI.cons; exact rfl; exact rfl
      first | refine RestK.skip rfl ?_ | (apply RestK.go; exact rfl; exact rfl; intro E; (first | refine AOps.sliceArrI rfl (Nat.le_of_ble_eq_true rfl) rfl rfl ?_ | refine AOps.sliceOwnTo rfl rfl rfl (by omega) rfl ?_ | refine AOps.sliceOwnFrom rfl rfl rfl (by omega) rfl ?_); exact AOps.nil ⟨rfl, rfl⟩)
      first | refine RestK.skip rfl ?_ | (apply RestK.go; exact rfl; exact rfl; intro E; (first | refine AOps.sliceArrI rfl (Nat.le_of_ble_eq_true rfl) rfl rfl ?_ | refine AOps.sliceOwnTo rfl rfl rfl (by omega) rfl ?_ | refine AOps.sliceOwnFrom rfl rfl rfl (by omega) rfl ?_); exact AOps.nil ⟨rfl, rfl⟩)
      exact RestK.nil
      refine RestI.skip rfl ?_
      apply RestI.cons; exact rfl; exact rfl
      first | refine RestK.skip rfl ?_ | (apply RestK.go; exact rfl; exact rfl; intro E; (refine AOps.add rfl rfl rfl (by omega) ?_); exact AOps.nil ⟨rfl, rfl⟩)
      first | refine RestK.skip rfl ?_ | (apply RestK.go; exact rfl; exact rfl; intro E; (refine AOps.add rfl rfl rfl (by omega) ?_); exact AOps.nil ⟨rfl, rfl⟩)
      exact RestK.nil
      apply RestI.cons; exact rfl; exact rfl
      first | refine RestK.skip rfl ?_ | (apply RestK.go; exact rfl; exact rfl; intro E; (refine AOps.assign rfl rfl ?_); exact AOps.nil ⟨rfl, rfl⟩)
      first | refine RestK.skip rfl ?_ | (apply RestK.go; exact rfl; exact rfl; intro E; (refine AOps.assign rfl rfl ?_); exact AOps.nil ⟨rfl, rfl⟩)
      exact RestK.nil
      exact RestI.nil
    dsimp only [envEnd]
    repeat (first | refine thn_normal ?_ | refine inB_normal ?_)
    exact ⟨i + m, Sub.env ⟨rfl, rfl, trivial⟩, ⟨by omega, by omega⟩, by omega⟩
  repeat (first | refine AWP.seq ?_ | refine AWP.ret ?_ | refine thn_ret ?_ | refine inB_ret ?_ | refine AWP.skip ?_ | refine thn_normal ?_ | refine inB_normal ?_ | refine AWP.exit ?_ | refine thn_exit ?_ | refine inB_exit ?_ | refine inB_exit_ne rfl ?_)
  repeat (first | refine AWP.seq ?_ | refine AWP.block ?_ | refine AWP.skip ?_ | refine thn_normal ?_ | refine inB_normal ?_ | refine AWP.condT rfl ?_ | refine AWP.condF rfl ?_)
  refine AWP.region ?_
  refine AOps.move rfl rfl ?_
  refine AOps.assign rfl rfl ?_
  refine AOps.nil ?_
  repeat (first | refine thn_normal ?_ | refine inB_normal ?_)
  repeat (first | refine AWP.seq ?_ | refine AWP.ret ?_ | refine thn_ret ?_ | refine inB_ret ?_ | refine AWP.skip ?_ | refine thn_normal ?_ | refine inB_normal ?_ | refine AWP.exit ?_ | refine thn_exit ?_ | refine inB_exit ?_ | refine inB_exit_ne rfl ?_)
  have hin : i = n := by omega
  subst hin
  refine Done.ret rfl ⟨0, by simp, ?_⟩
  show some (some (Blk.cells 1 (repC c i i))) = _
  rw [rep_full]

/-- slices.Repeat of one number. -/
def slices_Repeat_int_int (x : List Int) (n : Int) : Option (List Int) := match x with
  | [c] => if 1 ≤ n ∧ n ≤ 4294967295 then some (List.replicate n.toNat c) else none
  | _ => none
theorem slices_Repeat_int_int_ok {x : List Int} {n : Int} {r : List Int} (h : slices_Repeat_int_int x n = some r) : FreshOk Try.prog 26 [.c (row 1 intI x), .c (int n)] 1 (List.map intI r) := by
  unfold slices_Repeat_int_int at h
  split at h
  · rename_i c
    split at h
    · rename_i hn
      cases h
      have := repeat_ok c n.toNat (by omega) (by omega)
      rw [Int.toNat_of_nonneg (by omega)] at this
      rwa [List.map_replicate]
    · cases h
  · cases h
end Ab
