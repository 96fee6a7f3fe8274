import Derived.Test.YtkhkglbonojeaaaGAllx2
namespace Ab
open Go Go.Proofs
set_option maxHeartbeats 4000000
set_option linter.all false
attribute [local irreducible] AWP AOps thn inB Done PureOk FreshOk Sub

noncomputable def law8_GamesStrategyWins_l1 (gv : TGame) (player : Int) (targets : List Int) (other : List Int) (a23 : (List Int) × TFault) (a30 : (List Int) × TFault) : Int → (List Int) → Option ((List Int) ⊕ Bool) := fun p14 c13 => Option.bind (Option.bind (Option.bind (ix gv.owner p14) fun a83 => if a83 = player then some true else Option.bind (ref1_Has targets p14) fun a90 => some a90) fun t17 => if t17 = true then Option.bind (ix a30.1 p14) fun a95 => Option.bind (app 8 c13 [a95]) fun a98 => some a98 else Option.bind (ix other p14) fun a102 => Option.bind (app 8 c13 [a102]) fun a105 => some a105) fun c15 => Option.bind (Option.bind (ix gv.owner p14) fun a109 => if (!(decide (a109 = player))) = true then Option.bind (ix a23.1 p14) fun a116 => if 0 < a116 then Option.bind (ix other p14) fun a123 => some (decide (a123 < 0)) else some false else some false) fun t21 => if t21 = true then Option.bind (law8_forced) fun a127 => some (.inr a127) else some (.inl c15)
noncomputable def law8_GamesStrategyWins (gv : TGame) (player : Int) (targets : List Int) (other : List Int) (start : Int) : Option Bool := Option.bind (games_Attractor gv player targets) fun a23 => Option.bind (games_Strategy gv player targets) fun a30 => Option.bind (if (!(decide (a23.2.code = 0))) = true then some true else if (!(decide (a30.2.code = 0))) = true then some true else if (!(decide ((other.length : Int) = (gv.owner.length : Int)))) = true then some true else Option.bind (ref1_In start 0 ((gv.owner.length : Int) - 1)) fun a55 => some (!a55)) fun t6 => if t6 = true then Option.bind (law8_forced) fun a58 => some a58 else if ((!(decide ((a23.1.length : Int) = (gv.owner.length : Int)))) || (!(decide ((a30.1.length : Int) = (gv.owner.length : Int))))) = true then some false else (Option.bind (rngX 0 (gv.owner.length : Int) (law8_GamesStrategyWins_l1 gv player targets other a23 a30) []) fun | .inl c13 => Option.bind (ix a23.1 start) fun a130 => if a130 < 0 then Option.bind (law8_forced) fun a133 => some a133 else Option.bind (ix a23.1 start) fun a140 => Option.bind (games_Play gv c13 start a140) fun a142 => if a142.2.code = 0 then Option.bind (if 0 < (a142.1.length : Int) then Option.bind (ix a142.1 ((a142.1.length : Int) - 1)) fun a163 => Option.bind (ref1_Has targets a163) fun a165 => if a165 = true then Option.bind (law8_forced) fun a168 => some a168 else some false else some false) fun t31 => some t31 else Option.bind (if a142.2.code = 6 then Option.bind (law8_forced) fun a152 => some a152 else some false) fun t28 => some t28 | .inr x => some x)
theorem law8_GamesStrategyWins_ok {gv : TGame} {player : Int} {targets : List Int} {other : List Int} {start : Int} {r : Bool} (h : law8_GamesStrategyWins gv player targets other start = some r) : PureOk Try.prog 8 [.agg [row 1 intI gv.owner, row 2 eA2i64 gv.arcs], .c (int player), .c (row 1 intI targets), .c (row 1 intI other), .c (int start)] (.c (bool r)) := by
  unfold PureOk
  refine FnOk.enter (rs := [.t 10]) Try.func8 rfl Try.ntmps8 Try.results8 rfl ⟨trivial, trivial⟩ (by kernel_rfl) rfl ?_
  unfold law8_GamesStrategyWins at h
  refine AWP.seq ?_
  refine AWP.region ?_
  refine W.box rfl rfl rfl rfl rfl rfl ?_
  refine AOps.assign rfl rfl ?_
  refine AOps.nil ?_
  refine thn_normal ?_
  refine AWP.seq ?_
  obtain ⟨a23, ha23, h⟩ := bind_some h
  refine AWP.region ?_
  refine W.loadAgg rfl rfl rfl rfl rfl rfl rfl ?_
  refine AOps.move rfl rfl ?_
  refine AOps.move rfl rfl ?_
  refine AOps.callR rfl rfl rfl rfl (games_Attractor_ok ha23) rfl ?_
  refine AOps.move rfl rfl ?_
  refine AOps.extract rfl rfl rfl ?_
  refine AOps.extract rfl rfl rfl ?_
  refine W.alloc rfl rfl rfl rfl ?_
  refine AOps.assign rfl rfl ?_
  refine W.storeAgg rfl rfl rfl rfl rfl rfl rfl ?_
  refine AOps.nil ?_
  refine thn_normal ?_
  refine AWP.seq ?_
  obtain ⟨a30, ha30, h⟩ := bind_some h
  refine AWP.region ?_
  refine W.loadAgg rfl rfl rfl rfl rfl rfl rfl ?_
  refine AOps.move rfl rfl ?_
  refine AOps.move rfl rfl ?_
  refine AOps.callR rfl rfl rfl rfl (games_Strategy_ok ha30) rfl ?_
  refine AOps.move rfl rfl ?_
  refine AOps.extract rfl rfl rfl ?_
  refine AOps.extract rfl rfl rfl ?_
  refine W.alloc rfl rfl rfl rfl ?_
  refine AOps.assign rfl rfl ?_
  refine W.storeAgg rfl rfl rfl rfl rfl rfl rfl ?_
  refine AOps.nil ?_
  refine thn_normal ?_
  refine AWP.seq ?_
  obtain ⟨t6, hx7, h⟩ := bind_some h
  refine AWP.seqJ (⟨[(1, .c (int player)), (2, .c (row 1 intI targets)), (3, .c (row 1 intI other)), (4, .c (int start)), (5, .c (.ptr 0 0 0)), (11, .c (row 1 intI a23.1)), (13, .c (row 1 intI a30.1)), (57, .c (bool t6))], [.one (.cells 2 [[row 1 intI gv.owner, row 2 eA2i64 gv.arcs]])]⟩) ?_ ?_
  · rcases Bool.eq_false_or_eq_true (!(decide (a23.2.code = 0))) with hb8 | hb8
    · replace hx7 := iteBT hb8 hx7
      refine AWP.region ?_
      refine W.fieldAddr rfl rfl rfl rfl ?_
      refine AOps.load rfl rfl rfl rfl rfl rfl ?_
      refine AOps.neq rfl rfl rfl ?_
      refine AOps.move rfl rfl ?_
      refine AOps.guardF rfl rfl rfl hb8 ?_
      refine AOps.guardF rfl rfl rfl hb8 ?_
      refine AOps.guardF rfl rfl rfl hb8 ?_
      refine AOps.pickT rfl hb8 rfl rfl ?_
      refine AOps.move rfl rfl ?_
      refine AOps.guardF rfl rfl rfl rfl ?_
      refine AOps.guardF rfl rfl rfl rfl ?_
      refine AOps.guardF rfl rfl rfl rfl ?_
      refine AOps.guardF rfl rfl rfl rfl ?_
      refine AOps.guardF rfl rfl rfl rfl ?_
      refine AOps.guardF rfl rfl rfl rfl ?_
      refine AOps.pickT rfl rfl rfl rfl ?_
      refine AOps.move rfl rfl ?_
      refine AOps.guardF rfl rfl rfl rfl ?_
      refine AOps.guardF rfl rfl rfl rfl ?_
      refine AOps.guardF rfl rfl rfl rfl ?_
      refine AOps.guardF rfl rfl rfl rfl ?_
      refine AOps.guardF rfl rfl rfl rfl ?_
      refine AOps.guardF rfl rfl rfl rfl ?_
      refine AOps.guardF rfl rfl rfl rfl ?_
      refine AOps.pickT rfl rfl rfl rfl ?_
      refine AOps.nil ?_
      have ej := Option.some.inj hx7
      subst ej
      refine thn_normal ?_
      exact Sub.cut ⟨rfl, rfl, rfl, rfl, rfl, rfl, rfl, rfl, trivial⟩ rfl ⟨.one rfl, trivial⟩ rfl
    · replace hx7 := iteBF hb8 hx7
      rcases Bool.eq_false_or_eq_true (!(decide (a30.2.code = 0))) with hb9 | hb9
      · replace hx7 := iteBT hb9 hx7
        refine AWP.region ?_
        refine W.fieldAddr rfl rfl rfl rfl ?_
        refine AOps.load rfl rfl rfl rfl rfl rfl ?_
        refine AOps.neq rfl rfl rfl ?_
        refine AOps.move rfl rfl ?_
        refine AOps.guardT rfl rfl rfl hb8 ?_; refine W.fieldAddr rfl rfl rfl rfl ?_
        refine AOps.guardT rfl rfl rfl hb8 ?_; refine AOps.load rfl rfl rfl rfl rfl rfl ?_
        refine AOps.guardT rfl rfl rfl hb8 ?_; refine AOps.neq rfl rfl rfl ?_
        refine AOps.pickF rfl hb8 rfl rfl ?_
        refine AOps.move rfl rfl ?_
        refine AOps.guardF rfl rfl rfl hb9 ?_
        refine AOps.guardF rfl rfl rfl hb9 ?_
        refine AOps.guardF rfl rfl rfl hb9 ?_
        refine AOps.guardF rfl rfl rfl hb9 ?_
        refine AOps.guardF rfl rfl rfl hb9 ?_
        refine AOps.guardF rfl rfl rfl hb9 ?_
        refine AOps.pickT rfl hb9 rfl rfl ?_
        refine AOps.move rfl rfl ?_
        refine AOps.guardF rfl rfl rfl rfl ?_
        refine AOps.guardF rfl rfl rfl rfl ?_
        refine AOps.guardF rfl rfl rfl rfl ?_
        refine AOps.guardF rfl rfl rfl rfl ?_
        refine AOps.guardF rfl rfl rfl rfl ?_
        refine AOps.guardF rfl rfl rfl rfl ?_
        refine AOps.guardF rfl rfl rfl rfl ?_
        refine AOps.pickT rfl rfl rfl rfl ?_
        refine AOps.nil ?_
        have ej := Option.some.inj hx7
        subst ej
        refine thn_normal ?_
        exact Sub.cut ⟨rfl, rfl, rfl, rfl, rfl, rfl, rfl, rfl, trivial⟩ rfl ⟨.one rfl, trivial⟩ rfl
      · replace hx7 := iteBF hb9 hx7
        rcases Bool.eq_false_or_eq_true (!(decide ((other.length : Int) = (gv.owner.length : Int)))) with hb10 | hb10
        · replace hx7 := iteBT hb10 hx7
          refine AWP.region ?_
          refine W.fieldAddr rfl rfl rfl rfl ?_
          refine AOps.load rfl rfl rfl rfl rfl rfl ?_
          refine AOps.neq rfl rfl rfl ?_
          refine AOps.move rfl rfl ?_
          refine AOps.guardT rfl rfl rfl hb8 ?_; refine W.fieldAddr rfl rfl rfl rfl ?_
          refine AOps.guardT rfl rfl rfl hb8 ?_; refine AOps.load rfl rfl rfl rfl rfl rfl ?_
          refine AOps.guardT rfl rfl rfl hb8 ?_; refine AOps.neq rfl rfl rfl ?_
          refine AOps.pickF rfl hb8 rfl rfl ?_
          refine AOps.move rfl rfl ?_
          refine AOps.guardT rfl rfl rfl hb9 ?_; refine AOps.move rfl rfl ?_
          refine AOps.guardT rfl rfl rfl hb9 ?_; refine S.len rfl rfl (fun hl43 => ?_)
          refine AOps.guardT rfl rfl rfl hb9 ?_; refine W.fieldAddr rfl rfl rfl rfl ?_
          refine AOps.guardT rfl rfl rfl hb9 ?_; refine AOps.load rfl rfl rfl rfl rfl rfl ?_
          refine AOps.guardT rfl rfl rfl hb9 ?_; refine S.len rfl rfl (fun hl46 => ?_)
          refine AOps.guardT rfl rfl rfl hb9 ?_; refine AOps.neq rfl rfl rfl ?_
          refine AOps.pickF rfl hb9 rfl rfl ?_
          refine AOps.move rfl rfl ?_
          refine AOps.guardF rfl rfl rfl hb10 ?_
          refine AOps.guardF rfl rfl rfl hb10 ?_
          refine AOps.guardF rfl rfl rfl hb10 ?_
          refine AOps.guardF rfl rfl rfl hb10 ?_
          refine AOps.guardF rfl rfl rfl hb10 ?_
          refine AOps.guardF rfl rfl rfl hb10 ?_
          refine AOps.guardF rfl rfl rfl hb10 ?_
          refine AOps.pickT rfl hb10 rfl rfl ?_
          refine AOps.nil ?_
          have ej := Option.some.inj hx7
          subst ej
          refine thn_normal ?_
          exact Sub.cut ⟨rfl, rfl, rfl, rfl, rfl, rfl, rfl, rfl, trivial⟩ rfl ⟨.one rfl, trivial⟩ rfl
        · replace hx7 := iteBF hb10 hx7
          obtain ⟨a55, ha55, hx7⟩ := bind_some hx7
          refine AWP.region ?_
          refine W.fieldAddr rfl rfl rfl rfl ?_
          refine AOps.load rfl rfl rfl rfl rfl rfl ?_
          refine AOps.neq rfl rfl rfl ?_
          refine AOps.move rfl rfl ?_
          refine AOps.guardT rfl rfl rfl hb8 ?_; refine W.fieldAddr rfl rfl rfl rfl ?_
          refine AOps.guardT rfl rfl rfl hb8 ?_; refine AOps.load rfl rfl rfl rfl rfl rfl ?_
          refine AOps.guardT rfl rfl rfl hb8 ?_; refine AOps.neq rfl rfl rfl ?_
          refine AOps.pickF rfl hb8 rfl rfl ?_
          refine AOps.move rfl rfl ?_
          refine AOps.guardT rfl rfl rfl hb9 ?_; refine AOps.move rfl rfl ?_
          refine AOps.guardT rfl rfl rfl hb9 ?_; refine S.len rfl rfl (fun hl43 => ?_)
          refine AOps.guardT rfl rfl rfl hb9 ?_; refine W.fieldAddr rfl rfl rfl rfl ?_
          refine AOps.guardT rfl rfl rfl hb9 ?_; refine AOps.load rfl rfl rfl rfl rfl rfl ?_
          refine AOps.guardT rfl rfl rfl hb9 ?_; refine S.len rfl rfl (fun hl46 => ?_)
          refine AOps.guardT rfl rfl rfl hb9 ?_; refine AOps.neq rfl rfl rfl ?_
          refine AOps.pickF rfl hb9 rfl rfl ?_
          refine AOps.move rfl rfl ?_
          refine AOps.guardT rfl rfl rfl hb10 ?_; refine AOps.move rfl rfl ?_
          refine AOps.guardT rfl rfl rfl hb10 ?_; refine W.fieldAddr rfl rfl rfl rfl ?_
          refine AOps.guardT rfl rfl rfl hb10 ?_; refine AOps.load rfl rfl rfl rfl rfl rfl ?_
          refine AOps.guardT rfl rfl rfl hb10 ?_; refine S.len rfl rfl (fun hl53 => ?_)
          refine AOps.guardT rfl rfl rfl hb10 ?_; refine AOps.sub' rfl rfl rfl (by omega) ?_
          refine AOps.guardT rfl rfl rfl hb10 ?_; refine AOps.callR rfl rfl rfl rfl (ref1_In_ok ha55) rfl ?_
          refine AOps.guardT rfl rfl rfl hb10 ?_; refine AOps.not rfl rfl ?_
          refine AOps.pickF rfl hb10 rfl rfl ?_
          refine AOps.nil ?_
          have ej := Option.some.inj hx7
          subst ej
          refine thn_normal ?_
          exact Sub.cut ⟨rfl, rfl, rfl, rfl, rfl, rfl, rfl, rfl, trivial⟩ rfl ⟨.one rfl, trivial⟩ rfl
  · refine AWP.iteB rfl h (fun hc11 h => ?_) (fun hc11 h => ?_)
    · refine AWP.seq ?_
      obtain ⟨a58, ha58, h⟩ := bind_some h
      refine AWP.region ?_
      refine AOps.callR rfl rfl rfl rfl (law8_forced_ok ha58) rfl ?_
      refine AOps.assign rfl rfl ?_
      refine AOps.nil ?_
      refine thn_normal ?_
      refine AWP.ret ?_
      refine thn_ret ?_
      have ej := Option.some.inj h
      subst ej
      exact Done.ret rfl rfl
    · refine AWP.skip ?_
      refine thn_normal ?_
      refine AWP.seq ?_
      refine AWP.seqJ (⟨[(1, .c (int player)), (2, .c (row 1 intI targets)), (3, .c (row 1 intI other)), (4, .c (int start)), (5, .c (.ptr 0 0 0)), (11, .c (row 1 intI a23.1)), (13, .c (row 1 intI a30.1)), (72, .c (bool ((!(decide ((a23.1.length : Int) = (gv.owner.length : Int)))) || (!(decide ((a30.1.length : Int) = (gv.owner.length : Int)))))))], [.one (.cells 2 [[row 1 intI gv.owner, row 2 eA2i64 gv.arcs]])]⟩) ?_ ?_
      · rcases Bool.eq_false_or_eq_true (!(decide ((a23.1.length : Int) = (gv.owner.length : Int)))) with hb1 | hb1
        · refine AWP.region ?_
          refine AOps.move rfl rfl ?_
          refine S.len rfl rfl (fun hl60 => ?_)
          refine W.fieldAddr rfl rfl rfl rfl ?_
          refine AOps.load rfl rfl rfl rfl rfl rfl ?_
          refine S.len rfl rfl (fun hl63 => ?_)
          refine AOps.neq rfl rfl rfl ?_
          refine AOps.move rfl rfl ?_
          refine AOps.guardF rfl rfl rfl hb1 ?_
          refine AOps.guardF rfl rfl rfl hb1 ?_
          refine AOps.guardF rfl rfl rfl hb1 ?_
          refine AOps.guardF rfl rfl rfl hb1 ?_
          refine AOps.guardF rfl rfl rfl hb1 ?_
          refine AOps.guardF rfl rfl rfl hb1 ?_
          refine AOps.pickT rfl hb1 rfl rfl ?_
          refine AOps.nil ?_
          refine thn_normal ?_
          simp only [and_t hb1, or_t hb1]
          exact Sub.env ⟨rfl, rfl, rfl, rfl, rfl, rfl, rfl, rfl, trivial⟩
        · refine AWP.region ?_
          refine AOps.move rfl rfl ?_
          refine S.len rfl rfl (fun hl60 => ?_)
          refine W.fieldAddr rfl rfl rfl rfl ?_
          refine AOps.load rfl rfl rfl rfl rfl rfl ?_
          refine S.len rfl rfl (fun hl63 => ?_)
          refine AOps.neq rfl rfl rfl ?_
          refine AOps.move rfl rfl ?_
          refine AOps.guardT rfl rfl rfl hb1 ?_; refine AOps.move rfl rfl ?_
          refine AOps.guardT rfl rfl rfl hb1 ?_; refine S.len rfl rfl (fun hl67 => ?_)
          refine AOps.guardT rfl rfl rfl hb1 ?_; refine W.fieldAddr rfl rfl rfl rfl ?_
          refine AOps.guardT rfl rfl rfl hb1 ?_; refine AOps.load rfl rfl rfl rfl rfl rfl ?_
          refine AOps.guardT rfl rfl rfl hb1 ?_; refine S.len rfl rfl (fun hl70 => ?_)
          refine AOps.guardT rfl rfl rfl hb1 ?_; refine AOps.neq rfl rfl rfl ?_
          refine AOps.pickF rfl hb1 rfl rfl ?_
          refine AOps.nil ?_
          refine thn_normal ?_
          simp only [and_f hb1, or_f hb1]
          exact Sub.env ⟨rfl, rfl, rfl, rfl, rfl, rfl, rfl, rfl, trivial⟩
      · refine AWP.iteB rfl h (fun hc12 h => ?_) (fun hc12 h => ?_)
        · refine AWP.seq ?_
          refine AWP.region ?_
          refine AOps.assign rfl rfl ?_
          refine AOps.nil ?_
          refine thn_normal ?_
          refine AWP.ret ?_
          refine thn_ret ?_
          have ej := Option.some.inj h
          subst ej
          exact Done.ret rfl rfl
        · refine AWP.skip ?_
          refine thn_normal ?_
          refine AWP.seq ?_
          refine AWP.region ?_
          refine AOps.assign rfl rfl ?_
          refine AOps.nil ?_
          refine thn_normal ?_
          refine AWP.seq ?_
          refine AWP.seq ?_
          refine AWP.region ?_
          refine AOps.assign rfl rfl ?_
          refine AOps.nil ?_
          refine thn_normal ?_
          refine AWP.block ?_
          refine AWP.virtV 1 intI 15 rfl rfl rfl ?_
          obtain ⟨oo, ho1, h⟩ := bind_some h
          refine AWP.rngS ho1 (fun p14 c13 => ⟨[(1, .c (int player)), (2, .c (row 1 intI targets)), (3, .c (row 1 intI other)), (4, .c (int start)), (5, .c (.ptr 0 0 0)), (11, .c (row 1 intI a23.1)), (13, .c (row 1 intI a30.1)), (15, .c (.own 1 0 c13.length)), (16, .c (int p14))], [.one (.cells 2 [[row 1 intI gv.owner, row 2 eA2i64 gv.arcs]]), .one (vec 1 intI c13)]⟩) (fun o e st => match o with | .inl c13 => e = .exit 0 ∧ Sub [] st ⟨[(2, .c (row 1 intI targets)), (4, .c (int start)), (5, .c (.ptr 0 0 0)), (11, .c (row 1 intI a23.1)), (15, .c (.own 1 0 c13.length))], [.one (.cells 2 [[row 1 intI gv.owner, row 2 eA2i64 gv.arcs]]), .one (vec 1 intI c13)]⟩ | .inr x => e = .ret ∧ Done [.t 10] (fun t _ => t = .c (bool x)) .ret st) ?_ ?_ ?_ ?_
          · try dsimp only
            exact Sub.env ⟨rfl, rfl, rfl, rfl, rfl, rfl, rfl, (own_len (by first | rfl | simp only [List.length_set])), rfl, trivial⟩
          · intro p14 c13 hlop14 hltp14 _
            try dsimp only
            refine AWP.seq ?_
            refine AWP.seq ?_
            refine AWP.region ?_
            refine AOps.move rfl rfl ?_
            refine W.fieldAddr rfl rfl rfl rfl ?_
            refine AOps.load rfl rfl rfl rfl rfl rfl ?_
            refine S.len rfl rfl (fun hl76 => ?_)
            refine AOps.lss rfl rfl rfl ?_
            refine AOps.nil ?_
            refine thn_normal ?_
            refine AWP.condNP rfl hltp14 ?_
            refine AWP.exit ?_
            refine thn_exit ?_
            refine thn_exit ⟨rfl, ?_⟩
            exact Sub.env ⟨rfl, rfl, rfl, rfl, rfl, trivial⟩
          · intro p14 c13 o hlop14 hltp14 h
            unfold law8_GamesStrategyWins_l1 at h
            try dsimp only at h ⊢
            refine AWP.seq ?_
            refine AWP.seq ?_
            refine AWP.region ?_
            refine AOps.move rfl rfl ?_
            refine W.fieldAddr rfl rfl rfl rfl ?_
            refine AOps.load rfl rfl rfl rfl rfl rfl ?_
            refine S.len rfl rfl (fun hl76 => ?_)
            refine AOps.lss rfl rfl rfl ?_
            refine AOps.nil ?_
            refine thn_normal ?_
            refine AWP.condP rfl hltp14 ?_
            refine AWP.skip ?_
            refine thn_normal ?_
            refine AWP.seq ?_
            refine AWP.block ?_
            obtain ⟨c15, hx16, h⟩ := bind_some h
            refine AWP.seqJ (⟨[(1, .c (int player)), (2, .c (row 1 intI targets)), (3, .c (row 1 intI other)), (4, .c (int start)), (5, .c (.ptr 0 0 0)), (11, .c (row 1 intI a23.1)), (13, .c (row 1 intI a30.1)), (15, .c (.own 3 0 c15.length)), (16, .c (int p14))], [.one (.cells 2 [[row 1 intI gv.owner, row 2 eA2i64 gv.arcs]]), .dead, .dead, .one (vec 1 intI c15)]⟩) ?_ ?_
            · obtain ⟨t17, hx18, hx16⟩ := bind_some hx16
              refine AWP.seqJ (⟨[(1, .c (int player)), (2, .c (row 1 intI targets)), (3, .c (row 1 intI other)), (4, .c (int start)), (5, .c (.ptr 0 0 0)), (11, .c (row 1 intI a23.1)), (13, .c (row 1 intI a30.1)), (15, .c (.own 1 0 c13.length)), (16, .c (int p14)), (91, .c (bool t17))], [.one (.cells 2 [[row 1 intI gv.owner, row 2 eA2i64 gv.arcs]]), .one (vec 1 intI c13)]⟩) ?_ ?_
              · obtain ⟨a83, ha83, hx18⟩ := bind_some hx18
                rcases Bool.eq_false_or_eq_true (decide (a83 = player)) with hb19 | hb19
                · replace hx18 := iteDT hb19 hx18
                  refine AWP.region ?_
                  refine W.fieldAddr rfl rfl rfl rfl ?_
                  refine AOps.load rfl rfl rfl rfl rfl rfl ?_
                  refine AOps.move rfl rfl ?_
                  refine S.idx ha83 rfl rfl rfl rfl ?_
                  refine AOps.loadI rfl rfl rfl rfl ?_
                  refine AOps.move rfl rfl ?_
                  refine AOps.eql rfl rfl rfl ?_
                  refine AOps.move rfl rfl ?_
                  refine AOps.guardF rfl rfl rfl hb19 ?_
                  refine AOps.guardF rfl rfl rfl hb19 ?_
                  refine AOps.guardF rfl rfl rfl hb19 ?_
                  refine AOps.pickT rfl hb19 rfl rfl ?_
                  refine AOps.nil ?_
                  have ej := Option.some.inj hx18
                  subst ej
                  refine thn_normal ?_
                  exact Sub.env ⟨rfl, rfl, rfl, rfl, rfl, rfl, rfl, rfl, rfl, rfl, trivial⟩
                · replace hx18 := iteDF hb19 hx18
                  obtain ⟨a90, ha90, hx18⟩ := bind_some hx18
                  refine AWP.region ?_
                  refine W.fieldAddr rfl rfl rfl rfl ?_
                  refine AOps.load rfl rfl rfl rfl rfl rfl ?_
                  refine AOps.move rfl rfl ?_
                  refine S.idx ha83 rfl rfl rfl rfl ?_
                  refine AOps.loadI rfl rfl rfl rfl ?_
                  refine AOps.move rfl rfl ?_
                  refine AOps.eql rfl rfl rfl ?_
                  refine AOps.move rfl rfl ?_
                  refine AOps.guardT rfl rfl rfl hb19 ?_; refine AOps.move rfl rfl ?_
                  refine AOps.guardT rfl rfl rfl hb19 ?_; refine AOps.move rfl rfl ?_
                  refine AOps.guardT rfl rfl rfl hb19 ?_; refine AOps.callR rfl rfl rfl rfl (ref1_Has_ok ha90) rfl ?_
                  refine AOps.pickF rfl hb19 rfl rfl ?_
                  refine AOps.nil ?_
                  have ej := Option.some.inj hx18
                  subst ej
                  refine thn_normal ?_
                  exact Sub.env ⟨rfl, rfl, rfl, rfl, rfl, rfl, rfl, rfl, rfl, rfl, trivial⟩
              · refine AWP.iteB rfl hx16 (fun hc20 hx16 => ?_) (fun hc20 hx16 => ?_)
                · obtain ⟨a95, ha95, hx16⟩ := bind_some hx16
                  obtain ⟨a98, ha98, hx16⟩ := bind_some hx16
                  refine AWP.region ?_
                  refine AOps.move rfl rfl ?_
                  refine AOps.move rfl rfl ?_
                  refine AOps.move rfl rfl ?_
                  refine S.idx ha95 rfl rfl rfl rfl ?_
                  refine AOps.loadI rfl rfl rfl rfl ?_
                  refine S.lit (f := intI) (l := [a95]) (ess := [[int a95]]) rfl rfl rfl rfl rfl rfl rfl ⟨⟨.inl rfl, trivial⟩, trivial⟩ rfl rfl rfl ?_
                  refine S.append (f := intI) ha98 rfl rfl rfl rfl rfl rfl (.own rfl (by simp only [List.length_set])) rfl rfl rfl rfl ?_
                  refine AOps.assign rfl rfl ?_
                  refine AOps.nil ?_
                  have ej := Option.some.inj hx16
                  subst ej
                  refine thn_normal ?_
                  exact Sub.cut ⟨rfl, rfl, rfl, rfl, rfl, rfl, rfl, rfl, rfl, trivial⟩ rfl ⟨.one rfl, .dead, .dead, .vec, trivial⟩ rfl
                · obtain ⟨a102, ha102, hx16⟩ := bind_some hx16
                  obtain ⟨a105, ha105, hx16⟩ := bind_some hx16
                  refine AWP.region ?_
                  refine AOps.move rfl rfl ?_
                  refine AOps.move rfl rfl ?_
                  refine AOps.move rfl rfl ?_
                  refine S.idx ha102 rfl rfl rfl rfl ?_
                  refine AOps.loadI rfl rfl rfl rfl ?_
                  refine S.lit (f := intI) (l := [a102]) (ess := [[int a102]]) rfl rfl rfl rfl rfl rfl rfl ⟨⟨.inl rfl, trivial⟩, trivial⟩ rfl rfl rfl ?_
                  refine S.append (f := intI) ha105 rfl rfl rfl rfl rfl rfl (.own rfl (by simp only [List.length_set])) rfl rfl rfl rfl ?_
                  refine AOps.assign rfl rfl ?_
                  refine AOps.nil ?_
                  have ej := Option.some.inj hx16
                  subst ej
                  refine thn_normal ?_
                  exact Sub.cut ⟨rfl, rfl, rfl, rfl, rfl, rfl, rfl, rfl, rfl, trivial⟩ rfl ⟨.one rfl, .dead, .dead, .vec, trivial⟩ rfl
            · obtain ⟨t21, hx22, h⟩ := bind_some h
              refine AWP.seqJ (⟨[(1, .c (int player)), (2, .c (row 1 intI targets)), (3, .c (row 1 intI other)), (4, .c (int start)), (5, .c (.ptr 0 0 0)), (11, .c (row 1 intI a23.1)), (13, .c (row 1 intI a30.1)), (15, .c (.own 3 0 c15.length)), (16, .c (int p14)), (126, .c (bool t21))], [.one (.cells 2 [[row 1 intI gv.owner, row 2 eA2i64 gv.arcs]]), .dead, .dead, .one (vec 1 intI c15)]⟩) ?_ ?_
              · obtain ⟨a109, ha109, hx22⟩ := bind_some hx22
                rcases Bool.eq_false_or_eq_true (!(decide (a109 = player))) with hb23 | hb23
                · replace hx22 := iteBT hb23 hx22
                  obtain ⟨a116, ha116, hx22⟩ := bind_some hx22
                  rcases Bool.eq_false_or_eq_true (decide (0 < a116)) with hb24 | hb24
                  · replace hx22 := iteDT hb24 hx22
                    obtain ⟨a123, ha123, hx22⟩ := bind_some hx22
                    refine AWP.region ?_
                    refine W.fieldAddr rfl rfl rfl rfl ?_
                    refine AOps.load rfl rfl rfl rfl rfl rfl ?_
                    refine AOps.move rfl rfl ?_
                    refine S.idx ha109 rfl rfl rfl rfl ?_
                    refine AOps.loadI rfl rfl rfl rfl ?_
                    refine AOps.move rfl rfl ?_
                    refine AOps.neq rfl rfl rfl ?_
                    refine AOps.move rfl rfl ?_
                    refine AOps.guardT rfl rfl rfl hb23 ?_; refine AOps.move rfl rfl ?_
                    refine AOps.guardT rfl rfl rfl hb23 ?_; refine AOps.move rfl rfl ?_
                    refine AOps.guardT rfl rfl rfl hb23 ?_; refine S.idx ha116 rfl rfl rfl rfl ?_
                    refine AOps.guardT rfl rfl rfl hb23 ?_; refine AOps.loadI rfl rfl rfl rfl ?_
                    refine AOps.guardT rfl rfl rfl hb23 ?_; refine AOps.gtr rfl rfl rfl ?_
                    refine AOps.pickT rfl hb23 rfl rfl ?_
                    refine AOps.move rfl rfl ?_
                    refine AOps.guardT rfl rfl rfl hb24 ?_; refine AOps.move rfl rfl ?_
                    refine AOps.guardT rfl rfl rfl hb24 ?_; refine AOps.move rfl rfl ?_
                    refine AOps.guardT rfl rfl rfl hb24 ?_; refine S.idx ha123 rfl rfl rfl rfl ?_
                    refine AOps.guardT rfl rfl rfl hb24 ?_; refine AOps.loadI rfl rfl rfl rfl ?_
                    refine AOps.guardT rfl rfl rfl hb24 ?_; refine AOps.lss rfl rfl rfl ?_
                    refine AOps.pickT rfl hb24 rfl rfl ?_
                    refine AOps.nil ?_
                    have ej := Option.some.inj hx22
                    subst ej
                    refine thn_normal ?_
                    exact Sub.env ⟨rfl, rfl, rfl, rfl, rfl, rfl, rfl, rfl, rfl, rfl, trivial⟩
                  · replace hx22 := iteDF hb24 hx22
                    refine AWP.region ?_
                    refine W.fieldAddr rfl rfl rfl rfl ?_
                    refine AOps.load rfl rfl rfl rfl rfl rfl ?_
                    refine AOps.move rfl rfl ?_
                    refine S.idx ha109 rfl rfl rfl rfl ?_
                    refine AOps.loadI rfl rfl rfl rfl ?_
                    refine AOps.move rfl rfl ?_
                    refine AOps.neq rfl rfl rfl ?_
                    refine AOps.move rfl rfl ?_
                    refine AOps.guardT rfl rfl rfl hb23 ?_; refine AOps.move rfl rfl ?_
                    refine AOps.guardT rfl rfl rfl hb23 ?_; refine AOps.move rfl rfl ?_
                    refine AOps.guardT rfl rfl rfl hb23 ?_; refine S.idx ha116 rfl rfl rfl rfl ?_
                    refine AOps.guardT rfl rfl rfl hb23 ?_; refine AOps.loadI rfl rfl rfl rfl ?_
                    refine AOps.guardT rfl rfl rfl hb23 ?_; refine AOps.gtr rfl rfl rfl ?_
                    refine AOps.pickT rfl hb23 rfl rfl ?_
                    refine AOps.move rfl rfl ?_
                    refine AOps.guardF rfl rfl rfl hb24 ?_
                    refine AOps.guardF rfl rfl rfl hb24 ?_
                    refine AOps.guardF rfl rfl rfl hb24 ?_
                    refine AOps.guardF rfl rfl rfl hb24 ?_
                    refine AOps.guardF rfl rfl rfl hb24 ?_
                    refine AOps.pickF rfl hb24 rfl rfl ?_
                    refine AOps.nil ?_
                    have ej := Option.some.inj hx22
                    subst ej
                    refine thn_normal ?_
                    exact Sub.env ⟨rfl, rfl, rfl, rfl, rfl, rfl, rfl, rfl, rfl, rfl, trivial⟩
                · replace hx22 := iteBF hb23 hx22
                  refine AWP.region ?_
                  refine W.fieldAddr rfl rfl rfl rfl ?_
                  refine AOps.load rfl rfl rfl rfl rfl rfl ?_
                  refine AOps.move rfl rfl ?_
                  refine S.idx ha109 rfl rfl rfl rfl ?_
                  refine AOps.loadI rfl rfl rfl rfl ?_
                  refine AOps.move rfl rfl ?_
                  refine AOps.neq rfl rfl rfl ?_
                  refine AOps.move rfl rfl ?_
                  refine AOps.guardF rfl rfl rfl hb23 ?_
                  refine AOps.guardF rfl rfl rfl hb23 ?_
                  refine AOps.guardF rfl rfl rfl hb23 ?_
                  refine AOps.guardF rfl rfl rfl hb23 ?_
                  refine AOps.guardF rfl rfl rfl hb23 ?_
                  refine AOps.pickF rfl hb23 rfl rfl ?_
                  refine AOps.move rfl rfl ?_
                  refine AOps.guardF rfl rfl rfl rfl ?_
                  refine AOps.guardF rfl rfl rfl rfl ?_
                  refine AOps.guardF rfl rfl rfl rfl ?_
                  refine AOps.guardF rfl rfl rfl rfl ?_
                  refine AOps.guardF rfl rfl rfl rfl ?_
                  refine AOps.pickF rfl rfl rfl rfl ?_
                  refine AOps.nil ?_
                  have ej := Option.some.inj hx22
                  subst ej
                  refine thn_normal ?_
                  exact Sub.env ⟨rfl, rfl, rfl, rfl, rfl, rfl, rfl, rfl, rfl, rfl, trivial⟩
              · refine AWP.iteB rfl h (fun hc25 h => ?_) (fun hc25 h => ?_)
                · refine AWP.seq ?_
                  obtain ⟨a127, ha127, h⟩ := bind_some h
                  refine AWP.region ?_
                  refine AOps.callR rfl rfl rfl rfl (law8_forced_ok ha127) rfl ?_
                  refine AOps.assign rfl rfl ?_
                  refine AOps.nil ?_
                  refine thn_normal ?_
                  refine AWP.ret ?_
                  refine inB_ret ?_
                  refine thn_ret ?_
                  have ej := Option.some.inj h
                  subst ej
                  refine thn_ret ⟨_, rfl, rfl, ?_⟩
                  exact Done.ret rfl rfl
                · refine AWP.skip ?_
                  refine inB_normal ?_
                  refine thn_normal ?_
                  refine AWP.region ?_
                  refine AOps.move rfl rfl ?_
                  refine AOps.add rfl rfl rfl (by omega) ?_
                  refine AOps.assign rfl rfl ?_
                  refine AOps.nil ?_
                  have ej := Option.some.inj h
                  subst ej
                  refine thn_normal ⟨_, rfl, ?_⟩
                  exact (Sub.move (env' := [(1, .c (int player)), (2, .c (row 1 intI targets)), (3, .c (row 1 intI other)), (4, .c (int start)), (5, .c (.ptr 0 0 0)), (11, .c (row 1 intI a23.1)), (13, .c (row 1 intI a30.1)), (15, .c (.own 1 0 c15.length)), (16, .c (int (p14 + 1)))]) (σ' := [.one (.cells 2 [[row 1 intI gv.owner, row 2 eA2i64 gv.arcs]]), .one (vec 1 intI c15), .dead]) 1 3 rfl rfl rfl ⟨rfl, rfl, rfl, rfl, rfl, rfl, rfl, rfl, rfl, trivial⟩ rfl ⟨⟨rfl, rfl⟩, ⟨Blk.im_ok _ _ _, vec_mv rfl⟩, trivial, trivial⟩).trans (Sub.cut ⟨rfl, rfl, rfl, rfl, rfl, rfl, rfl, rfl, rfl, trivial⟩ rfl ⟨.one rfl, .vec, trivial⟩ rfl)
          · intro e s hq
            rcases oo with c13 | x
            · try dsimp only at h hq
              obtain ⟨rfl, hs⟩ := hq
              refine ⟨_, hs, ?_⟩
              refine inB_exit ?_
              refine thn_normal ?_
              refine AWP.seq ?_
              refine AWP.seq ?_
              obtain ⟨a130, ha130, h⟩ := bind_some h
              refine AWP.region ?_
              refine AOps.move rfl rfl ?_
              refine AOps.move rfl rfl ?_
              refine S.idx ha130 rfl rfl rfl rfl ?_
              refine AOps.loadI rfl rfl rfl rfl ?_
              refine AOps.lss rfl rfl rfl ?_
              refine AOps.nil ?_
              refine thn_normal ?_
              refine AWP.ite rfl h (fun hc26 h => ?_) (fun hc26 h => ?_)
              · refine AWP.seq ?_
                obtain ⟨a133, ha133, h⟩ := bind_some h
                refine AWP.region ?_
                refine AOps.callR rfl rfl rfl rfl (law8_forced_ok ha133) rfl ?_
                refine AOps.assign rfl rfl ?_
                refine AOps.nil ?_
                refine thn_normal ?_
                refine AWP.ret ?_
                refine thn_ret ?_
                have ej := Option.some.inj h
                subst ej
                exact Done.ret rfl rfl
              · refine AWP.skip ?_
                refine thn_normal ?_
                refine AWP.seq ?_
                refine AWP.frzV (env2 := [(2, .c (row 1 intI targets)), (4, .c (int start)), (5, .c (.ptr 0 0 0)), (11, .c (row 1 intI a23.1)), (15, .c (row 1 intI c13))]) (σ2 := [.one (.cells 2 [[row 1 intI gv.owner, row 2 eA2i64 gv.arcs]]), .dead]) rfl rfl ⟨⟨_, rfl, .inl ⟨rfl, rfl⟩⟩, ⟨_, rfl, .inl ⟨rfl, rfl⟩⟩, ⟨_, rfl, .inl ⟨rfl, rfl⟩⟩, ⟨_, rfl, .inl ⟨rfl, rfl⟩⟩, ⟨_, rfl, .inr ⟨_, rfl, rfl, rfl⟩⟩, trivial⟩ rfl ⟨⟨rfl, .inl ⟨rfl, rfl⟩, .inl ⟨rfl, rfl⟩, trivial⟩, trivial, trivial⟩ ?_
                obtain ⟨a140, ha140, h⟩ := bind_some h
                obtain ⟨a142, ha142, h⟩ := bind_some h
                refine AWP.drawEI [11, 13] mixed rfl rfl rfl ?_
                apply DrawSeqE.consN; exact rfl; exact rfl; intro E
                refine W.loadAgg rfl rfl rfl rfl rfl rfl rfl ?_
                exact AOps.nil ⟨rfl, rfl⟩
                exact rfl
                apply DrawSeqE.consN; exact rfl; exact rfl; intro E
                refine AOps.move rfl rfl ?_
                exact AOps.nil ⟨rfl, rfl⟩
                exact rfl
                apply DrawSeqE.consN; exact rfl; exact rfl; intro E
                refine AOps.move rfl rfl ?_
                exact AOps.nil ⟨rfl, rfl⟩
                exact rfl
                apply DrawSeqE.consN; exact rfl; exact rfl; intro E
                refine AOps.move rfl rfl ?_
                exact AOps.nil ⟨rfl, rfl⟩
                exact rfl
                apply DrawSeqE.consN; exact rfl; exact rfl; intro E
                refine AOps.move rfl rfl ?_
                exact AOps.nil ⟨rfl, rfl⟩
                exact rfl
                apply DrawSeqE.consN; exact rfl; exact rfl; intro E
                refine S.idx ha140 rfl rfl rfl rfl ?_
                exact AOps.nil ⟨rfl, rfl⟩
                exact rfl
                apply DrawSeqE.consN; exact rfl; exact rfl; intro E
                refine AOps.loadI rfl rfl rfl rfl ?_
                exact AOps.nil ⟨rfl, rfl⟩
                exact rfl
                apply DrawSeqE.consN; exact rfl; exact rfl; intro E
                refine AOps.callR rfl rfl rfl rfl (games_Play_ok ha142) rfl ?_
                exact AOps.nil ⟨rfl, rfl⟩
                exact rfl
                apply DrawSeqE.consN; exact rfl; exact rfl; intro E
                refine AOps.move rfl rfl ?_
                exact AOps.nil ⟨rfl, rfl⟩
                exact rfl
                apply DrawSeqE.consN; exact rfl; exact rfl; intro E
                refine AOps.extract rfl rfl rfl ?_
                exact AOps.nil ⟨rfl, rfl⟩
                exact rfl
                apply DrawSeqE.consN; exact rfl; exact rfl; intro E
                refine AOps.extract rfl rfl rfl ?_
                exact AOps.nil ⟨rfl, rfl⟩
                exact rfl
                apply DrawSeqE.consE; exact rfl; exact rfl; intro E
                refine W.alloc rfl rfl rfl rfl ?_
                exact AOps.nil ⟨rfl, rfl⟩
                exact rfl
                exact rfl
                apply DrawSeqE.consN; exact rfl; exact rfl; intro E
                refine AOps.assign rfl rfl ?_
                exact AOps.nil ⟨rfl, rfl⟩
                exact rfl
                apply DrawSeqE.consE (v := .undef); exact rfl; exact rfl; intro E
                refine W.storeAgg rfl rfl rfl rfl rfl rfl rfl ?_
                exact AOps.nil ⟨rfl, rfl⟩
                exact rfl
                exact rfl
                refine DrawSeqE.done rfl ?_ ?_
                · apply RestI.cons; exact rfl; exact rfl
                  first | refine RestK.skip rfl ?_ | (apply RestK.go; exact rfl; exact rfl; intro E; (refine W.loadAgg rfl rfl rfl rfl rfl rfl rfl ?_); exact AOps.nil ⟨rfl, rfl⟩)
                  first | refine RestK.skip rfl ?_ | (apply RestK.go; exact rfl; exact rfl; intro E; (refine W.loadAgg rfl rfl rfl rfl rfl rfl rfl ?_); exact AOps.nil ⟨rfl, rfl⟩)
                  first | refine RestK.skip rfl ?_ | (apply RestK.go; exact rfl; exact rfl; intro E; (refine W.loadAgg rfl rfl rfl rfl rfl rfl rfl ?_); exact AOps.nil ⟨rfl, rfl⟩)
                  exact RestK.nil
                  apply RestI.cons; exact rfl; exact rfl
                  first | refine RestK.skip rfl ?_ | (apply RestK.go; exact rfl; exact rfl; intro E; (refine AOps.move rfl rfl ?_); exact AOps.nil ⟨rfl, rfl⟩)
                  first | refine RestK.skip rfl ?_ | (apply RestK.go; exact rfl; exact rfl; intro E; (refine AOps.move rfl rfl ?_); exact AOps.nil ⟨rfl, rfl⟩)
                  first | refine RestK.skip rfl ?_ | (apply RestK.go; exact rfl; exact rfl; intro E; (refine AOps.move rfl rfl ?_); exact AOps.nil ⟨rfl, rfl⟩)
                  exact RestK.nil
                  apply RestI.cons; exact rfl; exact rfl
                  first | refine RestK.skip rfl ?_ | (apply RestK.go; exact rfl; exact rfl; intro E; (refine AOps.move rfl rfl ?_); exact AOps.nil ⟨rfl, rfl⟩)
                  first | refine RestK.skip rfl ?_ | (apply RestK.go; exact rfl; exact rfl; intro E; (refine AOps.move rfl rfl ?_); exact AOps.nil ⟨rfl, rfl⟩)
                  first | refine RestK.skip rfl ?_ | (apply RestK.go; exact rfl; exact rfl; intro E; (refine AOps.move rfl rfl ?_); exact AOps.nil ⟨rfl, rfl⟩)
                  exact RestK.nil
                  apply RestI.cons; exact rfl; exact rfl
                  first | refine RestK.skip rfl ?_ | (apply RestK.go; exact rfl; exact rfl; intro E; (refine AOps.move rfl rfl ?_); exact AOps.nil ⟨rfl, rfl⟩)
                  first | refine RestK.skip rfl ?_ | (apply RestK.go; exact rfl; exact rfl; intro E; (refine AOps.move rfl rfl ?_); exact AOps.nil ⟨rfl, rfl⟩)
                  first | refine RestK.skip rfl ?_ | (apply RestK.go; exact rfl; exact rfl; intro E; (refine AOps.move rfl rfl ?_); exact AOps.nil ⟨rfl, rfl⟩)
                  exact RestK.nil
                  apply RestI.cons; exact rfl; exact rfl
                  first | refine RestK.skip rfl ?_ | (apply RestK.go; exact rfl; exact rfl; intro E; (refine AOps.move rfl rfl ?_); exact AOps.nil ⟨rfl, rfl⟩)
                  first | refine RestK.skip rfl ?_ | (apply RestK.go; exact rfl; exact rfl; intro E; (refine AOps.move rfl rfl ?_); exact AOps.nil ⟨rfl, rfl⟩)
                  first | refine RestK.skip rfl ?_ | (apply RestK.go; exact rfl; exact rfl; intro E; (refine AOps.move rfl rfl ?_); exact AOps.nil ⟨rfl, rfl⟩)
                  exact RestK.nil
                  apply RestI.cons; exact rfl; exact rfl
                  first | refine RestK.skip rfl ?_ | (apply RestK.go; exact rfl; exact rfl; intro E; (refine S.idx ha140 rfl rfl rfl rfl ?_); exact AOps.nil ⟨rfl, rfl⟩)
                  first | refine RestK.skip rfl ?_ | (apply RestK.go; exact rfl; exact rfl; intro E; (refine S.idx ha140 rfl rfl rfl rfl ?_); exact AOps.nil ⟨rfl, rfl⟩)
                  first | refine RestK.skip rfl ?_ | (apply RestK.go; exact rfl; exact rfl; intro E; (refine S.idx ha140 rfl rfl rfl rfl ?_); exact AOps.nil ⟨rfl, rfl⟩)
                  exact RestK.nil
                  apply RestI.cons; exact rfl; exact rfl
                  first | refine RestK.skip rfl ?_ | (apply RestK.go; exact rfl; exact rfl; intro E; (refine AOps.loadI rfl rfl rfl rfl ?_); exact AOps.nil ⟨rfl, rfl⟩)
                  first | refine RestK.skip rfl ?_ | (apply RestK.go; exact rfl; exact rfl; intro E; (refine AOps.loadI rfl rfl rfl rfl ?_); exact AOps.nil ⟨rfl, rfl⟩)
                  first | refine RestK.skip rfl ?_ | (apply RestK.go; exact rfl; exact rfl; intro E; (refine AOps.loadI rfl rfl rfl rfl ?_); exact AOps.nil ⟨rfl, rfl⟩)
                  exact RestK.nil
                  apply RestI.cons; exact rfl; exact rfl
                  first | refine RestK.skip rfl ?_ | (apply RestK.go; exact rfl; exact rfl; intro E; (refine AOps.callR rfl rfl rfl rfl (games_Play_ok ha142) rfl ?_); exact AOps.nil ⟨rfl, rfl⟩)
                  first | refine RestK.skip rfl ?_ | (apply RestK.go; exact rfl; exact rfl; intro E; (refine AOps.callR rfl rfl rfl rfl (games_Play_ok ha142) rfl ?_); exact AOps.nil ⟨rfl, rfl⟩)
                  first | refine RestK.skip rfl ?_ | (apply RestK.go; exact rfl; exact rfl; intro E; (refine AOps.callR rfl rfl rfl rfl (games_Play_ok ha142) rfl ?_); exact AOps.nil ⟨rfl, rfl⟩)
                  exact RestK.nil
                  apply RestI.cons; exact rfl; exact rfl
                  first | refine RestK.skip rfl ?_ | (apply RestK.go; exact rfl; exact rfl; intro E; (refine AOps.move rfl rfl ?_); exact AOps.nil ⟨rfl, rfl⟩)
                  first | refine RestK.skip rfl ?_ | (apply RestK.go; exact rfl; exact rfl; intro E; (refine AOps.move rfl rfl ?_); exact AOps.nil ⟨rfl, rfl⟩)
                  first | refine RestK.skip rfl ?_ | (apply RestK.go; exact rfl; exact rfl; intro E; (refine AOps.move rfl rfl ?_); exact AOps.nil ⟨rfl, rfl⟩)
                  exact RestK.nil
                  apply RestI.cons; exact rfl; exact rfl
                  first | refine RestK.skip rfl ?_ | (apply RestK.go; exact rfl; exact rfl; intro E; (refine AOps.extract rfl rfl rfl ?_); exact AOps.nil ⟨rfl, rfl⟩)
                  first | refine RestK.skip rfl ?_ | (apply RestK.go; exact rfl; exact rfl; intro E; (refine AOps.extract rfl rfl rfl ?_); exact AOps.nil ⟨rfl, rfl⟩)
                  first | refine RestK.skip rfl ?_ | (apply RestK.go; exact rfl; exact rfl; intro E; (refine AOps.extract rfl rfl rfl ?_); exact AOps.nil ⟨rfl, rfl⟩)
                  exact RestK.nil
                  apply RestI.cons; exact rfl; exact rfl
                  first | refine RestK.skip rfl ?_ | (apply RestK.go; exact rfl; exact rfl; intro E; (refine AOps.extract rfl rfl rfl ?_); exact AOps.nil ⟨rfl, rfl⟩)
                  first | refine RestK.skip rfl ?_ | (apply RestK.go; exact rfl; exact rfl; intro E; (refine AOps.extract rfl rfl rfl ?_); exact AOps.nil ⟨rfl, rfl⟩)
                  first | refine RestK.skip rfl ?_ | (apply RestK.go; exact rfl; exact rfl; intro E; (refine AOps.extract rfl rfl rfl ?_); exact AOps.nil ⟨rfl, rfl⟩)
                  exact RestK.nil
                  refine RestI.skip rfl ?_
                  apply RestI.cons; exact rfl; exact rfl
                  first | refine RestK.skip rfl ?_ | (apply RestK.go; exact rfl; exact rfl; intro E; (refine AOps.assign rfl rfl ?_); exact AOps.nil ⟨rfl, rfl⟩)
                  first | refine RestK.skip rfl ?_ | (apply RestK.go; exact rfl; exact rfl; intro E; (refine AOps.assign rfl rfl ?_); exact AOps.nil ⟨rfl, rfl⟩)
                  first | refine RestK.skip rfl ?_ | (apply RestK.go; exact rfl; exact rfl; intro E; (refine AOps.assign rfl rfl ?_); exact AOps.nil ⟨rfl, rfl⟩)
                  exact RestK.nil
                  refine RestI.skip rfl ?_
                  exact RestI.nil
                dsimp only [envEnd]
                refine thn_normal ?_
                refine AWP.seq ?_
                refine AWP.seq ?_
                refine AWP.region ?_
                refine W.fieldAddr rfl rfl rfl rfl ?_
                refine AOps.load rfl rfl rfl rfl rfl rfl ?_
                refine AOps.neq rfl rfl rfl ?_
                refine AOps.nil ?_
                refine thn_normal ?_
                refine AWP.iteN rfl h (fun hc27 h => ?_) (fun hc27 h => ?_)
                · obtain ⟨t28, hx29, h⟩ := bind_some h
                  refine AWP.seqJ (⟨[(10, .c (bool t28))], []⟩) ?_ ?_
                  · rcases Bool.eq_false_or_eq_true (decide (a142.2.code = 6)) with hb30 | hb30
                    · replace hx29 := iteDT hb30 hx29
                      obtain ⟨a152, ha152, hx29⟩ := bind_some hx29
                      refine AWP.region ?_
                      refine W.fieldAddr rfl rfl rfl rfl ?_
                      refine AOps.load rfl rfl rfl rfl rfl rfl ?_
                      refine AOps.eql rfl rfl rfl ?_
                      refine AOps.move rfl rfl ?_
                      refine AOps.guardT rfl rfl rfl hb30 ?_; refine AOps.callR rfl rfl rfl rfl (law8_forced_ok ha152) rfl ?_
                      refine AOps.pickT rfl hb30 rfl rfl ?_
                      refine AOps.assign rfl rfl ?_
                      refine AOps.nil ?_
                      have ej := Option.some.inj hx29
                      subst ej
                      refine thn_normal ?_
                      exact Sub.cut ⟨rfl, trivial⟩ rfl trivial rfl
                    · replace hx29 := iteDF hb30 hx29
                      refine AWP.region ?_
                      refine W.fieldAddr rfl rfl rfl rfl ?_
                      refine AOps.load rfl rfl rfl rfl rfl rfl ?_
                      refine AOps.eql rfl rfl rfl ?_
                      refine AOps.move rfl rfl ?_
                      refine AOps.guardF rfl rfl rfl hb30 ?_
                      refine AOps.pickF rfl hb30 rfl rfl ?_
                      refine AOps.assign rfl rfl ?_
                      refine AOps.nil ?_
                      have ej := Option.some.inj hx29
                      subst ej
                      refine thn_normal ?_
                      exact Sub.cut ⟨rfl, trivial⟩ rfl trivial rfl
                  · refine AWP.ret ?_
                    refine thn_ret ?_
                    have ej := Option.some.inj h
                    subst ej
                    exact Done.ret rfl rfl
                · refine AWP.skip ?_
                  refine thn_normal ?_
                  obtain ⟨t31, hx32, h⟩ := bind_some h
                  refine AWP.seqJ (⟨[(10, .c (bool t31))], []⟩) ?_ ?_
                  · rcases Bool.eq_false_or_eq_true (decide (0 < (a142.1.length : Int))) with hb33 | hb33
                    · replace hx32 := iteDT hb33 hx32
                      obtain ⟨a163, ha163, hx32⟩ := bind_some hx32
                      obtain ⟨a165, ha165, hx32⟩ := bind_some hx32
                      rcases Bool.eq_false_or_eq_true (a165) with hb34 | hb34
                      · replace hx32 := iteBT hb34 hx32
                        obtain ⟨a168, ha168, hx32⟩ := bind_some hx32
                        refine AWP.region ?_
                        refine AOps.move rfl rfl ?_
                        refine S.len rfl rfl (fun hl155 => ?_)
                        refine AOps.gtr rfl rfl rfl ?_
                        refine AOps.move rfl rfl ?_
                        refine AOps.guardT rfl rfl rfl hb33 ?_; refine AOps.move rfl rfl ?_
                        refine AOps.guardT rfl rfl rfl hb33 ?_; refine AOps.move rfl rfl ?_
                        refine AOps.guardT rfl rfl rfl hb33 ?_; refine AOps.move rfl rfl ?_
                        refine AOps.guardT rfl rfl rfl hb33 ?_; refine S.len rfl rfl (fun hl161 => ?_)
                        refine AOps.guardT rfl rfl rfl hb33 ?_; refine AOps.sub' rfl rfl rfl (by omega) ?_
                        refine AOps.guardT rfl rfl rfl hb33 ?_; refine S.idx ha163 rfl rfl rfl rfl ?_
                        refine AOps.guardT rfl rfl rfl hb33 ?_; refine AOps.loadI rfl rfl rfl rfl ?_
                        refine AOps.guardT rfl rfl rfl hb33 ?_; refine AOps.callR rfl rfl rfl rfl (ref1_Has_ok ha165) rfl ?_
                        refine AOps.pickT rfl hb33 rfl rfl ?_
                        refine AOps.move rfl rfl ?_
                        refine AOps.guardT rfl rfl rfl hb34 ?_; refine AOps.callR rfl rfl rfl rfl (law8_forced_ok ha168) rfl ?_
                        refine AOps.pickT rfl hb34 rfl rfl ?_
                        refine AOps.assign rfl rfl ?_
                        refine AOps.nil ?_
                        have ej := Option.some.inj hx32
                        subst ej
                        refine thn_normal ?_
                        exact Sub.cut ⟨rfl, trivial⟩ rfl trivial rfl
                      · replace hx32 := iteBF hb34 hx32
                        refine AWP.region ?_
                        refine AOps.move rfl rfl ?_
                        refine S.len rfl rfl (fun hl155 => ?_)
                        refine AOps.gtr rfl rfl rfl ?_
                        refine AOps.move rfl rfl ?_
                        refine AOps.guardT rfl rfl rfl hb33 ?_; refine AOps.move rfl rfl ?_
                        refine AOps.guardT rfl rfl rfl hb33 ?_; refine AOps.move rfl rfl ?_
                        refine AOps.guardT rfl rfl rfl hb33 ?_; refine AOps.move rfl rfl ?_
                        refine AOps.guardT rfl rfl rfl hb33 ?_; refine S.len rfl rfl (fun hl161 => ?_)
                        refine AOps.guardT rfl rfl rfl hb33 ?_; refine AOps.sub' rfl rfl rfl (by omega) ?_
                        refine AOps.guardT rfl rfl rfl hb33 ?_; refine S.idx ha163 rfl rfl rfl rfl ?_
                        refine AOps.guardT rfl rfl rfl hb33 ?_; refine AOps.loadI rfl rfl rfl rfl ?_
                        refine AOps.guardT rfl rfl rfl hb33 ?_; refine AOps.callR rfl rfl rfl rfl (ref1_Has_ok ha165) rfl ?_
                        refine AOps.pickT rfl hb33 rfl rfl ?_
                        refine AOps.move rfl rfl ?_
                        refine AOps.guardF rfl rfl rfl hb34 ?_
                        refine AOps.pickF rfl hb34 rfl rfl ?_
                        refine AOps.assign rfl rfl ?_
                        refine AOps.nil ?_
                        have ej := Option.some.inj hx32
                        subst ej
                        refine thn_normal ?_
                        exact Sub.cut ⟨rfl, trivial⟩ rfl trivial rfl
                    · replace hx32 := iteDF hb33 hx32
                      refine AWP.region ?_
                      refine AOps.move rfl rfl ?_
                      refine S.len rfl rfl (fun hl155 => ?_)
                      refine AOps.gtr rfl rfl rfl ?_
                      refine AOps.move rfl rfl ?_
                      refine AOps.guardF rfl rfl rfl hb33 ?_
                      refine AOps.guardF rfl rfl rfl hb33 ?_
                      refine AOps.guardF rfl rfl rfl hb33 ?_
                      refine AOps.guardF rfl rfl rfl hb33 ?_
                      refine AOps.guardF rfl rfl rfl hb33 ?_
                      refine AOps.guardF rfl rfl rfl hb33 ?_
                      refine AOps.guardF rfl rfl rfl hb33 ?_
                      refine AOps.guardF rfl rfl rfl hb33 ?_
                      refine AOps.pickF rfl hb33 rfl rfl ?_
                      refine AOps.move rfl rfl ?_
                      refine AOps.guardF rfl rfl rfl rfl ?_
                      refine AOps.pickF rfl rfl rfl rfl ?_
                      refine AOps.assign rfl rfl ?_
                      refine AOps.nil ?_
                      have ej := Option.some.inj hx32
                      subst ej
                      refine thn_normal ?_
                      exact Sub.cut ⟨rfl, trivial⟩ rfl trivial rfl
                  · refine AWP.ret ?_
                    have ej := Option.some.inj h
                    subst ej
                    exact Done.ret rfl rfl
            · try dsimp only at h hq
              obtain ⟨rfl, hs⟩ := hq
              refine ⟨_, Sub.refl _ _, ?_⟩
              refine inB_ret ?_
              refine thn_ret ?_
              have ej := Option.some.inj h
              subst ej
              exact hs

end Ab
