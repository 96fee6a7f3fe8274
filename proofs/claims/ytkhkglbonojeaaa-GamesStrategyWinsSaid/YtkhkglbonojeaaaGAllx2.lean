import Derived.Test.YtkhkglbonojeaaaGAllx1
namespace Ab
open Go Go.Proofs
set_option maxHeartbeats 4000000
set_option linter.all false
attribute [local irreducible] AWP AOps thn inB Done PureOk FreshOk Sub

def ref8_Ranked_l1 (targets : List Int) : Int → (List Int) → Option (List Int) := fun p5 c4 => Option.bind (Option.bind (ref1_Has targets p5) fun a30 => if (!a30) = true then Option.bind (ix c4 p5) fun a34 => some (c4.set p5.toNat 1000000000) else some c4) fun c6 => some c6
def ref8_Ranked_l4 (gv : TGame) (p15 : Int) (c13 : List Int) : Int → (Int × Int) → Option (Int × Int) := fun iv21 (low19, high20) => Option.bind (Option.bind (ix gv.arcs iv21) fun a51 => if a51.1 = p15 then Option.bind (ix gv.arcs iv21) fun a60 => Option.bind (ix c13 a60.2) fun a63 => Option.bind (if a63 < low19 then some a63 else some low19) fun low26 => if high20 < a63 then some (low26, a63) else some (low26, high20) else some (low19, high20)) fun ⟨low22, high23⟩ => some (low22, high23)
def ref8_Ranked_l3 (gv : TGame) (player : Int) : Int → ((List Int) × Bool) → Option ((List Int) × Bool) := fun p15 (c13, again14) => Option.bind ((Option.bind (forR 0 (gv.arcs.length : Int) (ref8_Ranked_l4 gv p15 c13) (1000000000, -1)) fun ⟨low19, high20⟩ => Option.bind (Option.bind (ix gv.owner p15) fun a77 => if a77 = player then some low19 else some high20) fun v30 => Option.bind (if 0 ≤ high20 then Option.bind (ix c13 p15) fun a89 => some (decide (w64 (v30 + 1) < a89)) else some false) fun t33 => if t33 = true then Option.bind (ix c13 p15) fun a97 => some (c13.set p15.toNat (w64 (v30 + 1)), true) else some (c13, again14))) fun ⟨c16, again17⟩ => some (c16, again17)
def ref8_Ranked_l2 (gv : TGame) (player : Int) : ((List Int) × Bool) → Option (((List Int) × Bool) ⊕ (List Int)) := fun (c9, again10) => if again10 = true then (Option.bind (forR 0 (gv.owner.length : Int) (ref8_Ranked_l3 gv player) (c9, false)) fun ⟨c13, again14⟩ => some (.inl (c13, again14))) else some (.inr c9)
def ref8_Ranked_l5 : Int → (List Int) → Option (List Int) := fun p38 c37 => Option.bind (Option.bind (ix c37 p38) fun a105 => if 1000000000 ≤ a105 then Option.bind (ix c37 p38) fun a110 => some (c37.set p38.toNat (-1)) else some c37) fun c39 => some c39
noncomputable def ref8_Ranked (gv : TGame) (player : Int) (targets : List Int) : Option (List Int) := Option.bind (mkL 8 (gv.owner.length : Int) 0) fun a22 => (Option.bind (forR 0 (gv.owner.length : Int) (ref8_Ranked_l1 targets) a22) fun c4 => Option.bind (Loop (ref8_Ranked_l2 gv player) (c4, true)) fun c11 => (Option.bind (forR 0 (gv.owner.length : Int) ref8_Ranked_l5 c11) fun c37 => some c37))
theorem ref8_Ranked_ok {gv : TGame} {player : Int} {targets : List Int} {r : (List Int)} (h : ref8_Ranked gv player targets = some r) : FreshOk Try.prog 17 [.agg [row 1 intI gv.owner, row 2 eA2i64 gv.arcs], .c (int player), .c (row 1 intI targets)] 1 (List.map intI r) := by
  unfold FreshOk
  refine FnOk.enter (rs := [.t 6]) Try.func17 rfl Try.ntmps17 Try.results17 rfl ⟨trivial, trivial⟩ (by kernel_rfl) rfl ?_
  unfold ref8_Ranked at h
  refine AWP.seq ?_
  refine AWP.region ?_
  refine W.box rfl rfl rfl rfl rfl rfl ?_
  refine AOps.assign rfl rfl ?_
  refine AOps.nil ?_
  refine thn_normal ?_
  refine AWP.seq ?_
  refine AWP.region ?_
  refine W.fieldAddr rfl rfl rfl rfl ?_
  refine AOps.load rfl rfl rfl rfl rfl rfl ?_
  refine S.len rfl rfl (fun hl20 => ?_)
  refine AOps.assign rfl rfl ?_
  refine AOps.nil ?_
  refine thn_normal ?_
  refine AWP.seq ?_
  obtain ⟨a22, ha22, h⟩ := bind_some h
  refine AWP.region ?_
  refine AOps.move rfl rfl ?_
  refine S.make (f := intI) ha22 (.val .nil) rfl rfl rfl rfl rfl rfl ?_
  refine AOps.assign rfl rfl ?_
  refine AOps.nil ?_
  refine thn_normal ?_
  refine AWP.seq ?_
  refine AWP.seq ?_
  refine AWP.region ?_
  refine AOps.assign rfl rfl ?_
  refine AOps.nil ?_
  refine thn_normal ?_
  refine AWP.block ?_
  obtain ⟨c4, ho1, h⟩ := bind_some h
  refine AWP.forS ho1 (fun p5 c4 => ⟨[(1, .c (int player)), (2, .c (row 1 intI targets)), (3, .c (.ptr 0 0 0)), (7, .c (int (gv.owner.length : Int))), (8, .c (.own 1 0 c4.length)), (9, .c (int p5))], [.one (.cells 2 [[row 1 intI gv.owner, row 2 eA2i64 gv.arcs]]), .one (vec 1 intI c4)]⟩) (fun c4 e st => e = .exit 0 ∧ Sub [] st ⟨[(1, .c (int player)), (3, .c (.ptr 0 0 0)), (7, .c (int (gv.owner.length : Int))), (8, .c (.own 1 0 c4.length))], [.one (.cells 2 [[row 1 intI gv.owner, row 2 eA2i64 gv.arcs]]), .one (vec 1 intI c4)]⟩) ?_ ?_ ?_ ?_
  · try dsimp only
    exact Sub.env ⟨rfl, rfl, rfl, rfl, rfl, rfl, trivial⟩
  · intro p5 c4 hlop5 hltp5 _
    try dsimp only
    refine AWP.seq ?_
    refine AWP.seq ?_
    refine AWP.region ?_
    refine AOps.move rfl rfl ?_
    refine AOps.move rfl rfl ?_
    refine AOps.lss rfl rfl rfl ?_
    refine AOps.nil ?_
    refine thn_normal ?_
    refine AWP.condNP rfl hltp5 ?_
    refine AWP.exit ?_
    refine thn_exit ?_
    refine thn_exit ⟨rfl, ?_⟩
    exact Sub.env ⟨rfl, rfl, rfl, rfl, trivial⟩
  · intro p5 c4 o hlop5 hltp5 h
    unfold ref8_Ranked_l1 at h
    try dsimp only at h ⊢
    refine AWP.seq ?_
    refine AWP.seq ?_
    refine AWP.region ?_
    refine AOps.move rfl rfl ?_
    refine AOps.move rfl rfl ?_
    refine AOps.lss rfl rfl rfl ?_
    refine AOps.nil ?_
    refine thn_normal ?_
    refine AWP.condP rfl hltp5 ?_
    refine AWP.skip ?_
    refine thn_normal ?_
    obtain ⟨c6, hx7, h⟩ := bind_some h
    refine AWP.seqJ (⟨[(1, .c (int player)), (2, .c (row 1 intI targets)), (3, .c (.ptr 0 0 0)), (7, .c (int (gv.owner.length : Int))), (8, .c (.own 1 0 c6.length)), (9, .c (int p5))], [.one (.cells 2 [[row 1 intI gv.owner, row 2 eA2i64 gv.arcs]]), .one (vec 1 intI c6)]⟩) ?_ ?_
    · refine AWP.block ?_
      refine AWP.seq ?_
      obtain ⟨a30, ha30, hx7⟩ := bind_some hx7
      refine AWP.region ?_
      refine AOps.move rfl rfl ?_
      refine AOps.move rfl rfl ?_
      refine AOps.callR rfl rfl rfl rfl (ref1_Has_ok ha30) rfl ?_
      refine AOps.not rfl rfl ?_
      refine AOps.nil ?_
      refine thn_normal ?_
      refine AWP.iteB rfl hx7 (fun hc8 hx7 => ?_) (fun hc8 hx7 => ?_)
      · obtain ⟨a34, ha34, hx7⟩ := bind_some hx7
        refine AWP.region ?_
        refine AOps.move rfl rfl ?_
        refine AOps.move rfl rfl ?_
        refine S.idxO ha34 rfl rfl rfl rfl rfl ?_
        refine S.storeO1 (f := intI) (a' := 1000000000) (ix_lt ha34) (fun _ => ⟨_, rfl⟩) rfl rfl rfl rfl rfl ?_
        refine AOps.nil ?_
        refine inB_normal ?_
        have ej := Option.some.inj hx7
        subst ej
        refine thn_normal ?_
        exact Sub.env ⟨rfl, rfl, rfl, rfl, (own_len (by first | rfl | simp only [List.length_set])), rfl, trivial⟩
      · refine AWP.skip ?_
        refine inB_normal ?_
        have ej := Option.some.inj hx7
        subst ej
        refine thn_normal ?_
        exact Sub.env ⟨rfl, rfl, rfl, rfl, rfl, rfl, trivial⟩
    · refine AWP.region ?_
      refine AOps.move rfl rfl ?_
      refine AOps.add rfl rfl rfl (by omega) ?_
      refine AOps.assign rfl rfl ?_
      refine AOps.nil ?_
      have ej := Option.some.inj h
      subst ej
      refine thn_normal ?_
      exact Sub.env ⟨rfl, rfl, rfl, rfl, rfl, rfl, trivial⟩
  · intro e s hq
    obtain ⟨rfl, hs⟩ := hq
    refine ⟨_, hs, ?_⟩
    refine inB_exit ?_
    refine thn_normal ?_
    refine AWP.seq ?_
    refine AWP.seq ?_
    refine AWP.region ?_
    refine AOps.assign rfl rfl ?_
    refine AOps.nil ?_
    refine thn_normal ?_
    refine AWP.block ?_
    obtain ⟨c11, ho2, h⟩ := bind_some h
    refine AWP.loopS ho2 (fun (c9, again10) => ⟨[(1, .c (int player)), (3, .c (.ptr 0 0 0)), (7, .c (int (gv.owner.length : Int))), (8, .c (.own 1 0 c9.length)), (10, .c (bool again10))], [.one (.cells 2 [[row 1 intI gv.owner, row 2 eA2i64 gv.arcs]]), .one (vec 1 intI c9)]⟩) (fun c11 e st => e = .exit 2 ∧ Sub [] st ⟨[(7, .c (int (gv.owner.length : Int))), (8, .c (.own 1 0 c11.length))], [.dead, .one (vec 1 intI c11)]⟩) ?_ ?_ ?_
    · try dsimp only
      exact Sub.env ⟨rfl, rfl, rfl, rfl, rfl, trivial⟩
    · intro s o h
      obtain ⟨c9, again10⟩ := s
      unfold ref8_Ranked_l2 at h
      try dsimp only at h ⊢
      refine AWP.seq ?_
      refine AWP.seq ?_
      refine AWP.region ?_
      refine AOps.move rfl rfl ?_
      refine AOps.nil ?_
      refine thn_normal ?_
      refine AWP.iteB rfl h (fun hc12 h => ?_) (fun hc12 h => ?_)
      · refine AWP.skip ?_
        refine thn_normal ?_
        refine AWP.block ?_
        refine AWP.seq ?_
        refine AWP.region ?_
        refine AOps.assign rfl rfl ?_
        refine AOps.nil ?_
        refine thn_normal ?_
        refine AWP.seq ?_
        refine AWP.region ?_
        refine AOps.assign rfl rfl ?_
        refine AOps.nil ?_
        refine thn_normal ?_
        refine AWP.block ?_
        obtain ⟨⟨c13, again14⟩, ho3, h⟩ := bind_some h
        try dsimp only at h
        refine AWP.forS ho3 (fun p15 (c13, again14) => ⟨[(1, .c (int player)), (3, .c (.ptr 0 0 0)), (7, .c (int (gv.owner.length : Int))), (8, .c (.own 1 0 c13.length)), (10, .c (bool again14)), (11, .c (int p15))], [.one (.cells 2 [[row 1 intI gv.owner, row 2 eA2i64 gv.arcs]]), .one (vec 1 intI c13)]⟩) (fun (c13, again14) e st => e = .exit 4 ∧ Sub [] st ⟨[(1, .c (int player)), (3, .c (.ptr 0 0 0)), (7, .c (int (gv.owner.length : Int))), (8, .c (.own 1 0 c13.length)), (10, .c (bool again14))], [.one (.cells 2 [[row 1 intI gv.owner, row 2 eA2i64 gv.arcs]]), .one (vec 1 intI c13)]⟩) ?_ ?_ ?_ ?_
        · try dsimp only
          exact Sub.env ⟨rfl, rfl, rfl, rfl, rfl, rfl, trivial⟩
        · intro p15 s hlop15 hltp15 _
          obtain ⟨c13, again14⟩ := s
          try dsimp only
          refine AWP.seq ?_
          refine AWP.seq ?_
          refine AWP.region ?_
          refine AOps.move rfl rfl ?_
          refine AOps.move rfl rfl ?_
          refine AOps.lss rfl rfl rfl ?_
          refine AOps.nil ?_
          refine thn_normal ?_
          refine AWP.condNP rfl hltp15 ?_
          refine AWP.exit ?_
          refine thn_exit ?_
          refine thn_exit ⟨rfl, ?_⟩
          exact Sub.env ⟨rfl, rfl, rfl, rfl, rfl, trivial⟩
        · intro p15 s o hlop15 hltp15 h
          obtain ⟨c13, again14⟩ := s
          unfold ref8_Ranked_l3 at h
          try dsimp only at h ⊢
          refine AWP.seq ?_
          refine AWP.seq ?_
          refine AWP.region ?_
          refine AOps.move rfl rfl ?_
          refine AOps.move rfl rfl ?_
          refine AOps.lss rfl rfl rfl ?_
          refine AOps.nil ?_
          refine thn_normal ?_
          refine AWP.condP rfl hltp15 ?_
          refine AWP.skip ?_
          refine thn_normal ?_
          obtain ⟨⟨c16, again17⟩, hx18, h⟩ := bind_some h
          refine AWP.seqJ (⟨[(1, .c (int player)), (3, .c (.ptr 0 0 0)), (7, .c (int (gv.owner.length : Int))), (8, .c (.own 1 0 c16.length)), (10, .c (bool again17)), (11, .c (int p15))], [.one (.cells 2 [[row 1 intI gv.owner, row 2 eA2i64 gv.arcs]]), .one (vec 1 intI c16)]⟩) ?_ ?_
          · refine AWP.block ?_
            refine AWP.seq ?_
            refine AWP.region ?_
            refine AOps.assign rfl rfl ?_
            refine AOps.nil ?_
            refine thn_normal ?_
            refine AWP.seq ?_
            refine AWP.region ?_
            refine AOps.assign rfl rfl ?_
            refine AOps.nil ?_
            refine thn_normal ?_
            refine AWP.seq ?_
            refine AWP.seq ?_
            refine AWP.region ?_
            refine AOps.assign rfl rfl ?_
            refine AOps.nil ?_
            refine thn_normal ?_
            refine AWP.block ?_
            obtain ⟨⟨low19, high20⟩, ho4, hx18⟩ := bind_some hx18
            try dsimp only at hx18
            refine AWP.forS ho4 (fun iv21 (low19, high20) => ⟨[(1, .c (int player)), (3, .c (.ptr 0 0 0)), (7, .c (int (gv.owner.length : Int))), (8, .c (.own 1 0 c13.length)), (10, .c (bool again14)), (11, .c (int p15)), (12, .c (int low19)), (13, .c (int high20)), (14, .c (int iv21))], [.one (.cells 2 [[row 1 intI gv.owner, row 2 eA2i64 gv.arcs]]), .one (vec 1 intI c13)]⟩) (fun (low19, high20) e st => e = .exit 6 ∧ Sub [] st ⟨[(1, .c (int player)), (3, .c (.ptr 0 0 0)), (7, .c (int (gv.owner.length : Int))), (8, .c (.own 1 0 c13.length)), (10, .c (bool again14)), (11, .c (int p15)), (12, .c (int low19)), (13, .c (int high20))], [.one (.cells 2 [[row 1 intI gv.owner, row 2 eA2i64 gv.arcs]]), .one (vec 1 intI c13)]⟩) ?_ ?_ ?_ ?_
            · try dsimp only
              exact Sub.env ⟨rfl, rfl, rfl, rfl, rfl, rfl, rfl, rfl, rfl, trivial⟩
            · intro iv21 s hloiv21 hltiv21 _
              obtain ⟨low19, high20⟩ := s
              try dsimp only
              refine AWP.seq ?_
              refine AWP.seq ?_
              refine AWP.region ?_
              refine AOps.move rfl rfl ?_
              refine W.fieldAddr rfl rfl rfl rfl ?_
              refine AOps.load rfl rfl rfl rfl rfl rfl ?_
              refine S.len rfl rfl (fun hl44 => ?_)
              refine AOps.lss rfl rfl rfl ?_
              refine AOps.nil ?_
              refine thn_normal ?_
              refine AWP.condNP rfl hltiv21 ?_
              refine AWP.exit ?_
              refine thn_exit ?_
              refine thn_exit ⟨rfl, ?_⟩
              exact Sub.env ⟨rfl, rfl, rfl, rfl, rfl, rfl, rfl, rfl, trivial⟩
            · intro iv21 s o hloiv21 hltiv21 h
              obtain ⟨low19, high20⟩ := s
              unfold ref8_Ranked_l4 at h
              try dsimp only at h ⊢
              refine AWP.seq ?_
              refine AWP.seq ?_
              refine AWP.region ?_
              refine AOps.move rfl rfl ?_
              refine W.fieldAddr rfl rfl rfl rfl ?_
              refine AOps.load rfl rfl rfl rfl rfl rfl ?_
              refine S.len rfl rfl (fun hl44 => ?_)
              refine AOps.lss rfl rfl rfl ?_
              refine AOps.nil ?_
              refine thn_normal ?_
              refine AWP.condP rfl hltiv21 ?_
              refine AWP.skip ?_
              refine thn_normal ?_
              obtain ⟨⟨low22, high23⟩, hx24, h⟩ := bind_some h
              refine AWP.seqJ (⟨[(1, .c (int player)), (3, .c (.ptr 0 0 0)), (7, .c (int (gv.owner.length : Int))), (8, .c (.own 1 0 c13.length)), (10, .c (bool again14)), (11, .c (int p15)), (12, .c (int low22)), (13, .c (int high23)), (14, .c (int iv21))], [.one (.cells 2 [[row 1 intI gv.owner, row 2 eA2i64 gv.arcs]]), .one (vec 1 intI c13)]⟩) ?_ ?_
              · refine AWP.block ?_
                refine AWP.seq ?_
                obtain ⟨a51, ha51, hx24⟩ := bind_some hx24
                refine AWP.region ?_
                refine W.fieldAddr rfl rfl rfl rfl ?_
                refine AOps.load rfl rfl rfl rfl rfl rfl ?_
                refine AOps.move rfl rfl ?_
                refine S.idx ha51 rfl rfl rfl rfl ?_
                refine W.idxArrI rfl rfl rfl (Nat.le_of_ble_eq_true rfl) rfl rfl ?_
                refine AOps.loadI rfl rfl rfl rfl ?_
                refine AOps.move rfl rfl ?_
                refine AOps.eql rfl rfl rfl ?_
                refine AOps.nil ?_
                refine thn_normal ?_
                refine AWP.ite rfl hx24 (fun hc25 hx24 => ?_) (fun hc25 hx24 => ?_)
                · refine AWP.seq ?_
                  obtain ⟨a60, ha60, hx24⟩ := bind_some hx24
                  obtain ⟨a63, ha63, hx24⟩ := bind_some hx24
                  refine AWP.region ?_
                  refine AOps.move rfl rfl ?_
                  refine W.fieldAddr rfl rfl rfl rfl ?_
                  refine AOps.load rfl rfl rfl rfl rfl rfl ?_
                  refine AOps.move rfl rfl ?_
                  refine S.idx ha60 rfl rfl rfl rfl ?_
                  refine W.idxArrI rfl rfl rfl (Nat.le_of_ble_eq_true rfl) rfl rfl ?_
                  refine AOps.loadI rfl rfl rfl rfl ?_
                  refine S.idxO ha63 rfl rfl rfl rfl rfl ?_
                  refine S.loadO ha63 rfl rfl rfl rfl rfl ?_
                  refine AOps.assign rfl rfl ?_
                  refine AOps.nil ?_
                  refine thn_normal ?_
                  obtain ⟨low26, hx27, hx24⟩ := bind_some hx24
                  refine AWP.seqJ (⟨[(1, .c (int player)), (3, .c (.ptr 0 0 0)), (7, .c (int (gv.owner.length : Int))), (8, .c (.own 1 0 c13.length)), (10, .c (bool again14)), (11, .c (int p15)), (12, .c (int low26)), (13, .c (int high20)), (14, .c (int iv21)), (15, .c (int a63))], [.one (.cells 2 [[row 1 intI gv.owner, row 2 eA2i64 gv.arcs]]), .one (vec 1 intI c13)]⟩) ?_ ?_
                  · refine AWP.seq ?_
                    refine AWP.region ?_
                    refine AOps.move rfl rfl ?_
                    refine AOps.move rfl rfl ?_
                    refine AOps.lss rfl rfl rfl ?_
                    refine AOps.nil ?_
                    refine thn_normal ?_
                    refine AWP.ite rfl hx27 (fun hc28 hx27 => ?_) (fun hc28 hx27 => ?_)
                    · refine AWP.region ?_
                      refine AOps.move rfl rfl ?_
                      refine AOps.assign rfl rfl ?_
                      refine AOps.nil ?_
                      have ej := Option.some.inj hx27
                      subst ej
                      refine thn_normal ?_
                      exact Sub.env ⟨rfl, rfl, rfl, rfl, rfl, rfl, rfl, rfl, rfl, rfl, trivial⟩
                    · refine AWP.skip ?_
                      have ej := Option.some.inj hx27
                      subst ej
                      refine thn_normal ?_
                      exact Sub.env ⟨rfl, rfl, rfl, rfl, rfl, rfl, rfl, rfl, rfl, rfl, trivial⟩
                  · refine AWP.seq ?_
                    refine AWP.region ?_
                    refine AOps.move rfl rfl ?_
                    refine AOps.move rfl rfl ?_
                    refine AOps.gtr rfl rfl rfl ?_
                    refine AOps.nil ?_
                    refine thn_normal ?_
                    refine AWP.ite rfl hx24 (fun hc29 hx24 => ?_) (fun hc29 hx24 => ?_)
                    · refine AWP.region ?_
                      refine AOps.move rfl rfl ?_
                      refine AOps.assign rfl rfl ?_
                      refine AOps.nil ?_
                      refine inB_normal ?_
                      have ej := Option.some.inj hx24
                      simp only [Prod.mk.injEq] at ej
                      obtain ⟨ej0, ej1⟩ := ej
                      subst ej0
                      subst ej1
                      refine thn_normal ?_
                      exact Sub.env ⟨rfl, rfl, rfl, rfl, rfl, rfl, rfl, rfl, rfl, trivial⟩
                    · refine AWP.skip ?_
                      refine inB_normal ?_
                      have ej := Option.some.inj hx24
                      simp only [Prod.mk.injEq] at ej
                      obtain ⟨ej0, ej1⟩ := ej
                      subst ej0
                      subst ej1
                      refine thn_normal ?_
                      exact Sub.env ⟨rfl, rfl, rfl, rfl, rfl, rfl, rfl, rfl, rfl, trivial⟩
                · refine AWP.skip ?_
                  refine inB_normal ?_
                  have ej := Option.some.inj hx24
                  simp only [Prod.mk.injEq] at ej
                  obtain ⟨ej0, ej1⟩ := ej
                  subst ej0
                  subst ej1
                  refine thn_normal ?_
                  exact Sub.env ⟨rfl, rfl, rfl, rfl, rfl, rfl, rfl, rfl, rfl, trivial⟩
              · try dsimp only at h
                refine AWP.region ?_
                refine AOps.move rfl rfl ?_
                refine AOps.add rfl rfl rfl (by omega) ?_
                refine AOps.assign rfl rfl ?_
                refine AOps.nil ?_
                have ej := Option.some.inj h
                subst ej
                refine thn_normal ?_
                exact Sub.env ⟨rfl, rfl, rfl, rfl, rfl, rfl, rfl, rfl, rfl, trivial⟩
            · intro e s hq
              obtain ⟨rfl, hs⟩ := hq
              refine ⟨_, hs, ?_⟩
              refine inB_exit ?_
              refine thn_normal ?_
              refine AWP.seq ?_
              refine AWP.region ?_
              refine AOps.move rfl rfl ?_
              refine AOps.assign rfl rfl ?_
              refine AOps.nil ?_
              refine thn_normal ?_
              obtain ⟨v30, hx31, hx18⟩ := bind_some hx18
              refine AWP.seqJ (⟨[(1, .c (int player)), (3, .c (.ptr 0 0 0)), (7, .c (int (gv.owner.length : Int))), (8, .c (.own 1 0 c13.length)), (10, .c (bool again14)), (11, .c (int p15)), (13, .c (int high20)), (16, .c (int v30))], [.one (.cells 2 [[row 1 intI gv.owner, row 2 eA2i64 gv.arcs]]), .one (vec 1 intI c13)]⟩) ?_ ?_
              · refine AWP.seq ?_
                obtain ⟨a77, ha77, hx31⟩ := bind_some hx31
                refine AWP.region ?_
                refine W.fieldAddr rfl rfl rfl rfl ?_
                refine AOps.load rfl rfl rfl rfl rfl rfl ?_
                refine AOps.move rfl rfl ?_
                refine S.idx ha77 rfl rfl rfl rfl ?_
                refine AOps.loadI rfl rfl rfl rfl ?_
                refine AOps.move rfl rfl ?_
                refine AOps.neq rfl rfl rfl ?_
                refine AOps.nil ?_
                refine thn_normal ?_
                refine AWP.iteN rfl hx31 (fun hc32 hx31 => ?_) (fun hc32 hx31 => ?_)
                · refine AWP.region ?_
                  refine AOps.move rfl rfl ?_
                  refine AOps.assign rfl rfl ?_
                  refine AOps.nil ?_
                  have ej := Option.some.inj hx31
                  subst ej
                  refine thn_normal ?_
                  exact Sub.env ⟨rfl, rfl, rfl, rfl, rfl, rfl, rfl, rfl, trivial⟩
                · refine AWP.skip ?_
                  have ej := Option.some.inj hx31
                  subst ej
                  refine thn_normal ?_
                  exact Sub.env ⟨rfl, rfl, rfl, rfl, rfl, rfl, rfl, rfl, trivial⟩
              · obtain ⟨t33, hx34, hx18⟩ := bind_some hx18
                refine AWP.seqJ (⟨[(1, .c (int player)), (3, .c (.ptr 0 0 0)), (7, .c (int (gv.owner.length : Int))), (8, .c (.own 1 0 c13.length)), (10, .c (bool again14)), (11, .c (int p15)), (16, .c (int v30)), (92, .c (bool t33))], [.one (.cells 2 [[row 1 intI gv.owner, row 2 eA2i64 gv.arcs]]), .one (vec 1 intI c13)]⟩) ?_ ?_
                · rcases Bool.eq_false_or_eq_true (decide (0 ≤ high20)) with hb35 | hb35
                  · replace hx34 := iteDT hb35 hx34
                    obtain ⟨a89, ha89, hx34⟩ := bind_some hx34
                    refine AWP.region ?_
                    refine AOps.move rfl rfl ?_
                    refine AOps.geq rfl rfl rfl ?_
                    refine AOps.move rfl rfl ?_
                    refine AOps.guardT rfl rfl rfl hb35 ?_; refine AOps.move rfl rfl ?_
                    refine AOps.guardT rfl rfl rfl hb35 ?_; refine S.add rfl rfl rfl ?_
                    refine AOps.guardT rfl rfl rfl hb35 ?_; refine AOps.move rfl rfl ?_
                    refine AOps.guardT rfl rfl rfl hb35 ?_; refine AOps.move rfl rfl ?_
                    refine AOps.guardT rfl rfl rfl hb35 ?_; refine S.idxO ha89 rfl rfl rfl rfl rfl ?_
                    refine AOps.guardT rfl rfl rfl hb35 ?_; refine S.loadO ha89 rfl rfl rfl rfl rfl ?_
                    refine AOps.guardT rfl rfl rfl hb35 ?_; refine AOps.lss rfl rfl rfl ?_
                    refine AOps.pickT rfl hb35 rfl rfl ?_
                    refine AOps.nil ?_
                    have ej := Option.some.inj hx34
                    subst ej
                    refine thn_normal ?_
                    exact Sub.env ⟨rfl, rfl, rfl, rfl, rfl, rfl, rfl, rfl, trivial⟩
                  · replace hx34 := iteDF hb35 hx34
                    refine AWP.region ?_
                    refine AOps.move rfl rfl ?_
                    refine AOps.geq rfl rfl rfl ?_
                    refine AOps.move rfl rfl ?_
                    refine AOps.guardF rfl rfl rfl hb35 ?_
                    refine AOps.guardF rfl rfl rfl hb35 ?_
                    refine AOps.guardF rfl rfl rfl hb35 ?_
                    refine AOps.guardF rfl rfl rfl hb35 ?_
                    refine AOps.guardF rfl rfl rfl hb35 ?_
                    refine AOps.guardF rfl rfl rfl hb35 ?_
                    refine AOps.guardF rfl rfl rfl hb35 ?_
                    refine AOps.pickF rfl hb35 rfl rfl ?_
                    refine AOps.nil ?_
                    have ej := Option.some.inj hx34
                    subst ej
                    refine thn_normal ?_
                    exact Sub.env ⟨rfl, rfl, rfl, rfl, rfl, rfl, rfl, rfl, trivial⟩
                · refine AWP.iteB rfl hx18 (fun hc36 hx18 => ?_) (fun hc36 hx18 => ?_)
                  · refine AWP.seq ?_
                    obtain ⟨a97, ha97, hx18⟩ := bind_some hx18
                    refine AWP.region ?_
                    refine AOps.move rfl rfl ?_
                    refine AOps.move rfl rfl ?_
                    refine AOps.move rfl rfl ?_
                    refine S.add rfl rfl rfl ?_
                    refine S.idxO ha97 rfl rfl rfl rfl rfl ?_
                    refine S.storeO1 (f := intI) (a' := w64 (v30 + 1)) (ix_lt ha97) (fun _ => ⟨_, rfl⟩) rfl rfl rfl rfl rfl ?_
                    refine AOps.nil ?_
                    refine thn_normal ?_
                    refine AWP.region ?_
                    refine AOps.assign rfl rfl ?_
                    refine AOps.nil ?_
                    refine inB_normal ?_
                    have ej := Option.some.inj hx18
                    simp only [Prod.mk.injEq] at ej
                    obtain ⟨ej0, ej1⟩ := ej
                    subst ej0
                    subst ej1
                    refine thn_normal ?_
                    exact Sub.env ⟨rfl, rfl, rfl, (own_len (by first | rfl | simp only [List.length_set])), rfl, rfl, trivial⟩
                  · refine AWP.skip ?_
                    refine inB_normal ?_
                    have ej := Option.some.inj hx18
                    simp only [Prod.mk.injEq] at ej
                    obtain ⟨ej0, ej1⟩ := ej
                    subst ej0
                    subst ej1
                    refine thn_normal ?_
                    exact Sub.env ⟨rfl, rfl, rfl, rfl, rfl, rfl, trivial⟩
          · try dsimp only at h
            refine AWP.region ?_
            refine AOps.move rfl rfl ?_
            refine AOps.add rfl rfl rfl (by omega) ?_
            refine AOps.assign rfl rfl ?_
            refine AOps.nil ?_
            have ej := Option.some.inj h
            subst ej
            refine thn_normal ?_
            exact Sub.env ⟨rfl, rfl, rfl, rfl, rfl, rfl, trivial⟩
        · intro e s hq
          obtain ⟨rfl, hs⟩ := hq
          refine ⟨_, hs, ?_⟩
          refine inB_exit ?_
          refine inB_normal ?_
          have ej := Option.some.inj h
          subst ej
          refine thn_normal ⟨_, rfl, ?_⟩
          exact Sub.env ⟨rfl, rfl, rfl, rfl, rfl, trivial⟩
      · refine AWP.exit ?_
        refine thn_exit ?_
        have ej := Option.some.inj h
        subst ej
        refine thn_exit ⟨_, rfl, rfl, ?_⟩
        exact Sub.cut ⟨rfl, rfl, trivial⟩ rfl ⟨.dead, .vec, trivial⟩ rfl
    · intro e s hq
      obtain ⟨rfl, hs⟩ := hq
      refine ⟨_, hs, ?_⟩
      refine inB_exit ?_
      refine thn_normal ?_
      refine AWP.seq ?_
      refine AWP.seq ?_
      refine AWP.region ?_
      refine AOps.assign rfl rfl ?_
      refine AOps.nil ?_
      refine thn_normal ?_
      refine AWP.block ?_
      obtain ⟨c37, ho5, h⟩ := bind_some h
      refine AWP.forS ho5 (fun p38 c37 => ⟨[(7, .c (int (gv.owner.length : Int))), (8, .c (.own 1 0 c37.length)), (17, .c (int p38))], [.dead, .one (vec 1 intI c37)]⟩) (fun c37 e st => e = .exit 8 ∧ Sub [] st ⟨[(8, .c (.own 1 0 c37.length))], [.dead, .one (vec 1 intI c37)]⟩) ?_ ?_ ?_ ?_
      · try dsimp only
        exact Sub.env ⟨rfl, rfl, rfl, trivial⟩
      · intro p38 c37 hlop38 hltp38 _
        try dsimp only
        refine AWP.seq ?_
        refine AWP.seq ?_
        refine AWP.region ?_
        refine AOps.move rfl rfl ?_
        refine AOps.move rfl rfl ?_
        refine AOps.lss rfl rfl rfl ?_
        refine AOps.nil ?_
        refine thn_normal ?_
        refine AWP.condNP rfl hltp38 ?_
        refine AWP.exit ?_
        refine thn_exit ?_
        refine thn_exit ⟨rfl, ?_⟩
        exact Sub.env ⟨rfl, trivial⟩
      · intro p38 c37 o hlop38 hltp38 h
        unfold ref8_Ranked_l5 at h
        try dsimp only at h ⊢
        refine AWP.seq ?_
        refine AWP.seq ?_
        refine AWP.region ?_
        refine AOps.move rfl rfl ?_
        refine AOps.move rfl rfl ?_
        refine AOps.lss rfl rfl rfl ?_
        refine AOps.nil ?_
        refine thn_normal ?_
        refine AWP.condP rfl hltp38 ?_
        refine AWP.skip ?_
        refine thn_normal ?_
        obtain ⟨c39, hx40, h⟩ := bind_some h
        refine AWP.seqJ (⟨[(7, .c (int (gv.owner.length : Int))), (8, .c (.own 1 0 c39.length)), (17, .c (int p38))], [.dead, .one (vec 1 intI c39)]⟩) ?_ ?_
        · refine AWP.block ?_
          refine AWP.seq ?_
          obtain ⟨a105, ha105, hx40⟩ := bind_some hx40
          refine AWP.region ?_
          refine AOps.move rfl rfl ?_
          refine AOps.move rfl rfl ?_
          refine S.idxO ha105 rfl rfl rfl rfl rfl ?_
          refine S.loadO ha105 rfl rfl rfl rfl rfl ?_
          refine AOps.geq rfl rfl rfl ?_
          refine AOps.nil ?_
          refine thn_normal ?_
          refine AWP.ite rfl hx40 (fun hc41 hx40 => ?_) (fun hc41 hx40 => ?_)
          · obtain ⟨a110, ha110, hx40⟩ := bind_some hx40
            refine AWP.region ?_
            refine AOps.move rfl rfl ?_
            refine AOps.move rfl rfl ?_
            refine S.idxO ha110 rfl rfl rfl rfl rfl ?_
            refine S.storeO1 (f := intI) (a' := -1) (ix_lt ha110) (fun _ => ⟨_, rfl⟩) rfl rfl rfl rfl rfl ?_
            refine AOps.nil ?_
            refine inB_normal ?_
            have ej := Option.some.inj hx40
            subst ej
            refine thn_normal ?_
            exact Sub.env ⟨rfl, (own_len (by first | rfl | simp only [List.length_set])), rfl, trivial⟩
          · refine AWP.skip ?_
            refine inB_normal ?_
            have ej := Option.some.inj hx40
            subst ej
            refine thn_normal ?_
            exact Sub.env ⟨rfl, rfl, rfl, trivial⟩
        · refine AWP.region ?_
          refine AOps.move rfl rfl ?_
          refine AOps.add rfl rfl rfl (by omega) ?_
          refine AOps.assign rfl rfl ?_
          refine AOps.nil ?_
          have ej := Option.some.inj h
          subst ej
          refine thn_normal ?_
          exact Sub.env ⟨rfl, rfl, rfl, trivial⟩
      · intro e s hq
        obtain ⟨rfl, hs⟩ := hq
        refine ⟨_, hs, ?_⟩
        refine inB_exit ?_
        refine thn_normal ?_
        refine AWP.seq ?_
        refine AWP.region ?_
        refine AOps.move rfl rfl ?_
        refine AOps.assign rfl rfl ?_
        refine AOps.nil ?_
        refine thn_normal ?_
        refine AWP.ret ?_
        have ej := Option.some.inj h
        subst ej
        exact Done.ret rfl (Fresh.mk rfl rfl)

def ref8_Moves_l3 (gv : TGame) (player : Int) (rank : List Int) (p5 : Int) (q7 : Int) : Int → Int → Option Int := fun iv11 best10 => Option.bind (Option.bind (Option.bind (ix gv.owner p5) fun a35 => if a35 = player then Option.bind (ix rank p5) fun a42 => if 0 < a42 then Option.bind (ix gv.arcs iv11) fun a50 => if ((decide (a50.1 = p5)) && (decide (a50.2 = q7))) = true then Option.bind (ix rank q7) fun a60 => Option.bind (ix rank p5) fun a64 => some (decide (a60 = w64 (a64 - 1))) else some false else some false else some false) fun t14 => if t14 = true then some q7 else some best10) fun best12 => some best12
def ref8_Moves_l2 (gv : TGame) (player : Int) (rank : List Int) (p5 : Int) : (Int × Int) → Option ((Int × Int) ⊕ Int) := fun (best6, q7) => if 0 ≤ q7 then (Option.bind (forR 0 (gv.arcs.length : Int) (ref8_Moves_l3 gv player rank p5 q7) best6) fun best10 => some (.inl (best10, w64 (q7 - 1)))) else some (.inr best6)
noncomputable def ref8_Moves_l1 (gv : TGame) (player : Int) (rank : List Int) : Int → (List Int) → Option (List Int) := fun p5 c4 => Option.bind (Loop (ref8_Moves_l2 gv player rank p5) (-1, (rank.length : Int) - 1)) fun best8 => Option.bind (app 8 c4 [best8]) fun a73 => some a73
noncomputable def ref8_Moves (gv : TGame) (player : Int) (rank : List Int) : Option (List Int) := (Option.bind (forR 0 (rank.length : Int) (ref8_Moves_l1 gv player rank) []) fun c4 => some c4)
theorem ref8_Moves_ok {gv : TGame} {player : Int} {rank : List Int} {r : (List Int)} (h : ref8_Moves gv player rank = some r) : FreshOk Try.prog 19 [.agg [row 1 intI gv.owner, row 2 eA2i64 gv.arcs], .c (int player), .c (row 1 intI rank)] 1 (List.map intI r) := by
  unfold FreshOk
  refine FnOk.enter (rs := [.t 6]) Try.func19 rfl Try.ntmps19 Try.results19 rfl ⟨trivial, trivial⟩ (by kernel_rfl) rfl ?_
  unfold ref8_Moves at h
  refine AWP.seq ?_
  refine AWP.region ?_
  refine W.box rfl rfl rfl rfl rfl rfl ?_
  refine AOps.assign rfl rfl ?_
  refine AOps.nil ?_
  refine thn_normal ?_
  refine AWP.seq ?_
  refine AWP.region ?_
  refine AOps.assign rfl rfl ?_
  refine AOps.nil ?_
  refine thn_normal ?_
  refine AWP.seq ?_
  refine AWP.seq ?_
  refine AWP.region ?_
  refine AOps.assign rfl rfl ?_
  refine AOps.nil ?_
  refine thn_normal ?_
  refine AWP.block ?_
  refine AWP.virtV 1 intI 7 rfl rfl rfl ?_
  obtain ⟨c4, ho1, h⟩ := bind_some h
  refine AWP.forS ho1 (fun p5 c4 => ⟨[(1, .c (int player)), (2, .c (row 1 intI rank)), (3, .c (.ptr 0 0 0)), (7, .c (.own 1 0 c4.length)), (8, .c (int p5))], [.one (.cells 2 [[row 1 intI gv.owner, row 2 eA2i64 gv.arcs]]), .one (vec 1 intI c4)]⟩) (fun c4 e st => e = .exit 0 ∧ Sub [] st ⟨[(7, .c (.own 1 0 c4.length))], [.one (.cells 2 [[row 1 intI gv.owner, row 2 eA2i64 gv.arcs]]), .one (vec 1 intI c4)]⟩) ?_ ?_ ?_ ?_
  · try dsimp only
    exact Sub.env ⟨rfl, rfl, rfl, (own_len (by first | rfl | simp only [List.length_set])), rfl, trivial⟩
  · intro p5 c4 hlop5 hltp5 _
    try dsimp only
    refine AWP.seq ?_
    refine AWP.seq ?_
    refine AWP.region ?_
    refine AOps.move rfl rfl ?_
    refine AOps.move rfl rfl ?_
    refine S.len rfl rfl (fun hl14 => ?_)
    refine AOps.lss rfl rfl rfl ?_
    refine AOps.nil ?_
    refine thn_normal ?_
    refine AWP.condNP rfl hltp5 ?_
    refine AWP.exit ?_
    refine thn_exit ?_
    refine thn_exit ⟨rfl, ?_⟩
    exact Sub.env ⟨rfl, trivial⟩
  · intro p5 c4 o hlop5 hltp5 h
    unfold ref8_Moves_l1 at h
    try dsimp only at h ⊢
    refine AWP.seq ?_
    refine AWP.seq ?_
    refine AWP.region ?_
    refine AOps.move rfl rfl ?_
    refine AOps.move rfl rfl ?_
    refine S.len rfl rfl (fun hl14 => ?_)
    refine AOps.lss rfl rfl rfl ?_
    refine AOps.nil ?_
    refine thn_normal ?_
    refine AWP.condP rfl hltp5 ?_
    refine AWP.skip ?_
    refine thn_normal ?_
    refine AWP.seq ?_
    refine AWP.block ?_
    refine AWP.seq ?_
    refine AWP.region ?_
    refine AOps.assign rfl rfl ?_
    refine AOps.nil ?_
    refine thn_normal ?_
    refine AWP.seq ?_
    refine AWP.seq ?_
    refine AWP.region ?_
    refine AOps.move rfl rfl ?_
    refine S.len rfl rfl (fun hl19 => ?_)
    refine AOps.sub' rfl rfl rfl (by omega) ?_
    refine AOps.assign rfl rfl ?_
    refine AOps.nil ?_
    refine thn_normal ?_
    refine AWP.block ?_
    obtain ⟨best8, ho2, h⟩ := bind_some h
    refine AWP.loopS ho2 (fun (best6, q7) => ⟨[(1, .c (int player)), (2, .c (row 1 intI rank)), (3, .c (.ptr 0 0 0)), (7, .c (.own 1 0 c4.length)), (8, .c (int p5)), (9, .c (int best6)), (10, .c (int q7))], [.one (.cells 2 [[row 1 intI gv.owner, row 2 eA2i64 gv.arcs]]), .one (vec 1 intI c4)]⟩) (fun best8 e st => e = .exit 2 ∧ Sub [] st ⟨[(1, .c (int player)), (2, .c (row 1 intI rank)), (3, .c (.ptr 0 0 0)), (7, .c (.own 1 0 c4.length)), (8, .c (int p5)), (9, .c (int best8))], [.one (.cells 2 [[row 1 intI gv.owner, row 2 eA2i64 gv.arcs]]), .one (vec 1 intI c4)]⟩) ?_ ?_ ?_
    · try dsimp only
      exact Sub.env ⟨rfl, rfl, rfl, rfl, rfl, rfl, rfl, trivial⟩
    · intro s o h
      obtain ⟨best6, q7⟩ := s
      unfold ref8_Moves_l2 at h
      try dsimp only at h ⊢
      refine AWP.seq ?_
      refine AWP.seq ?_
      refine AWP.region ?_
      refine AOps.move rfl rfl ?_
      refine AOps.geq rfl rfl rfl ?_
      refine AOps.nil ?_
      refine thn_normal ?_
      refine AWP.ite rfl h (fun hc9 h => ?_) (fun hc9 h => ?_)
      · refine AWP.skip ?_
        refine thn_normal ?_
        refine AWP.seq ?_
        refine AWP.block ?_
        refine AWP.seq ?_
        refine AWP.region ?_
        refine AOps.assign rfl rfl ?_
        refine AOps.nil ?_
        refine thn_normal ?_
        refine AWP.block ?_
        obtain ⟨best10, ho3, h⟩ := bind_some h
        refine AWP.forS ho3 (fun iv11 best10 => ⟨[(1, .c (int player)), (2, .c (row 1 intI rank)), (3, .c (.ptr 0 0 0)), (7, .c (.own 1 0 c4.length)), (8, .c (int p5)), (9, .c (int best10)), (10, .c (int q7)), (11, .c (int iv11))], [.one (.cells 2 [[row 1 intI gv.owner, row 2 eA2i64 gv.arcs]]), .one (vec 1 intI c4)]⟩) (fun best10 e st => e = .exit 4 ∧ Sub [] st ⟨[(1, .c (int player)), (2, .c (row 1 intI rank)), (3, .c (.ptr 0 0 0)), (7, .c (.own 1 0 c4.length)), (8, .c (int p5)), (9, .c (int best10)), (10, .c (int q7))], [.one (.cells 2 [[row 1 intI gv.owner, row 2 eA2i64 gv.arcs]]), .one (vec 1 intI c4)]⟩) ?_ ?_ ?_ ?_
        · try dsimp only
          exact Sub.env ⟨rfl, rfl, rfl, rfl, rfl, rfl, rfl, rfl, trivial⟩
        · intro iv11 best10 hloiv11 hltiv11 _
          try dsimp only
          refine AWP.seq ?_
          refine AWP.seq ?_
          refine AWP.region ?_
          refine AOps.move rfl rfl ?_
          refine W.fieldAddr rfl rfl rfl rfl ?_
          refine AOps.load rfl rfl rfl rfl rfl rfl ?_
          refine S.len rfl rfl (fun hl28 => ?_)
          refine AOps.lss rfl rfl rfl ?_
          refine AOps.nil ?_
          refine thn_normal ?_
          refine AWP.condNP rfl hltiv11 ?_
          refine AWP.exit ?_
          refine thn_exit ?_
          refine thn_exit ⟨rfl, ?_⟩
          exact Sub.env ⟨rfl, rfl, rfl, rfl, rfl, rfl, rfl, trivial⟩
        · intro iv11 best10 o hloiv11 hltiv11 h
          unfold ref8_Moves_l3 at h
          try dsimp only at h ⊢
          refine AWP.seq ?_
          refine AWP.seq ?_
          refine AWP.region ?_
          refine AOps.move rfl rfl ?_
          refine W.fieldAddr rfl rfl rfl rfl ?_
          refine AOps.load rfl rfl rfl rfl rfl rfl ?_
          refine S.len rfl rfl (fun hl28 => ?_)
          refine AOps.lss rfl rfl rfl ?_
          refine AOps.nil ?_
          refine thn_normal ?_
          refine AWP.condP rfl hltiv11 ?_
          refine AWP.skip ?_
          refine thn_normal ?_
          obtain ⟨best12, hx13, h⟩ := bind_some h
          refine AWP.seqJ (⟨[(1, .c (int player)), (2, .c (row 1 intI rank)), (3, .c (.ptr 0 0 0)), (7, .c (.own 1 0 c4.length)), (8, .c (int p5)), (9, .c (int best12)), (10, .c (int q7)), (11, .c (int iv11))], [.one (.cells 2 [[row 1 intI gv.owner, row 2 eA2i64 gv.arcs]]), .one (vec 1 intI c4)]⟩) ?_ ?_
          · refine AWP.block ?_
            obtain ⟨t14, hx15, hx13⟩ := bind_some hx13
            refine AWP.seqJ (⟨[(1, .c (int player)), (2, .c (row 1 intI rank)), (3, .c (.ptr 0 0 0)), (7, .c (.own 1 0 c4.length)), (8, .c (int p5)), (9, .c (int best10)), (10, .c (int q7)), (11, .c (int iv11)), (68, .c (bool t14))], [.one (.cells 2 [[row 1 intI gv.owner, row 2 eA2i64 gv.arcs]]), .one (vec 1 intI c4)]⟩) ?_ ?_
            · obtain ⟨a35, ha35, hx15⟩ := bind_some hx15
              rcases Bool.eq_false_or_eq_true (decide (a35 = player)) with hb16 | hb16
              · replace hx15 := iteDT hb16 hx15
                obtain ⟨a42, ha42, hx15⟩ := bind_some hx15
                rcases Bool.eq_false_or_eq_true (decide (0 < a42)) with hb17 | hb17
                · replace hx15 := iteDT hb17 hx15
                  obtain ⟨a50, ha50, hx15⟩ := bind_some hx15
                  rcases Bool.eq_false_or_eq_true ((decide (a50.1 = p5)) && (decide (a50.2 = q7))) with hb18 | hb18
                  · replace hx15 := iteBT hb18 hx15
                    obtain ⟨a60, ha60, hx15⟩ := bind_some hx15
                    obtain ⟨a64, ha64, hx15⟩ := bind_some hx15
                    refine AWP.drawI mixed rfl ?_
                    apply DrawSeq.consF; exact rfl; intro E
                    refine W.fieldAddr rfl rfl rfl rfl ?_
                    exact AOps.nil ⟨rfl, rfl⟩
                    exact rfl
                    apply DrawSeq.consF; exact rfl; intro E
                    refine AOps.load rfl rfl rfl rfl rfl rfl ?_
                    exact AOps.nil ⟨rfl, rfl⟩
                    exact rfl
                    apply DrawSeq.consF; exact rfl; intro E
                    refine AOps.move rfl rfl ?_
                    exact AOps.nil ⟨rfl, rfl⟩
                    exact rfl
                    apply DrawSeq.consF; exact rfl; intro E
                    refine S.idx ha35 rfl rfl rfl rfl ?_
                    exact AOps.nil ⟨rfl, rfl⟩
                    exact rfl
                    apply DrawSeq.consF; exact rfl; intro E
                    refine AOps.loadI rfl rfl rfl rfl ?_
                    exact AOps.nil ⟨rfl, rfl⟩
                    exact rfl
                    apply DrawSeq.consF; exact rfl; intro E
                    refine AOps.move rfl rfl ?_
                    exact AOps.nil ⟨rfl, rfl⟩
                    exact rfl
                    apply DrawSeq.consF; exact rfl; intro E
                    refine AOps.eql rfl rfl rfl ?_
                    exact AOps.nil ⟨rfl, rfl⟩
                    exact rfl
                    apply DrawSeq.consF; exact rfl; intro E
                    refine AOps.move rfl rfl ?_
                    exact AOps.nil ⟨rfl, rfl⟩
                    exact rfl
                    apply DrawSeq.consF; exact rfl; intro E
                    refine AOps.guardT rfl rfl rfl hb16 ?_; refine AOps.move rfl rfl ?_
                    exact AOps.nil ⟨rfl, rfl⟩
                    exact rfl
                    apply DrawSeq.consF; exact rfl; intro E
                    refine AOps.guardT rfl rfl rfl hb16 ?_; refine AOps.move rfl rfl ?_
                    exact AOps.nil ⟨rfl, rfl⟩
                    exact rfl
                    apply DrawSeq.consF; exact rfl; intro E
                    refine AOps.guardT rfl rfl rfl hb16 ?_; refine S.idx ha42 rfl rfl rfl rfl ?_
                    exact AOps.nil ⟨rfl, rfl⟩
                    exact rfl
                    apply DrawSeq.consF; exact rfl; intro E
                    refine AOps.guardT rfl rfl rfl hb16 ?_; refine AOps.loadI rfl rfl rfl rfl ?_
                    exact AOps.nil ⟨rfl, rfl⟩
                    exact rfl
                    apply DrawSeq.consF; exact rfl; intro E
                    refine AOps.guardT rfl rfl rfl hb16 ?_; refine AOps.gtr rfl rfl rfl ?_
                    exact AOps.nil ⟨rfl, rfl⟩
                    exact rfl
                    apply DrawSeq.consF; exact rfl; intro E
                    refine AOps.pickT rfl hb16 rfl rfl ?_
                    exact AOps.nil ⟨rfl, rfl⟩
                    exact rfl
                    apply DrawSeq.consF; exact rfl; intro E
                    refine AOps.move rfl rfl ?_
                    exact AOps.nil ⟨rfl, rfl⟩
                    exact rfl
                    apply DrawSeq.consF; exact rfl; intro E
                    refine AOps.guardT rfl rfl rfl hb17 ?_; refine W.fieldAddr rfl rfl rfl rfl ?_
                    exact AOps.nil ⟨rfl, rfl⟩
                    exact rfl
                    apply DrawSeq.consF; exact rfl; intro E
                    refine AOps.guardT rfl rfl rfl hb17 ?_; refine AOps.load rfl rfl rfl rfl rfl rfl ?_
                    exact AOps.nil ⟨rfl, rfl⟩
                    exact rfl
                    apply DrawSeq.consF; exact rfl; intro E
                    refine AOps.guardT rfl rfl rfl hb17 ?_; refine AOps.move rfl rfl ?_
                    exact AOps.nil ⟨rfl, rfl⟩
                    exact rfl
                    apply DrawSeq.consF; exact rfl; intro E
                    refine AOps.guardT rfl rfl rfl hb17 ?_; refine S.idx ha50 rfl rfl rfl rfl ?_
                    exact AOps.nil ⟨rfl, rfl⟩
                    exact rfl
                    apply DrawSeq.consF; exact rfl; intro E
                    refine AOps.guardT rfl rfl rfl hb17 ?_; refine W.loadIAgg rfl rfl rfl rfl rfl ?_
                    exact AOps.nil ⟨rfl, rfl⟩
                    exact rfl
                    apply DrawSeq.consF; exact rfl; intro E
                    refine AOps.guardT rfl rfl rfl hb17 ?_; refine AOps.move rfl rfl ?_
                    exact AOps.nil ⟨rfl, rfl⟩
                    exact rfl
                    apply DrawSeq.consF; exact rfl; intro E
                    refine AOps.guardT rfl rfl rfl hb17 ?_; refine AOps.move rfl rfl ?_
                    exact AOps.nil ⟨rfl, rfl⟩
                    exact rfl
                    apply DrawSeq.consF; exact rfl; intro E
                    refine AOps.guardT rfl rfl rfl hb17 ?_; refine AOps.buildA rfl rfl rfl rfl ?_
                    exact AOps.nil ⟨rfl, rfl⟩
                    exact rfl
                    apply DrawSeq.consF; exact rfl; intro E
                    refine AOps.guardT rfl rfl rfl hb17 ?_; refine AOps.eqlA rfl rfl rfl rfl ?_
                    exact AOps.nil ⟨rfl, rfl⟩
                    exact rfl
                    apply DrawSeq.consF; exact rfl; intro E
                    refine AOps.pickT rfl hb17 rfl rfl ?_
                    exact AOps.nil ⟨rfl, rfl⟩
                    exact rfl
                    apply DrawSeq.consF; exact rfl; intro E
                    refine AOps.move rfl rfl ?_
                    exact AOps.nil ⟨rfl, rfl⟩
                    exact rfl
                    apply DrawSeq.consF; exact rfl; intro E
                    refine AOps.guardT rfl rfl rfl hb18 ?_; refine AOps.move rfl rfl ?_
                    exact AOps.nil ⟨rfl, rfl⟩
                    exact rfl
                    apply DrawSeq.consF; exact rfl; intro E
                    refine AOps.guardT rfl rfl rfl hb18 ?_; refine AOps.move rfl rfl ?_
                    exact AOps.nil ⟨rfl, rfl⟩
                    exact rfl
                    apply DrawSeq.consF; exact rfl; intro E
                    refine AOps.guardT rfl rfl rfl hb18 ?_; refine S.idx ha60 rfl rfl rfl rfl ?_
                    exact AOps.nil ⟨rfl, rfl⟩
                    exact rfl
                    apply DrawSeq.consF; exact rfl; intro E
                    refine AOps.guardT rfl rfl rfl hb18 ?_; refine AOps.loadI rfl rfl rfl rfl ?_
                    exact AOps.nil ⟨rfl, rfl⟩
                    exact rfl
                    apply DrawSeq.consF; exact rfl; intro E
                    refine AOps.guardT rfl rfl rfl hb18 ?_; refine AOps.move rfl rfl ?_
                    exact AOps.nil ⟨rfl, rfl⟩
                    exact rfl
                    apply DrawSeq.consF; exact rfl; intro E
                    refine AOps.guardT rfl rfl rfl hb18 ?_; refine AOps.move rfl rfl ?_
                    exact AOps.nil ⟨rfl, rfl⟩
                    exact rfl
                    apply DrawSeq.consF; exact rfl; intro E
                    refine AOps.guardT rfl rfl rfl hb18 ?_; refine S.idx ha64 rfl rfl rfl rfl ?_
                    exact AOps.nil ⟨rfl, rfl⟩
                    exact rfl
                    apply DrawSeq.consF; exact rfl; intro E
                    refine AOps.guardT rfl rfl rfl hb18 ?_; refine AOps.loadI rfl rfl rfl rfl ?_
                    exact AOps.nil ⟨rfl, rfl⟩
                    exact rfl
                    apply DrawSeq.consF; exact rfl; intro E
                    refine AOps.guardT rfl rfl rfl hb18 ?_; refine S.sub rfl rfl rfl ?_
                    exact AOps.nil ⟨rfl, rfl⟩
                    exact rfl
                    apply DrawSeq.consF; exact rfl; intro E
                    refine AOps.guardT rfl rfl rfl hb18 ?_; refine AOps.eql rfl rfl rfl ?_
                    exact AOps.nil ⟨rfl, rfl⟩
                    exact rfl
                    apply DrawSeq.consF; exact rfl; intro E
                    refine AOps.pickT rfl hb18 rfl rfl ?_
                    exact AOps.nil ⟨rfl, rfl⟩
                    exact rfl
                    refine DrawSeq.done ?_
                    dsimp only [envEnd]
                    have ej := Option.some.inj hx15
                    subst ej
                    refine thn_normal ?_
                    exact Sub.env ⟨rfl, rfl, rfl, rfl, rfl, rfl, rfl, rfl, rfl, trivial⟩
                  · replace hx15 := iteBF hb18 hx15
                    refine AWP.drawI mixed rfl ?_
                    apply DrawSeq.consF; exact rfl; intro E
                    refine W.fieldAddr rfl rfl rfl rfl ?_
                    exact AOps.nil ⟨rfl, rfl⟩
                    exact rfl
                    apply DrawSeq.consF; exact rfl; intro E
                    refine AOps.load rfl rfl rfl rfl rfl rfl ?_
                    exact AOps.nil ⟨rfl, rfl⟩
                    exact rfl
                    apply DrawSeq.consF; exact rfl; intro E
                    refine AOps.move rfl rfl ?_
                    exact AOps.nil ⟨rfl, rfl⟩
                    exact rfl
                    apply DrawSeq.consF; exact rfl; intro E
                    refine S.idx ha35 rfl rfl rfl rfl ?_
                    exact AOps.nil ⟨rfl, rfl⟩
                    exact rfl
                    apply DrawSeq.consF; exact rfl; intro E
                    refine AOps.loadI rfl rfl rfl rfl ?_
                    exact AOps.nil ⟨rfl, rfl⟩
                    exact rfl
                    apply DrawSeq.consF; exact rfl; intro E
                    refine AOps.move rfl rfl ?_
                    exact AOps.nil ⟨rfl, rfl⟩
                    exact rfl
                    apply DrawSeq.consF; exact rfl; intro E
                    refine AOps.eql rfl rfl rfl ?_
                    exact AOps.nil ⟨rfl, rfl⟩
                    exact rfl
                    apply DrawSeq.consF; exact rfl; intro E
                    refine AOps.move rfl rfl ?_
                    exact AOps.nil ⟨rfl, rfl⟩
                    exact rfl
                    apply DrawSeq.consF; exact rfl; intro E
                    refine AOps.guardT rfl rfl rfl hb16 ?_; refine AOps.move rfl rfl ?_
                    exact AOps.nil ⟨rfl, rfl⟩
                    exact rfl
                    apply DrawSeq.consF; exact rfl; intro E
                    refine AOps.guardT rfl rfl rfl hb16 ?_; refine AOps.move rfl rfl ?_
                    exact AOps.nil ⟨rfl, rfl⟩
                    exact rfl
                    apply DrawSeq.consF; exact rfl; intro E
                    refine AOps.guardT rfl rfl rfl hb16 ?_; refine S.idx ha42 rfl rfl rfl rfl ?_
                    exact AOps.nil ⟨rfl, rfl⟩
                    exact rfl
                    apply DrawSeq.consF; exact rfl; intro E
                    refine AOps.guardT rfl rfl rfl hb16 ?_; refine AOps.loadI rfl rfl rfl rfl ?_
                    exact AOps.nil ⟨rfl, rfl⟩
                    exact rfl
                    apply DrawSeq.consF; exact rfl; intro E
                    refine AOps.guardT rfl rfl rfl hb16 ?_; refine AOps.gtr rfl rfl rfl ?_
                    exact AOps.nil ⟨rfl, rfl⟩
                    exact rfl
                    apply DrawSeq.consF; exact rfl; intro E
                    refine AOps.pickT rfl hb16 rfl rfl ?_
                    exact AOps.nil ⟨rfl, rfl⟩
                    exact rfl
                    apply DrawSeq.consF; exact rfl; intro E
                    refine AOps.move rfl rfl ?_
                    exact AOps.nil ⟨rfl, rfl⟩
                    exact rfl
                    apply DrawSeq.consF; exact rfl; intro E
                    refine AOps.guardT rfl rfl rfl hb17 ?_; refine W.fieldAddr rfl rfl rfl rfl ?_
                    exact AOps.nil ⟨rfl, rfl⟩
                    exact rfl
                    apply DrawSeq.consF; exact rfl; intro E
                    refine AOps.guardT rfl rfl rfl hb17 ?_; refine AOps.load rfl rfl rfl rfl rfl rfl ?_
                    exact AOps.nil ⟨rfl, rfl⟩
                    exact rfl
                    apply DrawSeq.consF; exact rfl; intro E
                    refine AOps.guardT rfl rfl rfl hb17 ?_; refine AOps.move rfl rfl ?_
                    exact AOps.nil ⟨rfl, rfl⟩
                    exact rfl
                    apply DrawSeq.consF; exact rfl; intro E
                    refine AOps.guardT rfl rfl rfl hb17 ?_; refine S.idx ha50 rfl rfl rfl rfl ?_
                    exact AOps.nil ⟨rfl, rfl⟩
                    exact rfl
                    apply DrawSeq.consF; exact rfl; intro E
                    refine AOps.guardT rfl rfl rfl hb17 ?_; refine W.loadIAgg rfl rfl rfl rfl rfl ?_
                    exact AOps.nil ⟨rfl, rfl⟩
                    exact rfl
                    apply DrawSeq.consF; exact rfl; intro E
                    refine AOps.guardT rfl rfl rfl hb17 ?_; refine AOps.move rfl rfl ?_
                    exact AOps.nil ⟨rfl, rfl⟩
                    exact rfl
                    apply DrawSeq.consF; exact rfl; intro E
                    refine AOps.guardT rfl rfl rfl hb17 ?_; refine AOps.move rfl rfl ?_
                    exact AOps.nil ⟨rfl, rfl⟩
                    exact rfl
                    apply DrawSeq.consF; exact rfl; intro E
                    refine AOps.guardT rfl rfl rfl hb17 ?_; refine AOps.buildA rfl rfl rfl rfl ?_
                    exact AOps.nil ⟨rfl, rfl⟩
                    exact rfl
                    apply DrawSeq.consF; exact rfl; intro E
                    refine AOps.guardT rfl rfl rfl hb17 ?_; refine AOps.eqlA rfl rfl rfl rfl ?_
                    exact AOps.nil ⟨rfl, rfl⟩
                    exact rfl
                    apply DrawSeq.consF; exact rfl; intro E
                    refine AOps.pickT rfl hb17 rfl rfl ?_
                    exact AOps.nil ⟨rfl, rfl⟩
                    exact rfl
                    apply DrawSeq.consF; exact rfl; intro E
                    refine AOps.move rfl rfl ?_
                    exact AOps.nil ⟨rfl, rfl⟩
                    exact rfl
                    apply DrawSeq.consF; exact rfl; intro E
                    refine AOps.guardF rfl rfl rfl hb18 ?_
                    exact AOps.nil ⟨rfl, rfl⟩
                    exact rfl
                    apply DrawSeq.consF; exact rfl; intro E
                    refine AOps.guardF rfl rfl rfl hb18 ?_
                    exact AOps.nil ⟨rfl, rfl⟩
                    exact rfl
                    apply DrawSeq.consF; exact rfl; intro E
                    refine AOps.guardF rfl rfl rfl hb18 ?_
                    exact AOps.nil ⟨rfl, rfl⟩
                    exact rfl
                    apply DrawSeq.consF; exact rfl; intro E
                    refine AOps.guardF rfl rfl rfl hb18 ?_
                    exact AOps.nil ⟨rfl, rfl⟩
                    exact rfl
                    apply DrawSeq.consF; exact rfl; intro E
                    refine AOps.guardF rfl rfl rfl hb18 ?_
                    exact AOps.nil ⟨rfl, rfl⟩
                    exact rfl
                    apply DrawSeq.consF; exact rfl; intro E
                    refine AOps.guardF rfl rfl rfl hb18 ?_
                    exact AOps.nil ⟨rfl, rfl⟩
                    exact rfl
                    apply DrawSeq.consF; exact rfl; intro E
                    refine AOps.guardF rfl rfl rfl hb18 ?_
                    exact AOps.nil ⟨rfl, rfl⟩
                    exact rfl
                    apply DrawSeq.consF; exact rfl; intro E
                    refine AOps.guardF rfl rfl rfl hb18 ?_
                    exact AOps.nil ⟨rfl, rfl⟩
                    exact rfl
                    apply DrawSeq.consF; exact rfl; intro E
                    refine AOps.guardF rfl rfl rfl hb18 ?_
                    exact AOps.nil ⟨rfl, rfl⟩
                    exact rfl
                    apply DrawSeq.consF; exact rfl; intro E
                    refine AOps.guardF rfl rfl rfl hb18 ?_
                    exact AOps.nil ⟨rfl, rfl⟩
                    exact rfl
                    apply DrawSeq.consF; exact rfl; intro E
                    refine AOps.pickF rfl hb18 rfl rfl ?_
                    exact AOps.nil ⟨rfl, rfl⟩
                    exact rfl
                    refine DrawSeq.done ?_
                    dsimp only [envEnd]
                    have ej := Option.some.inj hx15
                    subst ej
                    refine thn_normal ?_
                    exact Sub.env ⟨rfl, rfl, rfl, rfl, rfl, rfl, rfl, rfl, rfl, trivial⟩
                · replace hx15 := iteDF hb17 hx15
                  refine AWP.drawI mixed rfl ?_
                  apply DrawSeq.consF; exact rfl; intro E
                  refine W.fieldAddr rfl rfl rfl rfl ?_
                  exact AOps.nil ⟨rfl, rfl⟩
                  exact rfl
                  apply DrawSeq.consF; exact rfl; intro E
                  refine AOps.load rfl rfl rfl rfl rfl rfl ?_
                  exact AOps.nil ⟨rfl, rfl⟩
                  exact rfl
                  apply DrawSeq.consF; exact rfl; intro E
                  refine AOps.move rfl rfl ?_
                  exact AOps.nil ⟨rfl, rfl⟩
                  exact rfl
                  apply DrawSeq.consF; exact rfl; intro E
                  refine S.idx ha35 rfl rfl rfl rfl ?_
                  exact AOps.nil ⟨rfl, rfl⟩
                  exact rfl
                  apply DrawSeq.consF; exact rfl; intro E
                  refine AOps.loadI rfl rfl rfl rfl ?_
                  exact AOps.nil ⟨rfl, rfl⟩
                  exact rfl
                  apply DrawSeq.consF; exact rfl; intro E
                  refine AOps.move rfl rfl ?_
                  exact AOps.nil ⟨rfl, rfl⟩
                  exact rfl
                  apply DrawSeq.consF; exact rfl; intro E
                  refine AOps.eql rfl rfl rfl ?_
                  exact AOps.nil ⟨rfl, rfl⟩
                  exact rfl
                  apply DrawSeq.consF; exact rfl; intro E
                  refine AOps.move rfl rfl ?_
                  exact AOps.nil ⟨rfl, rfl⟩
                  exact rfl
                  apply DrawSeq.consF; exact rfl; intro E
                  refine AOps.guardT rfl rfl rfl hb16 ?_; refine AOps.move rfl rfl ?_
                  exact AOps.nil ⟨rfl, rfl⟩
                  exact rfl
                  apply DrawSeq.consF; exact rfl; intro E
                  refine AOps.guardT rfl rfl rfl hb16 ?_; refine AOps.move rfl rfl ?_
                  exact AOps.nil ⟨rfl, rfl⟩
                  exact rfl
                  apply DrawSeq.consF; exact rfl; intro E
                  refine AOps.guardT rfl rfl rfl hb16 ?_; refine S.idx ha42 rfl rfl rfl rfl ?_
                  exact AOps.nil ⟨rfl, rfl⟩
                  exact rfl
                  apply DrawSeq.consF; exact rfl; intro E
                  refine AOps.guardT rfl rfl rfl hb16 ?_; refine AOps.loadI rfl rfl rfl rfl ?_
                  exact AOps.nil ⟨rfl, rfl⟩
                  exact rfl
                  apply DrawSeq.consF; exact rfl; intro E
                  refine AOps.guardT rfl rfl rfl hb16 ?_; refine AOps.gtr rfl rfl rfl ?_
                  exact AOps.nil ⟨rfl, rfl⟩
                  exact rfl
                  apply DrawSeq.consF; exact rfl; intro E
                  refine AOps.pickT rfl hb16 rfl rfl ?_
                  exact AOps.nil ⟨rfl, rfl⟩
                  exact rfl
                  apply DrawSeq.consF; exact rfl; intro E
                  refine AOps.move rfl rfl ?_
                  exact AOps.nil ⟨rfl, rfl⟩
                  exact rfl
                  apply DrawSeq.consF; exact rfl; intro E
                  refine AOps.guardF rfl rfl rfl hb17 ?_
                  exact AOps.nil ⟨rfl, rfl⟩
                  exact rfl
                  apply DrawSeq.consF; exact rfl; intro E
                  refine AOps.guardF rfl rfl rfl hb17 ?_
                  exact AOps.nil ⟨rfl, rfl⟩
                  exact rfl
                  apply DrawSeq.consF; exact rfl; intro E
                  refine AOps.guardF rfl rfl rfl hb17 ?_
                  exact AOps.nil ⟨rfl, rfl⟩
                  exact rfl
                  apply DrawSeq.consF; exact rfl; intro E
                  refine AOps.guardF rfl rfl rfl hb17 ?_
                  exact AOps.nil ⟨rfl, rfl⟩
                  exact rfl
                  apply DrawSeq.consF; exact rfl; intro E
                  refine AOps.guardF rfl rfl rfl hb17 ?_
                  exact AOps.nil ⟨rfl, rfl⟩
                  exact rfl
                  apply DrawSeq.consF; exact rfl; intro E
                  refine AOps.guardF rfl rfl rfl hb17 ?_
                  exact AOps.nil ⟨rfl, rfl⟩
                  exact rfl
                  apply DrawSeq.consF; exact rfl; intro E
                  refine AOps.guardF rfl rfl rfl hb17 ?_
                  exact AOps.nil ⟨rfl, rfl⟩
                  exact rfl
                  apply DrawSeq.consF; exact rfl; intro E
                  refine AOps.guardF rfl rfl rfl hb17 ?_
                  exact AOps.nil ⟨rfl, rfl⟩
                  exact rfl
                  apply DrawSeq.consF; exact rfl; intro E
                  refine AOps.guardF rfl rfl rfl hb17 ?_
                  exact AOps.nil ⟨rfl, rfl⟩
                  exact rfl
                  apply DrawSeq.consF; exact rfl; intro E
                  refine AOps.pickF rfl hb17 rfl rfl ?_
                  exact AOps.nil ⟨rfl, rfl⟩
                  exact rfl
                  apply DrawSeq.consF; exact rfl; intro E
                  refine AOps.move rfl rfl ?_
                  exact AOps.nil ⟨rfl, rfl⟩
                  exact rfl
                  apply DrawSeq.consF; exact rfl; intro E
                  refine AOps.guardF rfl rfl rfl rfl ?_
                  exact AOps.nil ⟨rfl, rfl⟩
                  exact rfl
                  apply DrawSeq.consF; exact rfl; intro E
                  refine AOps.guardF rfl rfl rfl rfl ?_
                  exact AOps.nil ⟨rfl, rfl⟩
                  exact rfl
                  apply DrawSeq.consF; exact rfl; intro E
                  refine AOps.guardF rfl rfl rfl rfl ?_
                  exact AOps.nil ⟨rfl, rfl⟩
                  exact rfl
                  apply DrawSeq.consF; exact rfl; intro E
                  refine AOps.guardF rfl rfl rfl rfl ?_
                  exact AOps.nil ⟨rfl, rfl⟩
                  exact rfl
                  apply DrawSeq.consF; exact rfl; intro E
                  refine AOps.guardF rfl rfl rfl rfl ?_
                  exact AOps.nil ⟨rfl, rfl⟩
                  exact rfl
                  apply DrawSeq.consF; exact rfl; intro E
                  refine AOps.guardF rfl rfl rfl rfl ?_
                  exact AOps.nil ⟨rfl, rfl⟩
                  exact rfl
                  apply DrawSeq.consF; exact rfl; intro E
                  refine AOps.guardF rfl rfl rfl rfl ?_
                  exact AOps.nil ⟨rfl, rfl⟩
                  exact rfl
                  apply DrawSeq.consF; exact rfl; intro E
                  refine AOps.guardF rfl rfl rfl rfl ?_
                  exact AOps.nil ⟨rfl, rfl⟩
                  exact rfl
                  apply DrawSeq.consF; exact rfl; intro E
                  refine AOps.guardF rfl rfl rfl rfl ?_
                  exact AOps.nil ⟨rfl, rfl⟩
                  exact rfl
                  apply DrawSeq.consF; exact rfl; intro E
                  refine AOps.guardF rfl rfl rfl rfl ?_
                  exact AOps.nil ⟨rfl, rfl⟩
                  exact rfl
                  apply DrawSeq.consF; exact rfl; intro E
                  refine AOps.pickF rfl rfl rfl rfl ?_
                  exact AOps.nil ⟨rfl, rfl⟩
                  exact rfl
                  refine DrawSeq.done ?_
                  dsimp only [envEnd]
                  have ej := Option.some.inj hx15
                  subst ej
                  refine thn_normal ?_
                  exact Sub.env ⟨rfl, rfl, rfl, rfl, rfl, rfl, rfl, rfl, rfl, trivial⟩
              · replace hx15 := iteDF hb16 hx15
                refine AWP.drawI mixed rfl ?_
                apply DrawSeq.consF; exact rfl; intro E
                refine W.fieldAddr rfl rfl rfl rfl ?_
                exact AOps.nil ⟨rfl, rfl⟩
                exact rfl
                apply DrawSeq.consF; exact rfl; intro E
                refine AOps.load rfl rfl rfl rfl rfl rfl ?_
                exact AOps.nil ⟨rfl, rfl⟩
                exact rfl
                apply DrawSeq.consF; exact rfl; intro E
                refine AOps.move rfl rfl ?_
                exact AOps.nil ⟨rfl, rfl⟩
                exact rfl
                apply DrawSeq.consF; exact rfl; intro E
                refine S.idx ha35 rfl rfl rfl rfl ?_
                exact AOps.nil ⟨rfl, rfl⟩
                exact rfl
                apply DrawSeq.consF; exact rfl; intro E
                refine AOps.loadI rfl rfl rfl rfl ?_
                exact AOps.nil ⟨rfl, rfl⟩
                exact rfl
                apply DrawSeq.consF; exact rfl; intro E
                refine AOps.move rfl rfl ?_
                exact AOps.nil ⟨rfl, rfl⟩
                exact rfl
                apply DrawSeq.consF; exact rfl; intro E
                refine AOps.eql rfl rfl rfl ?_
                exact AOps.nil ⟨rfl, rfl⟩
                exact rfl
                apply DrawSeq.consF; exact rfl; intro E
                refine AOps.move rfl rfl ?_
                exact AOps.nil ⟨rfl, rfl⟩
                exact rfl
                apply DrawSeq.consF; exact rfl; intro E
                refine AOps.guardF rfl rfl rfl hb16 ?_
                exact AOps.nil ⟨rfl, rfl⟩
                exact rfl
                apply DrawSeq.consF; exact rfl; intro E
                refine AOps.guardF rfl rfl rfl hb16 ?_
                exact AOps.nil ⟨rfl, rfl⟩
                exact rfl
                apply DrawSeq.consF; exact rfl; intro E
                refine AOps.guardF rfl rfl rfl hb16 ?_
                exact AOps.nil ⟨rfl, rfl⟩
                exact rfl
                apply DrawSeq.consF; exact rfl; intro E
                refine AOps.guardF rfl rfl rfl hb16 ?_
                exact AOps.nil ⟨rfl, rfl⟩
                exact rfl
                apply DrawSeq.consF; exact rfl; intro E
                refine AOps.guardF rfl rfl rfl hb16 ?_
                exact AOps.nil ⟨rfl, rfl⟩
                exact rfl
                apply DrawSeq.consF; exact rfl; intro E
                refine AOps.pickF rfl hb16 rfl rfl ?_
                exact AOps.nil ⟨rfl, rfl⟩
                exact rfl
                apply DrawSeq.consF; exact rfl; intro E
                refine AOps.move rfl rfl ?_
                exact AOps.nil ⟨rfl, rfl⟩
                exact rfl
                apply DrawSeq.consF; exact rfl; intro E
                refine AOps.guardF rfl rfl rfl rfl ?_
                exact AOps.nil ⟨rfl, rfl⟩
                exact rfl
                apply DrawSeq.consF; exact rfl; intro E
                refine AOps.guardF rfl rfl rfl rfl ?_
                exact AOps.nil ⟨rfl, rfl⟩
                exact rfl
                apply DrawSeq.consF; exact rfl; intro E
                refine AOps.guardF rfl rfl rfl rfl ?_
                exact AOps.nil ⟨rfl, rfl⟩
                exact rfl
                apply DrawSeq.consF; exact rfl; intro E
                refine AOps.guardF rfl rfl rfl rfl ?_
                exact AOps.nil ⟨rfl, rfl⟩
                exact rfl
                apply DrawSeq.consF; exact rfl; intro E
                refine AOps.guardF rfl rfl rfl rfl ?_
                exact AOps.nil ⟨rfl, rfl⟩
                exact rfl
                apply DrawSeq.consF; exact rfl; intro E
                refine AOps.guardF rfl rfl rfl rfl ?_
                exact AOps.nil ⟨rfl, rfl⟩
                exact rfl
                apply DrawSeq.consF; exact rfl; intro E
                refine AOps.guardF rfl rfl rfl rfl ?_
                exact AOps.nil ⟨rfl, rfl⟩
                exact rfl
                apply DrawSeq.consF; exact rfl; intro E
                refine AOps.guardF rfl rfl rfl rfl ?_
                exact AOps.nil ⟨rfl, rfl⟩
                exact rfl
                apply DrawSeq.consF; exact rfl; intro E
                refine AOps.guardF rfl rfl rfl rfl ?_
                exact AOps.nil ⟨rfl, rfl⟩
                exact rfl
                apply DrawSeq.consF; exact rfl; intro E
                refine AOps.pickF rfl rfl rfl rfl ?_
                exact AOps.nil ⟨rfl, rfl⟩
                exact rfl
                apply DrawSeq.consF; exact rfl; intro E
                refine AOps.move rfl rfl ?_
                exact AOps.nil ⟨rfl, rfl⟩
                exact rfl
                apply DrawSeq.consF; exact rfl; intro E
                refine AOps.guardF rfl rfl rfl rfl ?_
                exact AOps.nil ⟨rfl, rfl⟩
                exact rfl
                apply DrawSeq.consF; exact rfl; intro E
                refine AOps.guardF rfl rfl rfl rfl ?_
                exact AOps.nil ⟨rfl, rfl⟩
                exact rfl
                apply DrawSeq.consF; exact rfl; intro E
                refine AOps.guardF rfl rfl rfl rfl ?_
                exact AOps.nil ⟨rfl, rfl⟩
                exact rfl
                apply DrawSeq.consF; exact rfl; intro E
                refine AOps.guardF rfl rfl rfl rfl ?_
                exact AOps.nil ⟨rfl, rfl⟩
                exact rfl
                apply DrawSeq.consF; exact rfl; intro E
                refine AOps.guardF rfl rfl rfl rfl ?_
                exact AOps.nil ⟨rfl, rfl⟩
                exact rfl
                apply DrawSeq.consF; exact rfl; intro E
                refine AOps.guardF rfl rfl rfl rfl ?_
                exact AOps.nil ⟨rfl, rfl⟩
                exact rfl
                apply DrawSeq.consF; exact rfl; intro E
                refine AOps.guardF rfl rfl rfl rfl ?_
                exact AOps.nil ⟨rfl, rfl⟩
                exact rfl
                apply DrawSeq.consF; exact rfl; intro E
                refine AOps.guardF rfl rfl rfl rfl ?_
                exact AOps.nil ⟨rfl, rfl⟩
                exact rfl
                apply DrawSeq.consF; exact rfl; intro E
                refine AOps.guardF rfl rfl rfl rfl ?_
                exact AOps.nil ⟨rfl, rfl⟩
                exact rfl
                apply DrawSeq.consF; exact rfl; intro E
                refine AOps.guardF rfl rfl rfl rfl ?_
                exact AOps.nil ⟨rfl, rfl⟩
                exact rfl
                apply DrawSeq.consF; exact rfl; intro E
                refine AOps.pickF rfl rfl rfl rfl ?_
                exact AOps.nil ⟨rfl, rfl⟩
                exact rfl
                refine DrawSeq.done ?_
                dsimp only [envEnd]
                have ej := Option.some.inj hx15
                subst ej
                refine thn_normal ?_
                exact Sub.env ⟨rfl, rfl, rfl, rfl, rfl, rfl, rfl, rfl, rfl, trivial⟩
            · refine AWP.iteB rfl hx13 (fun hc19 hx13 => ?_) (fun hc19 hx13 => ?_)
              · refine AWP.region ?_
                refine AOps.move rfl rfl ?_
                refine AOps.assign rfl rfl ?_
                refine AOps.nil ?_
                refine inB_normal ?_
                have ej := Option.some.inj hx13
                subst ej
                refine thn_normal ?_
                exact Sub.env ⟨rfl, rfl, rfl, rfl, rfl, rfl, rfl, rfl, trivial⟩
              · refine AWP.skip ?_
                refine inB_normal ?_
                have ej := Option.some.inj hx13
                subst ej
                refine thn_normal ?_
                exact Sub.env ⟨rfl, rfl, rfl, rfl, rfl, rfl, rfl, rfl, trivial⟩
          · refine AWP.region ?_
            refine AOps.move rfl rfl ?_
            refine AOps.add rfl rfl rfl (by omega) ?_
            refine AOps.assign rfl rfl ?_
            refine AOps.nil ?_
            have ej := Option.some.inj h
            subst ej
            refine thn_normal ?_
            exact Sub.env ⟨rfl, rfl, rfl, rfl, rfl, rfl, rfl, rfl, trivial⟩
        · intro e s hq
          obtain ⟨rfl, hs⟩ := hq
          refine ⟨_, hs, ?_⟩
          refine inB_exit ?_
          refine inB_normal ?_
          refine thn_normal ?_
          refine AWP.region ?_
          refine AOps.move rfl rfl ?_
          refine S.sub rfl rfl rfl ?_
          refine AOps.assign rfl rfl ?_
          refine AOps.nil ?_
          have ej := Option.some.inj h
          subst ej
          refine thn_normal ⟨_, rfl, ?_⟩
          exact Sub.env ⟨rfl, rfl, rfl, rfl, rfl, rfl, rfl, trivial⟩
      · refine AWP.exit ?_
        refine thn_exit ?_
        have ej := Option.some.inj h
        subst ej
        refine thn_exit ⟨_, rfl, rfl, ?_⟩
        exact Sub.env ⟨rfl, rfl, rfl, rfl, rfl, rfl, trivial⟩
    · intro e s hq
      obtain ⟨rfl, hs⟩ := hq
      refine ⟨_, hs, ?_⟩
      refine inB_exit ?_
      refine thn_normal ?_
      obtain ⟨a73, ha73, h⟩ := bind_some h
      refine AWP.region ?_
      refine AOps.move rfl rfl ?_
      refine AOps.move rfl rfl ?_
      refine S.lit (f := intI) (l := [best8]) (ess := [[int best8]]) rfl rfl rfl rfl rfl rfl rfl ⟨⟨.inl rfl, trivial⟩, trivial⟩ rfl rfl rfl ?_
      refine S.append (f := intI) ha73 rfl rfl rfl rfl rfl rfl (.own rfl (by simp only [List.length_set])) rfl rfl rfl rfl ?_
      refine AOps.assign rfl rfl ?_
      refine AOps.nil ?_
      refine inB_normal ?_
      refine thn_normal ?_
      refine AWP.move (env' := [(1, .c (int player)), (2, .c (row 1 intI rank)), (3, .c (.ptr 0 0 0)), (7, .c (.own 1 0 a73.length)), (8, .c (int p5))]) (σ' := [.one (.cells 2 [[row 1 intI gv.owner, row 2 eA2i64 gv.arcs]]), .one (vec 1 intI a73), .one (vec 1 intI [best8])]) 1 3 rfl rfl rfl ⟨rfl, rfl, rfl, rfl, rfl, trivial⟩ rfl ⟨⟨rfl, rfl⟩, ⟨Blk.im_ok _ _ _, vec_mv rfl⟩, ⟨Blk.im_ok _ _ _, vec_mv rfl⟩, trivial⟩ ?_
      refine AWP.region ?_
      refine AOps.move rfl rfl ?_
      refine AOps.add rfl rfl rfl (by omega) ?_
      refine AOps.assign rfl rfl ?_
      refine AOps.nil ?_
      have ej := Option.some.inj h
      subst ej
      refine thn_normal ?_
      exact Sub.cut ⟨rfl, rfl, rfl, rfl, rfl, trivial⟩ rfl ⟨.one rfl, .vec, trivial⟩ rfl
  · intro e s hq
    obtain ⟨rfl, hs⟩ := hq
    refine ⟨_, hs, ?_⟩
    refine inB_exit ?_
    refine thn_normal ?_
    refine AWP.seq ?_
    refine AWP.region ?_
    refine AOps.move rfl rfl ?_
    refine AOps.assign rfl rfl ?_
    refine AOps.nil ?_
    refine thn_normal ?_
    refine AWP.ret ?_
    have ej := Option.some.inj h
    subst ej
    exact Done.ret rfl (Fresh.mk rfl rfl)

def law8_GamesMatchesSpec_l1 (a86 : (List Int)) : Int → (List Int) → Option (List Int) := fun p10 c9 => Option.bind (Option.bind (ix a86 p10) fun a95 => if a95 < 0 then Option.bind (app 8 c9 [p10]) fun a101 => some a101 else some c9) fun c11 => some c11
noncomputable def law8_GamesMatchesSpec (gv : TGame) (player : Int) (targets : List Int) : Option Bool := Option.bind (games_Attractor gv player targets) fun a22 => Option.bind (games_Strategy gv player targets) fun a29 => Option.bind (games_Safe gv player targets) fun a36 => Option.bind (ref8_PlayerFault gv player targets) fun a42 => Option.bind (games_Validate gv) fun a44 => Option.bind (ref8_GameFault gv) fun a46 => if ((((!((decide (a44.code = a46.code)) && (decide (a44.index = a46.index)))) || (!((decide (a22.2.code = a42.code)) && (decide (a22.2.index = a42.index))))) || (!((decide (a29.2.code = a42.code)) && (decide (a29.2.index = a42.index))))) || (!((decide (a36.2.code = a42.code)) && (decide (a36.2.index = a42.index))))) = true then some false else if a42.code = 0 then Option.bind (ref8_Ranked gv player targets) fun a81 => Option.bind (ref8_Ranked gv (w64 (1 - player)) targets) fun a86 => (Option.bind (forR 0 (a86.length : Int) (law8_GamesMatchesSpec_l1 a86) []) fun c9 => Option.bind (Option.bind (equal_Numbers a22.1 a81) fun a104 => if a104 = true then Option.bind (ref8_Moves gv player a81) fun a110 => Option.bind (equal_Numbers a29.1 a110) fun a111 => if a111 = true then Option.bind (equal_Numbers a36.1 c9) fun a116 => if a116 = true then Option.bind (law8_forced) fun a119 => some a119 else some false else some false else some false) fun t14 => some t14) else Option.bind (if w64 ((w64 ((a22.1.length : Int) + (a29.1.length : Int))) + (a36.1.length : Int)) = 0 then Option.bind (law8_forced) fun a76 => some a76 else some false) fun t6 => some t6
theorem law8_GamesMatchesSpec_ok {gv : TGame} {player : Int} {targets : List Int} {r : Bool} (h : law8_GamesMatchesSpec gv player targets = some r) : PureOk Try.prog 4 [.agg [row 1 intI gv.owner, row 2 eA2i64 gv.arcs], .c (int player), .c (row 1 intI targets)] (.c (bool r)) := by
  unfold PureOk
  refine FnOk.enter (rs := [.t 6]) Try.func4 rfl Try.ntmps4 Try.results4 rfl ⟨trivial, trivial⟩ (by kernel_rfl) rfl ?_
  unfold law8_GamesMatchesSpec at h
  refine AWP.seq ?_
  refine AWP.region ?_
  refine W.box rfl rfl rfl rfl rfl rfl ?_
  refine AOps.assign rfl rfl ?_
  refine AOps.nil ?_
  refine thn_normal ?_
  refine AWP.seq ?_
  obtain ⟨a22, ha22, h⟩ := bind_some h
  refine AWP.region ?_
  refine W.loadAgg rfl rfl rfl rfl rfl rfl rfl ?_
  refine AOps.move rfl rfl ?_
  refine AOps.move rfl rfl ?_
  refine AOps.callR rfl rfl rfl rfl (games_Attractor_ok ha22) rfl ?_
  refine AOps.move rfl rfl ?_
  refine AOps.extract rfl rfl rfl ?_
  refine AOps.extract rfl rfl rfl ?_
  refine W.alloc rfl rfl rfl rfl ?_
  refine AOps.assign rfl rfl ?_
  refine W.storeAgg rfl rfl rfl rfl rfl rfl rfl ?_
  refine AOps.nil ?_
  refine thn_normal ?_
  refine AWP.seq ?_
  obtain ⟨a29, ha29, h⟩ := bind_some h
  refine AWP.region ?_
  refine W.loadAgg rfl rfl rfl rfl rfl rfl rfl ?_
  refine AOps.move rfl rfl ?_
  refine AOps.move rfl rfl ?_
  refine AOps.callR rfl rfl rfl rfl (games_Strategy_ok ha29) rfl ?_
  refine AOps.move rfl rfl ?_
  refine AOps.extract rfl rfl rfl ?_
  refine AOps.extract rfl rfl rfl ?_
  refine W.alloc rfl rfl rfl rfl ?_
  refine AOps.assign rfl rfl ?_
  refine W.storeAgg rfl rfl rfl rfl rfl rfl rfl ?_
  refine AOps.nil ?_
  refine thn_normal ?_
  refine AWP.seq ?_
  obtain ⟨a36, ha36, h⟩ := bind_some h
  refine AWP.region ?_
  refine W.loadAgg rfl rfl rfl rfl rfl rfl rfl ?_
  refine AOps.move rfl rfl ?_
  refine AOps.move rfl rfl ?_
  refine AOps.callR rfl rfl rfl rfl (games_Safe_ok ha36) rfl ?_
  refine AOps.move rfl rfl ?_
  refine AOps.extract rfl rfl rfl ?_
  refine AOps.extract rfl rfl rfl ?_
  refine W.alloc rfl rfl rfl rfl ?_
  refine AOps.assign rfl rfl ?_
  refine W.storeAgg rfl rfl rfl rfl rfl rfl rfl ?_
  refine AOps.nil ?_
  refine thn_normal ?_
  refine AWP.seq ?_
  obtain ⟨a42, ha42, h⟩ := bind_some h
  refine AWP.region ?_
  refine W.loadAgg rfl rfl rfl rfl rfl rfl rfl ?_
  refine AOps.move rfl rfl ?_
  refine AOps.move rfl rfl ?_
  refine AOps.callR rfl rfl rfl rfl (ref8_PlayerFault_ok ha42) rfl ?_
  refine W.alloc rfl rfl rfl rfl ?_
  refine W.storeAgg rfl rfl rfl rfl rfl rfl rfl ?_
  refine AOps.nil ?_
  refine thn_normal ?_
  refine AWP.seq ?_
  obtain ⟨a44, ha44, h⟩ := bind_some h
  obtain ⟨a46, ha46, h⟩ := bind_some h
  refine AWP.seqJ (⟨[(1, .c (int player)), (2, .c (row 1 intI targets)), (3, .c (.ptr 0 0 0)), (7, .c (row 1 intI a22.1)), (9, .c (row 1 intI a29.1)), (11, .c (row 1 intI a36.1)), (13, .c (.ptr 4 0 0)), (62, .c (bool ((((!((decide (a44.code = a46.code)) && (decide (a44.index = a46.index)))) || (!((decide (a22.2.code = a42.code)) && (decide (a22.2.index = a42.index))))) || (!((decide (a29.2.code = a42.code)) && (decide (a29.2.index = a42.index))))) || (!((decide (a36.2.code = a42.code)) && (decide (a36.2.index = a42.index)))))))], [.one (.cells 2 [[row 1 intI gv.owner, row 2 eA2i64 gv.arcs]]), .one (.cells 2 [[int a22.2.code, int a22.2.index]]), .one (.cells 2 [[int a29.2.code, int a29.2.index]]), .one (.cells 2 [[int a36.2.code, int a36.2.index]]), .one (.cells 2 [[int a42.code, int a42.index]])]⟩) ?_ ?_
  · rcases Bool.eq_false_or_eq_true (!((decide (a44.code = a46.code)) && (decide (a44.index = a46.index)))) with hb1 | hb1
    · refine AWP.drawI mixed rfl ?_
      apply DrawSeq.consF; exact rfl; intro E
      refine W.loadAgg rfl rfl rfl rfl rfl rfl rfl ?_
      exact AOps.nil ⟨rfl, rfl⟩
      exact rfl
      apply DrawSeq.consF; exact rfl; intro E
      refine AOps.callR rfl rfl rfl rfl (games_Validate_ok ha44) rfl ?_
      exact AOps.nil ⟨rfl, rfl⟩
      exact rfl
      apply DrawSeq.consF; exact rfl; intro E
      refine W.loadAgg rfl rfl rfl rfl rfl rfl rfl ?_
      exact AOps.nil ⟨rfl, rfl⟩
      exact rfl
      apply DrawSeq.consF; exact rfl; intro E
      refine AOps.callR rfl rfl rfl rfl (ref8_GameFault_ok ha46) rfl ?_
      exact AOps.nil ⟨rfl, rfl⟩
      exact rfl
      apply DrawSeq.consF; exact rfl; intro E
      refine AOps.neqP rfl rfl rfl rfl rfl rfl rfl ?_
      exact AOps.nil ⟨rfl, rfl⟩
      exact rfl
      apply DrawSeq.consF; exact rfl; intro E
      refine AOps.move rfl rfl ?_
      exact AOps.nil ⟨rfl, rfl⟩
      exact rfl
      apply DrawSeq.consF; exact rfl; intro E
      refine AOps.guardF rfl rfl rfl hb1 ?_
      exact AOps.nil ⟨rfl, rfl⟩
      exact rfl
      apply DrawSeq.consF; exact rfl; intro E
      refine AOps.guardF rfl rfl rfl hb1 ?_
      exact AOps.nil ⟨rfl, rfl⟩
      exact rfl
      apply DrawSeq.consF; exact rfl; intro E
      refine AOps.guardF rfl rfl rfl hb1 ?_
      exact AOps.nil ⟨rfl, rfl⟩
      exact rfl
      apply DrawSeq.consF; exact rfl; intro E
      refine AOps.pickT rfl hb1 rfl rfl ?_
      exact AOps.nil ⟨rfl, rfl⟩
      exact rfl
      apply DrawSeq.consF; exact rfl; intro E
      refine AOps.move rfl rfl ?_
      exact AOps.nil ⟨rfl, rfl⟩
      exact rfl
      apply DrawSeq.consF; exact rfl; intro E
      refine AOps.guardF rfl rfl rfl rfl ?_
      exact AOps.nil ⟨rfl, rfl⟩
      exact rfl
      apply DrawSeq.consF; exact rfl; intro E
      refine AOps.guardF rfl rfl rfl rfl ?_
      exact AOps.nil ⟨rfl, rfl⟩
      exact rfl
      apply DrawSeq.consF; exact rfl; intro E
      refine AOps.guardF rfl rfl rfl rfl ?_
      exact AOps.nil ⟨rfl, rfl⟩
      exact rfl
      apply DrawSeq.consF; exact rfl; intro E
      refine AOps.pickT rfl rfl rfl rfl ?_
      exact AOps.nil ⟨rfl, rfl⟩
      exact rfl
      apply DrawSeq.consF; exact rfl; intro E
      refine AOps.move rfl rfl ?_
      exact AOps.nil ⟨rfl, rfl⟩
      exact rfl
      apply DrawSeq.consF; exact rfl; intro E
      refine AOps.guardF rfl rfl rfl rfl ?_
      exact AOps.nil ⟨rfl, rfl⟩
      exact rfl
      apply DrawSeq.consF; exact rfl; intro E
      refine AOps.guardF rfl rfl rfl rfl ?_
      exact AOps.nil ⟨rfl, rfl⟩
      exact rfl
      apply DrawSeq.consF; exact rfl; intro E
      refine AOps.guardF rfl rfl rfl rfl ?_
      exact AOps.nil ⟨rfl, rfl⟩
      exact rfl
      apply DrawSeq.consF; exact rfl; intro E
      refine AOps.pickT rfl rfl rfl rfl ?_
      exact AOps.nil ⟨rfl, rfl⟩
      exact rfl
      refine DrawSeq.done ?_
      dsimp only [envEnd]
      refine thn_normal ?_
      simp only [and_t hb1, or_t hb1]
      exact Sub.env ⟨rfl, rfl, rfl, rfl, rfl, rfl, rfl, rfl, trivial⟩
    · rcases Bool.eq_false_or_eq_true (!((decide (a22.2.code = a42.code)) && (decide (a22.2.index = a42.index)))) with hb2 | hb2
      · refine AWP.drawI mixed rfl ?_
        apply DrawSeq.consF; exact rfl; intro E
        refine W.loadAgg rfl rfl rfl rfl rfl rfl rfl ?_
        exact AOps.nil ⟨rfl, rfl⟩
        exact rfl
        apply DrawSeq.consF; exact rfl; intro E
        refine AOps.callR rfl rfl rfl rfl (games_Validate_ok ha44) rfl ?_
        exact AOps.nil ⟨rfl, rfl⟩
        exact rfl
        apply DrawSeq.consF; exact rfl; intro E
        refine W.loadAgg rfl rfl rfl rfl rfl rfl rfl ?_
        exact AOps.nil ⟨rfl, rfl⟩
        exact rfl
        apply DrawSeq.consF; exact rfl; intro E
        refine AOps.callR rfl rfl rfl rfl (ref8_GameFault_ok ha46) rfl ?_
        exact AOps.nil ⟨rfl, rfl⟩
        exact rfl
        apply DrawSeq.consF; exact rfl; intro E
        refine AOps.neqP rfl rfl rfl rfl rfl rfl rfl ?_
        exact AOps.nil ⟨rfl, rfl⟩
        exact rfl
        apply DrawSeq.consF; exact rfl; intro E
        refine AOps.move rfl rfl ?_
        exact AOps.nil ⟨rfl, rfl⟩
        exact rfl
        apply DrawSeq.consF; exact rfl; intro E
        refine AOps.guardT rfl rfl rfl hb1 ?_; refine W.loadAgg rfl rfl rfl rfl rfl rfl rfl ?_
        exact AOps.nil ⟨rfl, rfl⟩
        exact rfl
        apply DrawSeq.consF; exact rfl; intro E
        refine AOps.guardT rfl rfl rfl hb1 ?_; refine W.loadAgg rfl rfl rfl rfl rfl rfl rfl ?_
        exact AOps.nil ⟨rfl, rfl⟩
        exact rfl
        apply DrawSeq.consF; exact rfl; intro E
        refine AOps.guardT rfl rfl rfl hb1 ?_; refine AOps.neqP rfl rfl rfl rfl rfl rfl rfl ?_
        exact AOps.nil ⟨rfl, rfl⟩
        exact rfl
        apply DrawSeq.consF; exact rfl; intro E
        refine AOps.pickF rfl hb1 rfl rfl ?_
        exact AOps.nil ⟨rfl, rfl⟩
        exact rfl
        apply DrawSeq.consF; exact rfl; intro E
        refine AOps.move rfl rfl ?_
        exact AOps.nil ⟨rfl, rfl⟩
        exact rfl
        apply DrawSeq.consF; exact rfl; intro E
        refine AOps.guardF rfl rfl rfl hb2 ?_
        exact AOps.nil ⟨rfl, rfl⟩
        exact rfl
        apply DrawSeq.consF; exact rfl; intro E
        refine AOps.guardF rfl rfl rfl hb2 ?_
        exact AOps.nil ⟨rfl, rfl⟩
        exact rfl
        apply DrawSeq.consF; exact rfl; intro E
        refine AOps.guardF rfl rfl rfl hb2 ?_
        exact AOps.nil ⟨rfl, rfl⟩
        exact rfl
        apply DrawSeq.consF; exact rfl; intro E
        refine AOps.pickT rfl hb2 rfl rfl ?_
        exact AOps.nil ⟨rfl, rfl⟩
        exact rfl
        apply DrawSeq.consF; exact rfl; intro E
        refine AOps.move rfl rfl ?_
        exact AOps.nil ⟨rfl, rfl⟩
        exact rfl
        apply DrawSeq.consF; exact rfl; intro E
        refine AOps.guardF rfl rfl rfl rfl ?_
        exact AOps.nil ⟨rfl, rfl⟩
        exact rfl
        apply DrawSeq.consF; exact rfl; intro E
        refine AOps.guardF rfl rfl rfl rfl ?_
        exact AOps.nil ⟨rfl, rfl⟩
        exact rfl
        apply DrawSeq.consF; exact rfl; intro E
        refine AOps.guardF rfl rfl rfl rfl ?_
        exact AOps.nil ⟨rfl, rfl⟩
        exact rfl
        apply DrawSeq.consF; exact rfl; intro E
        refine AOps.pickT rfl rfl rfl rfl ?_
        exact AOps.nil ⟨rfl, rfl⟩
        exact rfl
        refine DrawSeq.done ?_
        dsimp only [envEnd]
        refine thn_normal ?_
        simp only [and_f hb1, or_f hb1, and_t hb2, or_t hb2]
        exact Sub.env ⟨rfl, rfl, rfl, rfl, rfl, rfl, rfl, rfl, trivial⟩
      · rcases Bool.eq_false_or_eq_true (!((decide (a29.2.code = a42.code)) && (decide (a29.2.index = a42.index)))) with hb3 | hb3
        · refine AWP.drawI mixed rfl ?_
          apply DrawSeq.consF; exact rfl; intro E
          refine W.loadAgg rfl rfl rfl rfl rfl rfl rfl ?_
          exact AOps.nil ⟨rfl, rfl⟩
          exact rfl
          apply DrawSeq.consF; exact rfl; intro E
          refine AOps.callR rfl rfl rfl rfl (games_Validate_ok ha44) rfl ?_
          exact AOps.nil ⟨rfl, rfl⟩
          exact rfl
          apply DrawSeq.consF; exact rfl; intro E
          refine W.loadAgg rfl rfl rfl rfl rfl rfl rfl ?_
          exact AOps.nil ⟨rfl, rfl⟩
          exact rfl
          apply DrawSeq.consF; exact rfl; intro E
          refine AOps.callR rfl rfl rfl rfl (ref8_GameFault_ok ha46) rfl ?_
          exact AOps.nil ⟨rfl, rfl⟩
          exact rfl
          apply DrawSeq.consF; exact rfl; intro E
          refine AOps.neqP rfl rfl rfl rfl rfl rfl rfl ?_
          exact AOps.nil ⟨rfl, rfl⟩
          exact rfl
          apply DrawSeq.consF; exact rfl; intro E
          refine AOps.move rfl rfl ?_
          exact AOps.nil ⟨rfl, rfl⟩
          exact rfl
          apply DrawSeq.consF; exact rfl; intro E
          refine AOps.guardT rfl rfl rfl hb1 ?_; refine W.loadAgg rfl rfl rfl rfl rfl rfl rfl ?_
          exact AOps.nil ⟨rfl, rfl⟩
          exact rfl
          apply DrawSeq.consF; exact rfl; intro E
          refine AOps.guardT rfl rfl rfl hb1 ?_; refine W.loadAgg rfl rfl rfl rfl rfl rfl rfl ?_
          exact AOps.nil ⟨rfl, rfl⟩
          exact rfl
          apply DrawSeq.consF; exact rfl; intro E
          refine AOps.guardT rfl rfl rfl hb1 ?_; refine AOps.neqP rfl rfl rfl rfl rfl rfl rfl ?_
          exact AOps.nil ⟨rfl, rfl⟩
          exact rfl
          apply DrawSeq.consF; exact rfl; intro E
          refine AOps.pickF rfl hb1 rfl rfl ?_
          exact AOps.nil ⟨rfl, rfl⟩
          exact rfl
          apply DrawSeq.consF; exact rfl; intro E
          refine AOps.move rfl rfl ?_
          exact AOps.nil ⟨rfl, rfl⟩
          exact rfl
          apply DrawSeq.consF; exact rfl; intro E
          refine AOps.guardT rfl rfl rfl hb2 ?_; refine W.loadAgg rfl rfl rfl rfl rfl rfl rfl ?_
          exact AOps.nil ⟨rfl, rfl⟩
          exact rfl
          apply DrawSeq.consF; exact rfl; intro E
          refine AOps.guardT rfl rfl rfl hb2 ?_; refine W.loadAgg rfl rfl rfl rfl rfl rfl rfl ?_
          exact AOps.nil ⟨rfl, rfl⟩
          exact rfl
          apply DrawSeq.consF; exact rfl; intro E
          refine AOps.guardT rfl rfl rfl hb2 ?_; refine AOps.neqP rfl rfl rfl rfl rfl rfl rfl ?_
          exact AOps.nil ⟨rfl, rfl⟩
          exact rfl
          apply DrawSeq.consF; exact rfl; intro E
          refine AOps.pickF rfl hb2 rfl rfl ?_
          exact AOps.nil ⟨rfl, rfl⟩
          exact rfl
          apply DrawSeq.consF; exact rfl; intro E
          refine AOps.move rfl rfl ?_
          exact AOps.nil ⟨rfl, rfl⟩
          exact rfl
          apply DrawSeq.consF; exact rfl; intro E
          refine AOps.guardF rfl rfl rfl hb3 ?_
          exact AOps.nil ⟨rfl, rfl⟩
          exact rfl
          apply DrawSeq.consF; exact rfl; intro E
          refine AOps.guardF rfl rfl rfl hb3 ?_
          exact AOps.nil ⟨rfl, rfl⟩
          exact rfl
          apply DrawSeq.consF; exact rfl; intro E
          refine AOps.guardF rfl rfl rfl hb3 ?_
          exact AOps.nil ⟨rfl, rfl⟩
          exact rfl
          apply DrawSeq.consF; exact rfl; intro E
          refine AOps.pickT rfl hb3 rfl rfl ?_
          exact AOps.nil ⟨rfl, rfl⟩
          exact rfl
          refine DrawSeq.done ?_
          dsimp only [envEnd]
          refine thn_normal ?_
          simp only [and_f hb1, or_f hb1, and_f hb2, or_f hb2, and_t hb3, or_t hb3]
          exact Sub.env ⟨rfl, rfl, rfl, rfl, rfl, rfl, rfl, rfl, trivial⟩
        · refine AWP.drawI mixed rfl ?_
          apply DrawSeq.consF; exact rfl; intro E
          refine W.loadAgg rfl rfl rfl rfl rfl rfl rfl ?_
          exact AOps.nil ⟨rfl, rfl⟩
          exact rfl
          apply DrawSeq.consF; exact rfl; intro E
          refine AOps.callR rfl rfl rfl rfl (games_Validate_ok ha44) rfl ?_
          exact AOps.nil ⟨rfl, rfl⟩
          exact rfl
          apply DrawSeq.consF; exact rfl; intro E
          refine W.loadAgg rfl rfl rfl rfl rfl rfl rfl ?_
          exact AOps.nil ⟨rfl, rfl⟩
          exact rfl
          apply DrawSeq.consF; exact rfl; intro E
          refine AOps.callR rfl rfl rfl rfl (ref8_GameFault_ok ha46) rfl ?_
          exact AOps.nil ⟨rfl, rfl⟩
          exact rfl
          apply DrawSeq.consF; exact rfl; intro E
          refine AOps.neqP rfl rfl rfl rfl rfl rfl rfl ?_
          exact AOps.nil ⟨rfl, rfl⟩
          exact rfl
          apply DrawSeq.consF; exact rfl; intro E
          refine AOps.move rfl rfl ?_
          exact AOps.nil ⟨rfl, rfl⟩
          exact rfl
          apply DrawSeq.consF; exact rfl; intro E
          refine AOps.guardT rfl rfl rfl hb1 ?_; refine W.loadAgg rfl rfl rfl rfl rfl rfl rfl ?_
          exact AOps.nil ⟨rfl, rfl⟩
          exact rfl
          apply DrawSeq.consF; exact rfl; intro E
          refine AOps.guardT rfl rfl rfl hb1 ?_; refine W.loadAgg rfl rfl rfl rfl rfl rfl rfl ?_
          exact AOps.nil ⟨rfl, rfl⟩
          exact rfl
          apply DrawSeq.consF; exact rfl; intro E
          refine AOps.guardT rfl rfl rfl hb1 ?_; refine AOps.neqP rfl rfl rfl rfl rfl rfl rfl ?_
          exact AOps.nil ⟨rfl, rfl⟩
          exact rfl
          apply DrawSeq.consF; exact rfl; intro E
          refine AOps.pickF rfl hb1 rfl rfl ?_
          exact AOps.nil ⟨rfl, rfl⟩
          exact rfl
          apply DrawSeq.consF; exact rfl; intro E
          refine AOps.move rfl rfl ?_
          exact AOps.nil ⟨rfl, rfl⟩
          exact rfl
          apply DrawSeq.consF; exact rfl; intro E
          refine AOps.guardT rfl rfl rfl hb2 ?_; refine W.loadAgg rfl rfl rfl rfl rfl rfl rfl ?_
          exact AOps.nil ⟨rfl, rfl⟩
          exact rfl
          apply DrawSeq.consF; exact rfl; intro E
          refine AOps.guardT rfl rfl rfl hb2 ?_; refine W.loadAgg rfl rfl rfl rfl rfl rfl rfl ?_
          exact AOps.nil ⟨rfl, rfl⟩
          exact rfl
          apply DrawSeq.consF; exact rfl; intro E
          refine AOps.guardT rfl rfl rfl hb2 ?_; refine AOps.neqP rfl rfl rfl rfl rfl rfl rfl ?_
          exact AOps.nil ⟨rfl, rfl⟩
          exact rfl
          apply DrawSeq.consF; exact rfl; intro E
          refine AOps.pickF rfl hb2 rfl rfl ?_
          exact AOps.nil ⟨rfl, rfl⟩
          exact rfl
          apply DrawSeq.consF; exact rfl; intro E
          refine AOps.move rfl rfl ?_
          exact AOps.nil ⟨rfl, rfl⟩
          exact rfl
          apply DrawSeq.consF; exact rfl; intro E
          refine AOps.guardT rfl rfl rfl hb3 ?_; refine W.loadAgg rfl rfl rfl rfl rfl rfl rfl ?_
          exact AOps.nil ⟨rfl, rfl⟩
          exact rfl
          apply DrawSeq.consF; exact rfl; intro E
          refine AOps.guardT rfl rfl rfl hb3 ?_; refine W.loadAgg rfl rfl rfl rfl rfl rfl rfl ?_
          exact AOps.nil ⟨rfl, rfl⟩
          exact rfl
          apply DrawSeq.consF; exact rfl; intro E
          refine AOps.guardT rfl rfl rfl hb3 ?_; refine AOps.neqP rfl rfl rfl rfl rfl rfl rfl ?_
          exact AOps.nil ⟨rfl, rfl⟩
          exact rfl
          apply DrawSeq.consF; exact rfl; intro E
          refine AOps.pickF rfl hb3 rfl rfl ?_
          exact AOps.nil ⟨rfl, rfl⟩
          exact rfl
          refine DrawSeq.done ?_
          dsimp only [envEnd]
          refine thn_normal ?_
          simp only [and_f hb1, or_f hb1, and_f hb2, or_f hb2, and_f hb3, or_f hb3]
          exact Sub.env ⟨rfl, rfl, rfl, rfl, rfl, rfl, rfl, rfl, trivial⟩
  · refine AWP.iteB rfl h (fun hc4 h => ?_) (fun hc4 h => ?_)
    · refine AWP.seq ?_
      refine AWP.region ?_
      refine AOps.assign rfl rfl ?_
      refine AOps.nil ?_
      refine thn_normal ?_
      refine AWP.ret ?_
      refine thn_ret ?_
      have ej := Option.some.inj h
      subst ej
      exact Done.ret rfl rfl
    · refine AWP.skip ?_
      refine thn_normal ?_
      refine AWP.seq ?_
      refine AWP.seq ?_
      refine AWP.region ?_
      refine W.fieldAddr rfl rfl rfl rfl ?_
      refine AOps.load rfl rfl rfl rfl rfl rfl ?_
      refine AOps.neq rfl rfl rfl ?_
      refine AOps.nil ?_
      refine thn_normal ?_
      refine AWP.iteN rfl h (fun hc5 h => ?_) (fun hc5 h => ?_)
      · obtain ⟨t6, hx7, h⟩ := bind_some h
        refine AWP.seqJ (⟨[(6, .c (bool t6))], []⟩) ?_ ?_
        · rcases Bool.eq_false_or_eq_true (decide (w64 ((w64 ((a22.1.length : Int) + (a29.1.length : Int))) + (a36.1.length : Int)) = 0)) with hb8 | hb8
          · replace hx7 := iteDT hb8 hx7
            obtain ⟨a76, ha76, hx7⟩ := bind_some hx7
            refine AWP.region ?_
            refine AOps.move rfl rfl ?_
            refine S.len rfl rfl (fun hl67 => ?_)
            refine AOps.move rfl rfl ?_
            refine S.len rfl rfl (fun hl69 => ?_)
            refine S.add rfl rfl rfl ?_
            refine AOps.move rfl rfl ?_
            refine S.len rfl rfl (fun hl72 => ?_)
            refine S.add rfl rfl rfl ?_
            refine AOps.eql rfl rfl rfl ?_
            refine AOps.move rfl rfl ?_
            refine AOps.guardT rfl rfl rfl hb8 ?_; refine AOps.callR rfl rfl rfl rfl (law8_forced_ok ha76) rfl ?_
            refine AOps.pickT rfl hb8 rfl rfl ?_
            refine AOps.assign rfl rfl ?_
            refine AOps.nil ?_
            have ej := Option.some.inj hx7
            subst ej
            refine thn_normal ?_
            exact Sub.cut ⟨rfl, trivial⟩ rfl trivial rfl
          · replace hx7 := iteDF hb8 hx7
            refine AWP.region ?_
            refine AOps.move rfl rfl ?_
            refine S.len rfl rfl (fun hl67 => ?_)
            refine AOps.move rfl rfl ?_
            refine S.len rfl rfl (fun hl69 => ?_)
            refine S.add rfl rfl rfl ?_
            refine AOps.move rfl rfl ?_
            refine S.len rfl rfl (fun hl72 => ?_)
            refine S.add rfl rfl rfl ?_
            refine AOps.eql rfl rfl rfl ?_
            refine AOps.move rfl rfl ?_
            refine AOps.guardF rfl rfl rfl hb8 ?_
            refine AOps.pickF rfl hb8 rfl rfl ?_
            refine AOps.assign rfl rfl ?_
            refine AOps.nil ?_
            have ej := Option.some.inj hx7
            subst ej
            refine thn_normal ?_
            exact Sub.cut ⟨rfl, trivial⟩ rfl trivial rfl
        · refine AWP.ret ?_
          refine thn_ret ?_
          have ej := Option.some.inj h
          subst ej
          exact Done.ret rfl rfl
      · refine AWP.skip ?_
        refine thn_normal ?_
        refine AWP.seq ?_
        obtain ⟨a81, ha81, h⟩ := bind_some h
        refine AWP.region ?_
        refine W.loadAgg rfl rfl rfl rfl rfl rfl rfl ?_
        refine AOps.move rfl rfl ?_
        refine AOps.move rfl rfl ?_
        refine S.fresh rfl rfl rfl rfl (ref8_Ranked_ok ha81) rfl rfl ?_
        refine AOps.assign rfl rfl ?_
        refine AOps.nil ?_
        refine thn_normal ?_
        refine AWP.seq ?_
        obtain ⟨a86, ha86, h⟩ := bind_some h
        refine AWP.region ?_
        refine W.loadAgg rfl rfl rfl rfl rfl rfl rfl ?_
        refine AOps.move rfl rfl ?_
        refine S.sub rfl rfl rfl ?_
        refine AOps.move rfl rfl ?_
        refine S.fresh rfl rfl rfl rfl (ref8_Ranked_ok ha86) rfl rfl ?_
        refine AOps.assign rfl rfl ?_
        refine AOps.nil ?_
        refine thn_normal ?_
        refine AWP.seq ?_
        refine AWP.region ?_
        refine AOps.assign rfl rfl ?_
        refine AOps.nil ?_
        refine thn_normal ?_
        refine AWP.seq ?_
        refine AWP.seq ?_
        refine AWP.region ?_
        refine AOps.assign rfl rfl ?_
        refine AOps.nil ?_
        refine thn_normal ?_
        refine AWP.block ?_
        refine AWP.virtV 1 intI 16 rfl rfl rfl ?_
        obtain ⟨c9, ho1, h⟩ := bind_some h
        refine AWP.forS ho1 (fun p10 c9 => ⟨[(1, .c (int player)), (3, .c (.ptr 0 0 0)), (7, .c (row 1 intI a22.1)), (9, .c (row 1 intI a29.1)), (11, .c (row 1 intI a36.1)), (14, .c (.own 5 0 a81.length)), (15, .c (.own 6 0 a86.length)), (16, .c (.own 7 0 c9.length)), (17, .c (int p10))], [.one (.cells 2 [[row 1 intI gv.owner, row 2 eA2i64 gv.arcs]]), .dead, .dead, .dead, .dead, .one (vec 1 intI a81), .one (vec 1 intI a86), .one (vec 1 intI c9)]⟩) (fun c9 e st => e = .exit 0 ∧ Sub [] st ⟨[(1, .c (int player)), (3, .c (.ptr 0 0 0)), (7, .c (row 1 intI a22.1)), (9, .c (row 1 intI a29.1)), (11, .c (row 1 intI a36.1)), (14, .c (.own 5 0 a81.length)), (16, .c (.own 7 0 c9.length))], [.one (.cells 2 [[row 1 intI gv.owner, row 2 eA2i64 gv.arcs]]), .dead, .dead, .dead, .dead, .one (vec 1 intI a81), .one (vec 1 intI a86), .one (vec 1 intI c9)]⟩) ?_ ?_ ?_ ?_
        · try dsimp only
          exact Sub.cut ⟨rfl, rfl, rfl, rfl, rfl, rfl, rfl, (own_len (by first | rfl | simp only [List.length_set])), rfl, trivial⟩ rfl ⟨.one rfl, .dead, .dead, .dead, .dead, .vec, .vec, .vec, trivial⟩ rfl
        · intro p10 c9 hlop10 hltp10 _
          try dsimp only
          refine AWP.seq ?_
          refine AWP.seq ?_
          refine AWP.region ?_
          refine AOps.move rfl rfl ?_
          refine AOps.move rfl rfl ?_
          refine S.lenO rfl rfl rfl (fun hl89 => ?_)
          refine AOps.lss rfl rfl rfl ?_
          refine AOps.nil ?_
          refine thn_normal ?_
          refine AWP.condNP rfl hltp10 ?_
          refine AWP.exit ?_
          refine thn_exit ?_
          refine thn_exit ⟨rfl, ?_⟩
          exact Sub.env ⟨rfl, rfl, rfl, rfl, rfl, rfl, rfl, trivial⟩
        · intro p10 c9 o hlop10 hltp10 h
          unfold law8_GamesMatchesSpec_l1 at h
          try dsimp only at h ⊢
          refine AWP.seq ?_
          refine AWP.seq ?_
          refine AWP.region ?_
          refine AOps.move rfl rfl ?_
          refine AOps.move rfl rfl ?_
          refine S.lenO rfl rfl rfl (fun hl89 => ?_)
          refine AOps.lss rfl rfl rfl ?_
          refine AOps.nil ?_
          refine thn_normal ?_
          refine AWP.condP rfl hltp10 ?_
          refine AWP.skip ?_
          refine thn_normal ?_
          obtain ⟨c11, hx12, h⟩ := bind_some h
          refine AWP.seqJ (⟨[(1, .c (int player)), (3, .c (.ptr 0 0 0)), (7, .c (row 1 intI a22.1)), (9, .c (row 1 intI a29.1)), (11, .c (row 1 intI a36.1)), (14, .c (.own 5 0 a81.length)), (15, .c (.own 6 0 a86.length)), (16, .c (.own 9 0 c11.length)), (17, .c (int p10))], [.one (.cells 2 [[row 1 intI gv.owner, row 2 eA2i64 gv.arcs]]), .dead, .dead, .dead, .dead, .one (vec 1 intI a81), .one (vec 1 intI a86), .dead, .dead, .one (vec 1 intI c11)]⟩) ?_ ?_
          · refine AWP.block ?_
            refine AWP.seq ?_
            obtain ⟨a95, ha95, hx12⟩ := bind_some hx12
            refine AWP.region ?_
            refine AOps.move rfl rfl ?_
            refine AOps.move rfl rfl ?_
            refine S.idxO ha95 rfl rfl rfl rfl rfl ?_
            refine S.loadO ha95 rfl rfl rfl rfl rfl ?_
            refine AOps.lss rfl rfl rfl ?_
            refine AOps.nil ?_
            refine thn_normal ?_
            refine AWP.ite rfl hx12 (fun hc13 hx12 => ?_) (fun hc13 hx12 => ?_)
            · obtain ⟨a101, ha101, hx12⟩ := bind_some hx12
              refine AWP.region ?_
              refine AOps.move rfl rfl ?_
              refine AOps.move rfl rfl ?_
              refine S.lit (f := intI) (l := [p10]) (ess := [[int p10]]) rfl rfl rfl rfl rfl rfl rfl ⟨⟨.inl rfl, trivial⟩, trivial⟩ rfl rfl rfl ?_
              refine S.append (f := intI) ha101 rfl rfl rfl rfl rfl rfl (.own rfl (by simp only [List.length_set])) rfl rfl rfl rfl ?_
              refine AOps.assign rfl rfl ?_
              refine AOps.nil ?_
              refine inB_normal ?_
              have ej := Option.some.inj hx12
              subst ej
              refine thn_normal ?_
              exact Sub.cut ⟨rfl, rfl, rfl, rfl, rfl, rfl, rfl, rfl, rfl, trivial⟩ rfl ⟨.one rfl, .dead, .dead, .dead, .dead, .vec, .vec, .dead, .dead, .vec, trivial⟩ rfl
            · refine AWP.skip ?_
              refine inB_normal ?_
              have ej := Option.some.inj hx12
              subst ej
              refine thn_normal ?_
              exact (Sub.move (env' := [(1, .c (int player)), (3, .c (.ptr 0 0 0)), (7, .c (row 1 intI a22.1)), (9, .c (row 1 intI a29.1)), (11, .c (row 1 intI a36.1)), (14, .c (.own 5 0 a81.length)), (15, .c (.own 6 0 a86.length)), (16, .c (.own 9 0 c9.length)), (17, .c (int p10))]) (σ' := [.one (.cells 2 [[row 1 intI gv.owner, row 2 eA2i64 gv.arcs]]), .dead, .dead, .dead, .dead, .one (vec 1 intI a81), .one (vec 1 intI a86), .dead, .dead, .one (vec 1 intI c9)]) 9 7 rfl rfl rfl ⟨rfl, rfl, rfl, rfl, rfl, rfl, rfl, rfl, rfl, trivial⟩ rfl ⟨⟨rfl, rfl⟩, trivial, trivial, trivial, trivial, ⟨Blk.im_ok _ _ _, vec_mv rfl⟩, ⟨Blk.im_ok _ _ _, vec_mv rfl⟩, trivial, trivial, ⟨Blk.im_ok _ _ _, vec_mv rfl⟩, trivial⟩).trans (Sub.env ⟨rfl, rfl, rfl, rfl, rfl, rfl, rfl, rfl, rfl, trivial⟩)
          · refine AWP.region ?_
            refine AOps.move rfl rfl ?_
            refine AOps.add rfl rfl rfl (by omega) ?_
            refine AOps.assign rfl rfl ?_
            refine AOps.nil ?_
            have ej := Option.some.inj h
            subst ej
            refine thn_normal ?_
            exact (Sub.move (env' := [(1, .c (int player)), (3, .c (.ptr 0 0 0)), (7, .c (row 1 intI a22.1)), (9, .c (row 1 intI a29.1)), (11, .c (row 1 intI a36.1)), (14, .c (.own 5 0 a81.length)), (15, .c (.own 6 0 a86.length)), (16, .c (.own 7 0 c11.length)), (17, .c (int (p10 + 1)))]) (σ' := [.one (.cells 2 [[row 1 intI gv.owner, row 2 eA2i64 gv.arcs]]), .dead, .dead, .dead, .dead, .one (vec 1 intI a81), .one (vec 1 intI a86), .one (vec 1 intI c11), .dead]) 7 9 rfl rfl rfl ⟨rfl, rfl, rfl, rfl, rfl, rfl, rfl, rfl, rfl, trivial⟩ rfl ⟨⟨rfl, rfl⟩, trivial, trivial, trivial, trivial, ⟨Blk.im_ok _ _ _, vec_mv rfl⟩, ⟨Blk.im_ok _ _ _, vec_mv rfl⟩, ⟨Blk.im_ok _ _ _, vec_mv rfl⟩, trivial, trivial⟩).trans (Sub.cut ⟨rfl, rfl, rfl, rfl, rfl, rfl, rfl, rfl, rfl, trivial⟩ rfl ⟨.one rfl, .dead, .dead, .dead, .dead, .vec, .vec, .vec, trivial⟩ rfl)
        · intro e s hq
          obtain ⟨rfl, hs⟩ := hq
          refine ⟨_, hs, ?_⟩
          refine inB_exit ?_
          refine thn_normal ?_
          obtain ⟨t14, hx15, h⟩ := bind_some h
          refine AWP.seqJ (⟨[(6, .c (bool t14))], []⟩) ?_ ?_
          · obtain ⟨a104, ha104, hx15⟩ := bind_some hx15
            rcases Bool.eq_false_or_eq_true (a104) with hb16 | hb16
            · replace hx15 := iteBT hb16 hx15
              obtain ⟨a110, ha110, hx15⟩ := bind_some hx15
              obtain ⟨a111, ha111, hx15⟩ := bind_some hx15
              rcases Bool.eq_false_or_eq_true (a111) with hb17 | hb17
              · replace hx15 := iteBT hb17 hx15
                obtain ⟨a116, ha116, hx15⟩ := bind_some hx15
                rcases Bool.eq_false_or_eq_true (a116) with hb18 | hb18
                · replace hx15 := iteBT hb18 hx15
                  obtain ⟨a119, ha119, hx15⟩ := bind_some hx15
                  refine AWP.region ?_
                  refine AOps.move rfl rfl ?_
                  refine AOps.move rfl rfl ?_
                  refine AOps.callL rfl rfl (.cons (.c .imm) (.cons (.c (.own rfl rfl)) .nil)) rfl (equal_Numbers_ok ha104) rfl ?_
                  refine AOps.move rfl rfl ?_
                  refine AOps.guardT rfl rfl rfl hb16 ?_; refine AOps.move rfl rfl ?_
                  refine AOps.guardT rfl rfl rfl hb16 ?_; refine W.loadAgg rfl rfl rfl rfl rfl rfl rfl ?_
                  refine AOps.guardT rfl rfl rfl hb16 ?_; refine AOps.move rfl rfl ?_
                  refine AOps.guardT rfl rfl rfl hb16 ?_; refine AOps.move rfl rfl ?_
                  refine AOps.guardT rfl rfl rfl hb16 ?_; refine AOps.frzV (env2 := [(11, .c (row 1 intI a36.1)), (16, .c (.own 7 0 c9.length)), (105, .c (bool a104)), (106, .c (row 1 intI a29.1)), (107, .agg [row 1 intI gv.owner, row 2 eA2i64 gv.arcs]), (108, .c (int player)), (109, .c (row 1 intI a81))]) (σ2 := [.one (.cells 2 [[row 1 intI gv.owner, row 2 eA2i64 gv.arcs]]), .dead, .dead, .dead, .dead, .dead, .one (vec 1 intI a86), .one (vec 1 intI c9)]) rfl rfl ⟨⟨_, rfl, .inl ⟨rfl, rfl⟩⟩, ⟨_, rfl, .inl ⟨rfl, rfl⟩⟩, ⟨_, rfl, .inl ⟨rfl, rfl⟩⟩, ⟨_, rfl, .inl ⟨rfl, rfl⟩⟩, ⟨_, rfl, ⟨.inl ⟨rfl, rfl⟩, .inl ⟨rfl, rfl⟩, trivial⟩⟩, ⟨_, rfl, .inl ⟨rfl, rfl⟩⟩, ⟨_, rfl, .inr ⟨_, rfl, rfl, rfl⟩⟩, trivial⟩ rfl ⟨⟨rfl, .inl ⟨rfl, rfl⟩, .inl ⟨rfl, rfl⟩, trivial⟩, trivial, trivial, trivial, trivial, trivial, FrzB.vec, FrzB.vec, trivial⟩ ?_; refine S.fresh rfl rfl rfl rfl (ref8_Moves_ok ha110) rfl rfl ?_
                  refine AOps.guardT rfl rfl rfl hb16 ?_; refine AOps.callL rfl rfl (.cons (.c .imm) (.cons (.c (.own rfl rfl)) .nil)) rfl (equal_Numbers_ok ha111) rfl ?_
                  refine AOps.pickT rfl hb16 rfl rfl ?_
                  refine AOps.move rfl rfl ?_
                  refine AOps.guardT rfl rfl rfl hb17 ?_; refine AOps.move rfl rfl ?_
                  refine AOps.guardT rfl rfl rfl hb17 ?_; refine AOps.move rfl rfl ?_
                  refine AOps.guardT rfl rfl rfl hb17 ?_; refine AOps.callL rfl rfl (.cons (.c .imm) (.cons (.c (.own rfl rfl)) .nil)) rfl (equal_Numbers_ok ha116) rfl ?_
                  refine AOps.pickT rfl hb17 rfl rfl ?_
                  refine AOps.move rfl rfl ?_
                  refine AOps.guardT rfl rfl rfl hb18 ?_; refine AOps.callR rfl rfl rfl rfl (law8_forced_ok ha119) rfl ?_
                  refine AOps.pickT rfl hb18 rfl rfl ?_
                  refine AOps.assign rfl rfl ?_
                  refine AOps.nil ?_
                  have ej := Option.some.inj hx15
                  subst ej
                  refine thn_normal ?_
                  exact Sub.cut ⟨rfl, trivial⟩ rfl trivial rfl
                · replace hx15 := iteBF hb18 hx15
                  refine AWP.region ?_
                  refine AOps.move rfl rfl ?_
                  refine AOps.move rfl rfl ?_
                  refine AOps.callL rfl rfl (.cons (.c .imm) (.cons (.c (.own rfl rfl)) .nil)) rfl (equal_Numbers_ok ha104) rfl ?_
                  refine AOps.move rfl rfl ?_
                  refine AOps.guardT rfl rfl rfl hb16 ?_; refine AOps.move rfl rfl ?_
                  refine AOps.guardT rfl rfl rfl hb16 ?_; refine W.loadAgg rfl rfl rfl rfl rfl rfl rfl ?_
                  refine AOps.guardT rfl rfl rfl hb16 ?_; refine AOps.move rfl rfl ?_
                  refine AOps.guardT rfl rfl rfl hb16 ?_; refine AOps.move rfl rfl ?_
                  refine AOps.guardT rfl rfl rfl hb16 ?_; refine AOps.frzV (env2 := [(11, .c (row 1 intI a36.1)), (16, .c (.own 7 0 c9.length)), (105, .c (bool a104)), (106, .c (row 1 intI a29.1)), (107, .agg [row 1 intI gv.owner, row 2 eA2i64 gv.arcs]), (108, .c (int player)), (109, .c (row 1 intI a81))]) (σ2 := [.one (.cells 2 [[row 1 intI gv.owner, row 2 eA2i64 gv.arcs]]), .dead, .dead, .dead, .dead, .dead, .one (vec 1 intI a86), .one (vec 1 intI c9)]) rfl rfl ⟨⟨_, rfl, .inl ⟨rfl, rfl⟩⟩, ⟨_, rfl, .inl ⟨rfl, rfl⟩⟩, ⟨_, rfl, .inl ⟨rfl, rfl⟩⟩, ⟨_, rfl, .inl ⟨rfl, rfl⟩⟩, ⟨_, rfl, ⟨.inl ⟨rfl, rfl⟩, .inl ⟨rfl, rfl⟩, trivial⟩⟩, ⟨_, rfl, .inl ⟨rfl, rfl⟩⟩, ⟨_, rfl, .inr ⟨_, rfl, rfl, rfl⟩⟩, trivial⟩ rfl ⟨⟨rfl, .inl ⟨rfl, rfl⟩, .inl ⟨rfl, rfl⟩, trivial⟩, trivial, trivial, trivial, trivial, trivial, FrzB.vec, FrzB.vec, trivial⟩ ?_; refine S.fresh rfl rfl rfl rfl (ref8_Moves_ok ha110) rfl rfl ?_
                  refine AOps.guardT rfl rfl rfl hb16 ?_; refine AOps.callL rfl rfl (.cons (.c .imm) (.cons (.c (.own rfl rfl)) .nil)) rfl (equal_Numbers_ok ha111) rfl ?_
                  refine AOps.pickT rfl hb16 rfl rfl ?_
                  refine AOps.move rfl rfl ?_
                  refine AOps.guardT rfl rfl rfl hb17 ?_; refine AOps.move rfl rfl ?_
                  refine AOps.guardT rfl rfl rfl hb17 ?_; refine AOps.move rfl rfl ?_
                  refine AOps.guardT rfl rfl rfl hb17 ?_; refine AOps.callL rfl rfl (.cons (.c .imm) (.cons (.c (.own rfl rfl)) .nil)) rfl (equal_Numbers_ok ha116) rfl ?_
                  refine AOps.pickT rfl hb17 rfl rfl ?_
                  refine AOps.move rfl rfl ?_
                  refine AOps.guardF rfl rfl rfl hb18 ?_
                  refine AOps.pickF rfl hb18 rfl rfl ?_
                  refine AOps.assign rfl rfl ?_
                  refine AOps.nil ?_
                  have ej := Option.some.inj hx15
                  subst ej
                  refine thn_normal ?_
                  exact Sub.cut ⟨rfl, trivial⟩ rfl trivial rfl
              · replace hx15 := iteBF hb17 hx15
                refine AWP.region ?_
                refine AOps.move rfl rfl ?_
                refine AOps.move rfl rfl ?_
                refine AOps.callL rfl rfl (.cons (.c .imm) (.cons (.c (.own rfl rfl)) .nil)) rfl (equal_Numbers_ok ha104) rfl ?_
                refine AOps.move rfl rfl ?_
                refine AOps.guardT rfl rfl rfl hb16 ?_; refine AOps.move rfl rfl ?_
                refine AOps.guardT rfl rfl rfl hb16 ?_; refine W.loadAgg rfl rfl rfl rfl rfl rfl rfl ?_
                refine AOps.guardT rfl rfl rfl hb16 ?_; refine AOps.move rfl rfl ?_
                refine AOps.guardT rfl rfl rfl hb16 ?_; refine AOps.move rfl rfl ?_
                refine AOps.guardT rfl rfl rfl hb16 ?_; refine AOps.frzV (env2 := [(11, .c (row 1 intI a36.1)), (16, .c (.own 7 0 c9.length)), (105, .c (bool a104)), (106, .c (row 1 intI a29.1)), (107, .agg [row 1 intI gv.owner, row 2 eA2i64 gv.arcs]), (108, .c (int player)), (109, .c (row 1 intI a81))]) (σ2 := [.one (.cells 2 [[row 1 intI gv.owner, row 2 eA2i64 gv.arcs]]), .dead, .dead, .dead, .dead, .dead, .one (vec 1 intI a86), .one (vec 1 intI c9)]) rfl rfl ⟨⟨_, rfl, .inl ⟨rfl, rfl⟩⟩, ⟨_, rfl, .inl ⟨rfl, rfl⟩⟩, ⟨_, rfl, .inl ⟨rfl, rfl⟩⟩, ⟨_, rfl, .inl ⟨rfl, rfl⟩⟩, ⟨_, rfl, ⟨.inl ⟨rfl, rfl⟩, .inl ⟨rfl, rfl⟩, trivial⟩⟩, ⟨_, rfl, .inl ⟨rfl, rfl⟩⟩, ⟨_, rfl, .inr ⟨_, rfl, rfl, rfl⟩⟩, trivial⟩ rfl ⟨⟨rfl, .inl ⟨rfl, rfl⟩, .inl ⟨rfl, rfl⟩, trivial⟩, trivial, trivial, trivial, trivial, trivial, FrzB.vec, FrzB.vec, trivial⟩ ?_; refine S.fresh rfl rfl rfl rfl (ref8_Moves_ok ha110) rfl rfl ?_
                refine AOps.guardT rfl rfl rfl hb16 ?_; refine AOps.callL rfl rfl (.cons (.c .imm) (.cons (.c (.own rfl rfl)) .nil)) rfl (equal_Numbers_ok ha111) rfl ?_
                refine AOps.pickT rfl hb16 rfl rfl ?_
                refine AOps.move rfl rfl ?_
                refine AOps.guardF rfl rfl rfl hb17 ?_
                refine AOps.guardF rfl rfl rfl hb17 ?_
                refine AOps.guardF rfl rfl rfl hb17 ?_
                refine AOps.pickF rfl hb17 rfl rfl ?_
                refine AOps.move rfl rfl ?_
                refine AOps.guardF rfl rfl rfl rfl ?_
                refine AOps.pickF rfl rfl rfl rfl ?_
                refine AOps.assign rfl rfl ?_
                refine AOps.nil ?_
                have ej := Option.some.inj hx15
                subst ej
                refine thn_normal ?_
                exact Sub.cut ⟨rfl, trivial⟩ rfl trivial rfl
            · replace hx15 := iteBF hb16 hx15
              refine AWP.region ?_
              refine AOps.move rfl rfl ?_
              refine AOps.move rfl rfl ?_
              refine AOps.callL rfl rfl (.cons (.c .imm) (.cons (.c (.own rfl rfl)) .nil)) rfl (equal_Numbers_ok ha104) rfl ?_
              refine AOps.move rfl rfl ?_
              refine AOps.guardF rfl rfl rfl hb16 ?_
              refine AOps.guardF rfl rfl rfl hb16 ?_
              refine AOps.guardF rfl rfl rfl hb16 ?_
              refine AOps.guardF rfl rfl rfl hb16 ?_
              refine AOps.guardF rfl rfl rfl hb16 ?_
              refine AOps.guardF rfl rfl rfl hb16 ?_
              refine AOps.pickF rfl hb16 rfl rfl ?_
              refine AOps.move rfl rfl ?_
              refine AOps.guardF rfl rfl rfl rfl ?_
              refine AOps.guardF rfl rfl rfl rfl ?_
              refine AOps.guardF rfl rfl rfl rfl ?_
              refine AOps.pickF rfl rfl rfl rfl ?_
              refine AOps.move rfl rfl ?_
              refine AOps.guardF rfl rfl rfl rfl ?_
              refine AOps.pickF rfl rfl rfl rfl ?_
              refine AOps.assign rfl rfl ?_
              refine AOps.nil ?_
              have ej := Option.some.inj hx15
              subst ej
              refine thn_normal ?_
              exact Sub.cut ⟨rfl, trivial⟩ rfl trivial rfl
          · refine AWP.ret ?_
            have ej := Option.some.inj h
            subst ej
            exact Done.ret rfl rfl

def law8_GamesDetermined_l1 (a16 : (List Int) × TFault) (a24 : (List Int) × TFault) : Int → Unit → Option (Unit ⊕ Bool) := fun p5 _ => Option.bind (ix a16.1 p5) fun a44 => Option.bind (ref1_Has a24.1 p5) fun a49 => if (decide (0 ≤ a44)) = a49 then some (.inr false) else some (.inl ())
noncomputable def law8_GamesDetermined (gv : TGame) (player : Int) (targets : List Int) : Option Bool := Option.bind (games_Attractor gv player targets) fun a16 => Option.bind (games_Safe gv (w64 (1 - player)) targets) fun a24 => if ((!(decide (a16.2.code = 0))) || (!(decide (a24.2.code = 0)))) = true then Option.bind (law8_forced) fun a35 => some a35 else (Option.bind (rngX 0 (a16.1.length : Int) (law8_GamesDetermined_l1 a16 a24) ()) fun | .inl _ => Option.bind (if (a16.1.length : Int) = (gv.owner.length : Int) then Option.bind (law8_forced) fun a58 => some a58 else some false) fun t7 => some t7 | .inr x => some x)
theorem law8_GamesDetermined_ok {gv : TGame} {player : Int} {targets : List Int} {r : Bool} (h : law8_GamesDetermined gv player targets = some r) : PureOk Try.prog 5 [.agg [row 1 intI gv.owner, row 2 eA2i64 gv.arcs], .c (int player), .c (row 1 intI targets)] (.c (bool r)) := by
  unfold PureOk
  refine FnOk.enter (rs := [.t 6]) Try.func5 rfl Try.ntmps5 Try.results5 rfl ⟨trivial, trivial⟩ (by kernel_rfl) rfl ?_
  unfold law8_GamesDetermined at h
  refine AWP.seq ?_
  refine AWP.region ?_
  refine W.box rfl rfl rfl rfl rfl rfl ?_
  refine AOps.assign rfl rfl ?_
  refine AOps.nil ?_
  refine thn_normal ?_
  refine AWP.seq ?_
  obtain ⟨a16, ha16, h⟩ := bind_some h
  refine AWP.region ?_
  refine W.loadAgg rfl rfl rfl rfl rfl rfl rfl ?_
  refine AOps.move rfl rfl ?_
  refine AOps.move rfl rfl ?_
  refine AOps.callR rfl rfl rfl rfl (games_Attractor_ok ha16) rfl ?_
  refine AOps.move rfl rfl ?_
  refine AOps.extract rfl rfl rfl ?_
  refine AOps.extract rfl rfl rfl ?_
  refine W.alloc rfl rfl rfl rfl ?_
  refine AOps.assign rfl rfl ?_
  refine W.storeAgg rfl rfl rfl rfl rfl rfl rfl ?_
  refine AOps.nil ?_
  refine thn_normal ?_
  refine AWP.seq ?_
  obtain ⟨a24, ha24, h⟩ := bind_some h
  refine AWP.region ?_
  refine W.loadAgg rfl rfl rfl rfl rfl rfl rfl ?_
  refine AOps.move rfl rfl ?_
  refine S.sub rfl rfl rfl ?_
  refine AOps.move rfl rfl ?_
  refine AOps.callR rfl rfl rfl rfl (games_Safe_ok ha24) rfl ?_
  refine AOps.move rfl rfl ?_
  refine AOps.extract rfl rfl rfl ?_
  refine AOps.extract rfl rfl rfl ?_
  refine W.alloc rfl rfl rfl rfl ?_
  refine AOps.assign rfl rfl ?_
  refine W.storeAgg rfl rfl rfl rfl rfl rfl rfl ?_
  refine AOps.nil ?_
  refine thn_normal ?_
  refine AWP.seq ?_
  refine AWP.seqJ (⟨[(3, .c (.ptr 0 0 0)), (7, .c (row 1 intI a16.1)), (9, .c (row 1 intI a24.1)), (34, .c (bool ((!(decide (a16.2.code = 0))) || (!(decide (a24.2.code = 0))))))], [.one (.cells 2 [[row 1 intI gv.owner, row 2 eA2i64 gv.arcs]]), .one (.cells 2 [[int a16.2.code, int a16.2.index]]), .one (.cells 2 [[int a24.2.code, int a24.2.index]])]⟩) ?_ ?_
  · rcases Bool.eq_false_or_eq_true (!(decide (a16.2.code = 0))) with hb1 | hb1
    · refine AWP.region ?_
      refine W.fieldAddr rfl rfl rfl rfl ?_
      refine AOps.load rfl rfl rfl rfl rfl rfl ?_
      refine AOps.neq rfl rfl rfl ?_
      refine AOps.move rfl rfl ?_
      refine AOps.guardF rfl rfl rfl hb1 ?_
      refine AOps.guardF rfl rfl rfl hb1 ?_
      refine AOps.guardF rfl rfl rfl hb1 ?_
      refine AOps.pickT rfl hb1 rfl rfl ?_
      refine AOps.nil ?_
      refine thn_normal ?_
      simp only [and_t hb1, or_t hb1]
      exact Sub.env ⟨rfl, rfl, rfl, rfl, trivial⟩
    · refine AWP.region ?_
      refine W.fieldAddr rfl rfl rfl rfl ?_
      refine AOps.load rfl rfl rfl rfl rfl rfl ?_
      refine AOps.neq rfl rfl rfl ?_
      refine AOps.move rfl rfl ?_
      refine AOps.guardT rfl rfl rfl hb1 ?_; refine W.fieldAddr rfl rfl rfl rfl ?_
      refine AOps.guardT rfl rfl rfl hb1 ?_; refine AOps.load rfl rfl rfl rfl rfl rfl ?_
      refine AOps.guardT rfl rfl rfl hb1 ?_; refine AOps.neq rfl rfl rfl ?_
      refine AOps.pickF rfl hb1 rfl rfl ?_
      refine AOps.nil ?_
      refine thn_normal ?_
      simp only [and_f hb1, or_f hb1]
      exact Sub.env ⟨rfl, rfl, rfl, rfl, trivial⟩
  · refine AWP.iteB rfl h (fun hc4 h => ?_) (fun hc4 h => ?_)
    · refine AWP.seq ?_
      obtain ⟨a35, ha35, h⟩ := bind_some h
      refine AWP.region ?_
      refine AOps.callR rfl rfl rfl rfl (law8_forced_ok ha35) rfl ?_
      refine AOps.assign rfl rfl ?_
      refine AOps.nil ?_
      refine thn_normal ?_
      refine AWP.ret ?_
      refine thn_ret ?_
      have ej := Option.some.inj h
      subst ej
      exact Done.ret rfl rfl
    · refine AWP.skip ?_
      refine thn_normal ?_
      refine AWP.seq ?_
      refine AWP.seq ?_
      refine AWP.region ?_
      refine AOps.assign rfl rfl ?_
      refine AOps.nil ?_
      refine thn_normal ?_
      refine AWP.block ?_
      obtain ⟨oo, ho1, h⟩ := bind_some h
      refine AWP.rngS ho1 (fun p5 _ => ⟨[(3, .c (.ptr 0 0 0)), (7, .c (row 1 intI a16.1)), (9, .c (row 1 intI a24.1)), (11, .c (int p5))], [.one (.cells 2 [[row 1 intI gv.owner, row 2 eA2i64 gv.arcs]])]⟩) (fun o e st => match o with | .inl _ => e = .exit 0 ∧ Sub [] st ⟨[(3, .c (.ptr 0 0 0)), (7, .c (row 1 intI a16.1))], [.one (.cells 2 [[row 1 intI gv.owner, row 2 eA2i64 gv.arcs]])]⟩ | .inr x => e = .ret ∧ Done [.t 6] (fun t _ => t = .c (bool x)) .ret st) ?_ ?_ ?_ ?_
      · try dsimp only
        exact Sub.cut ⟨rfl, rfl, rfl, rfl, trivial⟩ rfl ⟨.one rfl, trivial⟩ rfl
      · intro p5 s hlop5 hltp5 _
        try dsimp only
        refine AWP.seq ?_
        refine AWP.seq ?_
        refine AWP.region ?_
        refine AOps.move rfl rfl ?_
        refine AOps.move rfl rfl ?_
        refine S.len rfl rfl (fun hl38 => ?_)
        refine AOps.lss rfl rfl rfl ?_
        refine AOps.nil ?_
        refine thn_normal ?_
        refine AWP.condNP rfl hltp5 ?_
        refine AWP.exit ?_
        refine thn_exit ?_
        refine thn_exit ⟨rfl, ?_⟩
        exact Sub.env ⟨rfl, rfl, trivial⟩
      · intro p5 s o hlop5 hltp5 h
        unfold law8_GamesDetermined_l1 at h
        try dsimp only at h ⊢
        refine AWP.seq ?_
        refine AWP.seq ?_
        refine AWP.region ?_
        refine AOps.move rfl rfl ?_
        refine AOps.move rfl rfl ?_
        refine S.len rfl rfl (fun hl38 => ?_)
        refine AOps.lss rfl rfl rfl ?_
        refine AOps.nil ?_
        refine thn_normal ?_
        refine AWP.condP rfl hltp5 ?_
        refine AWP.skip ?_
        refine thn_normal ?_
        refine AWP.seq ?_
        refine AWP.block ?_
        refine AWP.seq ?_
        obtain ⟨a44, ha44, h⟩ := bind_some h
        obtain ⟨a49, ha49, h⟩ := bind_some h
        refine AWP.drawI mixed rfl ?_
        apply DrawSeq.consF; exact rfl; intro E
        refine AOps.move rfl rfl ?_
        exact AOps.nil ⟨rfl, rfl⟩
        exact rfl
        apply DrawSeq.consF; exact rfl; intro E
        refine AOps.move rfl rfl ?_
        exact AOps.nil ⟨rfl, rfl⟩
        exact rfl
        apply DrawSeq.consF; exact rfl; intro E
        refine S.idx ha44 rfl rfl rfl rfl ?_
        exact AOps.nil ⟨rfl, rfl⟩
        exact rfl
        apply DrawSeq.consF; exact rfl; intro E
        refine AOps.loadI rfl rfl rfl rfl ?_
        exact AOps.nil ⟨rfl, rfl⟩
        exact rfl
        apply DrawSeq.consF; exact rfl; intro E
        refine AOps.geq rfl rfl rfl ?_
        exact AOps.nil ⟨rfl, rfl⟩
        exact rfl
        apply DrawSeq.consF; exact rfl; intro E
        refine AOps.move rfl rfl ?_
        exact AOps.nil ⟨rfl, rfl⟩
        exact rfl
        apply DrawSeq.consF; exact rfl; intro E
        refine AOps.move rfl rfl ?_
        exact AOps.nil ⟨rfl, rfl⟩
        exact rfl
        apply DrawSeq.consF; exact rfl; intro E
        refine AOps.callR rfl rfl rfl rfl (ref1_Has_ok ha49) rfl ?_
        exact AOps.nil ⟨rfl, rfl⟩
        exact rfl
        apply DrawSeq.consF; exact rfl; intro E
        refine AOps.eqlB rfl rfl rfl ?_
        exact AOps.nil ⟨rfl, rfl⟩
        exact rfl
        refine DrawSeq.done ?_
        dsimp only [envEnd]
        refine thn_normal ?_
        refine AWP.ite rfl h (fun hc6 h => ?_) (fun hc6 h => ?_)
        · refine AWP.seq ?_
          refine AWP.region ?_
          refine AOps.assign rfl rfl ?_
          refine AOps.nil ?_
          refine thn_normal ?_
          refine AWP.ret ?_
          refine inB_ret ?_
          refine thn_ret ?_
          have ej := Option.some.inj h
          subst ej
          refine thn_ret ⟨_, rfl, rfl, ?_⟩
          exact Done.ret rfl rfl
        · refine AWP.skip ?_
          refine inB_normal ?_
          refine thn_normal ?_
          refine AWP.region ?_
          refine AOps.move rfl rfl ?_
          refine AOps.add rfl rfl rfl (by omega) ?_
          refine AOps.assign rfl rfl ?_
          refine AOps.nil ?_
          have ej := Option.some.inj h
          subst ej
          refine thn_normal ⟨_, rfl, ?_⟩
          exact Sub.env ⟨rfl, rfl, rfl, rfl, trivial⟩
      · intro e s hq
        rcases oo with u | x
        · try dsimp only at h hq
          obtain ⟨rfl, hs⟩ := hq
          refine ⟨_, hs, ?_⟩
          refine inB_exit ?_
          refine thn_normal ?_
          obtain ⟨t7, hx8, h⟩ := bind_some h
          refine AWP.seqJ (⟨[(6, .c (bool t7))], []⟩) ?_ ?_
          · rcases Bool.eq_false_or_eq_true (decide ((a16.1.length : Int) = (gv.owner.length : Int))) with hb9 | hb9
            · replace hx8 := iteDT hb9 hx8
              obtain ⟨a58, ha58, hx8⟩ := bind_some hx8
              refine AWP.region ?_
              refine AOps.move rfl rfl ?_
              refine S.len rfl rfl (fun hl52 => ?_)
              refine W.fieldAddr rfl rfl rfl rfl ?_
              refine AOps.load rfl rfl rfl rfl rfl rfl ?_
              refine S.len rfl rfl (fun hl55 => ?_)
              refine AOps.eql rfl rfl rfl ?_
              refine AOps.move rfl rfl ?_
              refine AOps.guardT rfl rfl rfl hb9 ?_; refine AOps.callR rfl rfl rfl rfl (law8_forced_ok ha58) rfl ?_
              refine AOps.pickT rfl hb9 rfl rfl ?_
              refine AOps.assign rfl rfl ?_
              refine AOps.nil ?_
              have ej := Option.some.inj hx8
              subst ej
              refine thn_normal ?_
              exact Sub.cut ⟨rfl, trivial⟩ rfl trivial rfl
            · replace hx8 := iteDF hb9 hx8
              refine AWP.region ?_
              refine AOps.move rfl rfl ?_
              refine S.len rfl rfl (fun hl52 => ?_)
              refine W.fieldAddr rfl rfl rfl rfl ?_
              refine AOps.load rfl rfl rfl rfl rfl rfl ?_
              refine S.len rfl rfl (fun hl55 => ?_)
              refine AOps.eql rfl rfl rfl ?_
              refine AOps.move rfl rfl ?_
              refine AOps.guardF rfl rfl rfl hb9 ?_
              refine AOps.pickF rfl hb9 rfl rfl ?_
              refine AOps.assign rfl rfl ?_
              refine AOps.nil ?_
              have ej := Option.some.inj hx8
              subst ej
              refine thn_normal ?_
              exact Sub.cut ⟨rfl, trivial⟩ rfl trivial rfl
          · refine AWP.ret ?_
            have ej := Option.some.inj h
            subst ej
            exact Done.ret rfl rfl
        · try dsimp only at h hq
          obtain ⟨rfl, hs⟩ := hq
          refine ⟨_, Sub.refl _ _, ?_⟩
          refine inB_ret ?_
          refine thn_ret ?_
          have ej := Option.some.inj h
          subst ej
          exact hs

def law8_GamesSafeStays_l1 (gv : TGame) (p : Int) (a18 : (List Int) × TFault) : Int → (Int × Int) → Option (Int × Int) := fun iv11 (moves9, safe10) => Option.bind (Option.bind (ix gv.arcs iv11) fun a41 => if a41.1 = p then Option.bind (ix gv.arcs iv11) fun a52 => Option.bind (ref1_Has a18.1 a52.2) fun a55 => if a55 = true then some (w64 (moves9 + 1), w64 (safe10 + 1)) else some (w64 (moves9 + 1), safe10) else some (moves9, safe10)) fun ⟨moves12, safe13⟩ => some (moves12, safe13)
noncomputable def law8_GamesSafeStays (gv : TGame) (player : Int) (bad : List Int) (p : Int) : Option Bool := Option.bind (games_Safe gv player bad) fun a18 => Option.bind (if (!(decide (a18.2.code = 0))) = true then some true else Option.bind (ref1_Has a18.1 p) fun a27 => some (!a27)) fun t5 => if t5 = true then Option.bind (law8_forced) fun a30 => some a30 else (Option.bind (forR 0 (gv.arcs.length : Int) (law8_GamesSafeStays_l1 gv p a18) (0, 0)) fun ⟨moves9, safe10⟩ => Option.bind (ref1_Has bad p) fun a60 => if a60 = true then some false else Option.bind (Option.bind (ix gv.owner p) fun a64 => if a64 = player then if moves9 = 0 then Option.bind (law8_forced) fun a91 => some a91 else if 0 < safe10 then Option.bind (law8_forced) fun a91 => some a91 else Option.bind (ix gv.owner p) fun a80 => if (!(decide (a80 = player))) = true then if safe10 = moves9 then Option.bind (law8_forced) fun a91 => some a91 else some false else some false else Option.bind (ix gv.owner p) fun a80 => if (!(decide (a80 = player))) = true then if safe10 = moves9 then Option.bind (law8_forced) fun a91 => some a91 else some false else some false) fun t18 => some t18)
theorem law8_GamesSafeStays_ok {gv : TGame} {player : Int} {bad : List Int} {p : Int} {r : Bool} (h : law8_GamesSafeStays gv player bad p = some r) : PureOk Try.prog 6 [.agg [row 1 intI gv.owner, row 2 eA2i64 gv.arcs], .c (int player), .c (row 1 intI bad), .c (int p)] (.c (bool r)) := by
  unfold PureOk
  refine FnOk.enter (rs := [.t 8]) Try.func6 rfl Try.ntmps6 Try.results6 rfl ⟨trivial, trivial⟩ (by kernel_rfl) rfl ?_
  unfold law8_GamesSafeStays at h
  refine AWP.seq ?_
  refine AWP.region ?_
  refine W.box rfl rfl rfl rfl rfl rfl ?_
  refine AOps.assign rfl rfl ?_
  refine AOps.nil ?_
  refine thn_normal ?_
  refine AWP.seq ?_
  obtain ⟨a18, ha18, h⟩ := bind_some h
  refine AWP.region ?_
  refine W.loadAgg rfl rfl rfl rfl rfl rfl rfl ?_
  refine AOps.move rfl rfl ?_
  refine AOps.move rfl rfl ?_
  refine AOps.callR rfl rfl rfl rfl (games_Safe_ok ha18) rfl ?_
  refine AOps.move rfl rfl ?_
  refine AOps.extract rfl rfl rfl ?_
  refine AOps.extract rfl rfl rfl ?_
  refine W.alloc rfl rfl rfl rfl ?_
  refine AOps.assign rfl rfl ?_
  refine W.storeAgg rfl rfl rfl rfl rfl rfl rfl ?_
  refine AOps.nil ?_
  refine thn_normal ?_
  refine AWP.seq ?_
  obtain ⟨t5, hx6, h⟩ := bind_some h
  refine AWP.seqJ (⟨[(1, .c (int player)), (2, .c (row 1 intI bad)), (3, .c (int p)), (4, .c (.ptr 0 0 0)), (9, .c (row 1 intI a18.1)), (29, .c (bool t5))], [.one (.cells 2 [[row 1 intI gv.owner, row 2 eA2i64 gv.arcs]])]⟩) ?_ ?_
  · rcases Bool.eq_false_or_eq_true (!(decide (a18.2.code = 0))) with hb7 | hb7
    · replace hx6 := iteBT hb7 hx6
      refine AWP.region ?_
      refine W.fieldAddr rfl rfl rfl rfl ?_
      refine AOps.load rfl rfl rfl rfl rfl rfl ?_
      refine AOps.neq rfl rfl rfl ?_
      refine AOps.move rfl rfl ?_
      refine AOps.guardF rfl rfl rfl hb7 ?_
      refine AOps.guardF rfl rfl rfl hb7 ?_
      refine AOps.guardF rfl rfl rfl hb7 ?_
      refine AOps.guardF rfl rfl rfl hb7 ?_
      refine AOps.pickT rfl hb7 rfl rfl ?_
      refine AOps.nil ?_
      have ej := Option.some.inj hx6
      subst ej
      refine thn_normal ?_
      exact Sub.cut ⟨rfl, rfl, rfl, rfl, rfl, rfl, trivial⟩ rfl ⟨.one rfl, trivial⟩ rfl
    · replace hx6 := iteBF hb7 hx6
      obtain ⟨a27, ha27, hx6⟩ := bind_some hx6
      refine AWP.region ?_
      refine W.fieldAddr rfl rfl rfl rfl ?_
      refine AOps.load rfl rfl rfl rfl rfl rfl ?_
      refine AOps.neq rfl rfl rfl ?_
      refine AOps.move rfl rfl ?_
      refine AOps.guardT rfl rfl rfl hb7 ?_; refine AOps.move rfl rfl ?_
      refine AOps.guardT rfl rfl rfl hb7 ?_; refine AOps.move rfl rfl ?_
      refine AOps.guardT rfl rfl rfl hb7 ?_; refine AOps.callR rfl rfl rfl rfl (ref1_Has_ok ha27) rfl ?_
      refine AOps.guardT rfl rfl rfl hb7 ?_; refine AOps.not rfl rfl ?_
      refine AOps.pickF rfl hb7 rfl rfl ?_
      refine AOps.nil ?_
      have ej := Option.some.inj hx6
      subst ej
      refine thn_normal ?_
      exact Sub.cut ⟨rfl, rfl, rfl, rfl, rfl, rfl, trivial⟩ rfl ⟨.one rfl, trivial⟩ rfl
  · refine AWP.iteB rfl h (fun hc8 h => ?_) (fun hc8 h => ?_)
    · refine AWP.seq ?_
      obtain ⟨a30, ha30, h⟩ := bind_some h
      refine AWP.region ?_
      refine AOps.callR rfl rfl rfl rfl (law8_forced_ok ha30) rfl ?_
      refine AOps.assign rfl rfl ?_
      refine AOps.nil ?_
      refine thn_normal ?_
      refine AWP.ret ?_
      refine thn_ret ?_
      have ej := Option.some.inj h
      subst ej
      exact Done.ret rfl rfl
    · refine AWP.skip ?_
      refine thn_normal ?_
      refine AWP.seq ?_
      refine AWP.region ?_
      refine AOps.assign rfl rfl ?_
      refine AOps.nil ?_
      refine thn_normal ?_
      refine AWP.seq ?_
      refine AWP.region ?_
      refine AOps.assign rfl rfl ?_
      refine AOps.nil ?_
      refine thn_normal ?_
      refine AWP.seq ?_
      refine AWP.seq ?_
      refine AWP.region ?_
      refine AOps.assign rfl rfl ?_
      refine AOps.nil ?_
      refine thn_normal ?_
      refine AWP.block ?_
      obtain ⟨⟨moves9, safe10⟩, ho1, h⟩ := bind_some h
      try dsimp only at h
      refine AWP.forS ho1 (fun iv11 (moves9, safe10) => ⟨[(1, .c (int player)), (2, .c (row 1 intI bad)), (3, .c (int p)), (4, .c (.ptr 0 0 0)), (9, .c (row 1 intI a18.1)), (11, .c (int moves9)), (12, .c (int safe10)), (13, .c (int iv11))], [.one (.cells 2 [[row 1 intI gv.owner, row 2 eA2i64 gv.arcs]])]⟩) (fun (moves9, safe10) e st => e = .exit 0 ∧ Sub [] st ⟨[(1, .c (int player)), (2, .c (row 1 intI bad)), (3, .c (int p)), (4, .c (.ptr 0 0 0)), (11, .c (int moves9)), (12, .c (int safe10))], [.one (.cells 2 [[row 1 intI gv.owner, row 2 eA2i64 gv.arcs]])]⟩) ?_ ?_ ?_ ?_
      · try dsimp only
        exact Sub.env ⟨rfl, rfl, rfl, rfl, rfl, rfl, rfl, rfl, trivial⟩
      · intro iv11 s hloiv11 hltiv11 _
        obtain ⟨moves9, safe10⟩ := s
        try dsimp only
        refine AWP.seq ?_
        refine AWP.seq ?_
        refine AWP.region ?_
        refine AOps.move rfl rfl ?_
        refine W.fieldAddr rfl rfl rfl rfl ?_
        refine AOps.load rfl rfl rfl rfl rfl rfl ?_
        refine S.len rfl rfl (fun hl34 => ?_)
        refine AOps.lss rfl rfl rfl ?_
        refine AOps.nil ?_
        refine thn_normal ?_
        refine AWP.condNP rfl hltiv11 ?_
        refine AWP.exit ?_
        refine thn_exit ?_
        refine thn_exit ⟨rfl, ?_⟩
        exact Sub.env ⟨rfl, rfl, rfl, rfl, rfl, rfl, trivial⟩
      · intro iv11 s o hloiv11 hltiv11 h
        obtain ⟨moves9, safe10⟩ := s
        unfold law8_GamesSafeStays_l1 at h
        try dsimp only at h ⊢
        refine AWP.seq ?_
        refine AWP.seq ?_
        refine AWP.region ?_
        refine AOps.move rfl rfl ?_
        refine W.fieldAddr rfl rfl rfl rfl ?_
        refine AOps.load rfl rfl rfl rfl rfl rfl ?_
        refine S.len rfl rfl (fun hl34 => ?_)
        refine AOps.lss rfl rfl rfl ?_
        refine AOps.nil ?_
        refine thn_normal ?_
        refine AWP.condP rfl hltiv11 ?_
        refine AWP.skip ?_
        refine thn_normal ?_
        obtain ⟨⟨moves12, safe13⟩, hx14, h⟩ := bind_some h
        refine AWP.seqJ (⟨[(1, .c (int player)), (2, .c (row 1 intI bad)), (3, .c (int p)), (4, .c (.ptr 0 0 0)), (9, .c (row 1 intI a18.1)), (11, .c (int moves12)), (12, .c (int safe13)), (13, .c (int iv11))], [.one (.cells 2 [[row 1 intI gv.owner, row 2 eA2i64 gv.arcs]])]⟩) ?_ ?_
        · refine AWP.block ?_
          refine AWP.seq ?_
          obtain ⟨a41, ha41, hx14⟩ := bind_some hx14
          refine AWP.region ?_
          refine W.fieldAddr rfl rfl rfl rfl ?_
          refine AOps.load rfl rfl rfl rfl rfl rfl ?_
          refine AOps.move rfl rfl ?_
          refine S.idx ha41 rfl rfl rfl rfl ?_
          refine W.idxArrI rfl rfl rfl (Nat.le_of_ble_eq_true rfl) rfl rfl ?_
          refine AOps.loadI rfl rfl rfl rfl ?_
          refine AOps.move rfl rfl ?_
          refine AOps.eql rfl rfl rfl ?_
          refine AOps.nil ?_
          refine thn_normal ?_
          refine AWP.ite rfl hx14 (fun hc15 hx14 => ?_) (fun hc15 hx14 => ?_)
          · refine AWP.seq ?_
            refine AWP.region ?_
            refine AOps.move rfl rfl ?_
            refine S.add rfl rfl rfl ?_
            refine AOps.assign rfl rfl ?_
            refine AOps.nil ?_
            refine thn_normal ?_
            refine AWP.seq ?_
            obtain ⟨a52, ha52, hx14⟩ := bind_some hx14
            obtain ⟨a55, ha55, hx14⟩ := bind_some hx14
            refine AWP.region ?_
            refine AOps.move rfl rfl ?_
            refine W.fieldAddr rfl rfl rfl rfl ?_
            refine AOps.load rfl rfl rfl rfl rfl rfl ?_
            refine AOps.move rfl rfl ?_
            refine S.idx ha52 rfl rfl rfl rfl ?_
            refine W.idxArrI rfl rfl rfl (Nat.le_of_ble_eq_true rfl) rfl rfl ?_
            refine AOps.loadI rfl rfl rfl rfl ?_
            refine AOps.callR rfl rfl rfl rfl (ref1_Has_ok ha55) rfl ?_
            refine AOps.nil ?_
            refine thn_normal ?_
            refine AWP.iteB rfl hx14 (fun hc16 hx14 => ?_) (fun hc16 hx14 => ?_)
            · refine AWP.region ?_
              refine AOps.move rfl rfl ?_
              refine S.add rfl rfl rfl ?_
              refine AOps.assign rfl rfl ?_
              refine AOps.nil ?_
              refine inB_normal ?_
              have ej := Option.some.inj hx14
              simp only [Prod.mk.injEq] at ej
              obtain ⟨ej0, ej1⟩ := ej
              subst ej0
              subst ej1
              refine thn_normal ?_
              exact Sub.env ⟨rfl, rfl, rfl, rfl, rfl, rfl, rfl, rfl, trivial⟩
            · refine AWP.skip ?_
              refine inB_normal ?_
              have ej := Option.some.inj hx14
              simp only [Prod.mk.injEq] at ej
              obtain ⟨ej0, ej1⟩ := ej
              subst ej0
              subst ej1
              refine thn_normal ?_
              exact Sub.env ⟨rfl, rfl, rfl, rfl, rfl, rfl, rfl, rfl, trivial⟩
          · refine AWP.skip ?_
            refine inB_normal ?_
            have ej := Option.some.inj hx14
            simp only [Prod.mk.injEq] at ej
            obtain ⟨ej0, ej1⟩ := ej
            subst ej0
            subst ej1
            refine thn_normal ?_
            exact Sub.env ⟨rfl, rfl, rfl, rfl, rfl, rfl, rfl, rfl, trivial⟩
        · try dsimp only at h
          refine AWP.region ?_
          refine AOps.move rfl rfl ?_
          refine AOps.add rfl rfl rfl (by omega) ?_
          refine AOps.assign rfl rfl ?_
          refine AOps.nil ?_
          have ej := Option.some.inj h
          subst ej
          refine thn_normal ?_
          exact Sub.env ⟨rfl, rfl, rfl, rfl, rfl, rfl, rfl, rfl, trivial⟩
      · intro e s hq
        obtain ⟨rfl, hs⟩ := hq
        refine ⟨_, hs, ?_⟩
        refine inB_exit ?_
        refine thn_normal ?_
        refine AWP.seq ?_
        refine AWP.seq ?_
        obtain ⟨a60, ha60, h⟩ := bind_some h
        refine AWP.region ?_
        refine AOps.move rfl rfl ?_
        refine AOps.move rfl rfl ?_
        refine AOps.callR rfl rfl rfl rfl (ref1_Has_ok ha60) rfl ?_
        refine AOps.nil ?_
        refine thn_normal ?_
        refine AWP.iteB rfl h (fun hc17 h => ?_) (fun hc17 h => ?_)
        · refine AWP.seq ?_
          refine AWP.region ?_
          refine AOps.assign rfl rfl ?_
          refine AOps.nil ?_
          refine thn_normal ?_
          refine AWP.ret ?_
          refine thn_ret ?_
          have ej := Option.some.inj h
          subst ej
          exact Done.ret rfl rfl
        · refine AWP.skip ?_
          refine thn_normal ?_
          obtain ⟨t18, hx19, h⟩ := bind_some h
          refine AWP.seqJ (⟨[(8, .c (bool t18))], []⟩) ?_ ?_
          · obtain ⟨a64, ha64, hx19⟩ := bind_some hx19
            rcases Bool.eq_false_or_eq_true (decide (a64 = player)) with hb20 | hb20
            · replace hx19 := iteDT hb20 hx19
              rcases Bool.eq_false_or_eq_true (decide (moves9 = 0)) with hb21 | hb21
              · replace hx19 := iteDT hb21 hx19
                obtain ⟨a91, ha91, hx19⟩ := bind_some hx19
                refine AWP.region ?_
                refine W.fieldAddr rfl rfl rfl rfl ?_
                refine AOps.load rfl rfl rfl rfl rfl rfl ?_
                refine AOps.move rfl rfl ?_
                refine S.idx ha64 rfl rfl rfl rfl ?_
                refine AOps.loadI rfl rfl rfl rfl ?_
                refine AOps.move rfl rfl ?_
                refine AOps.eql rfl rfl rfl ?_
                refine AOps.move rfl rfl ?_
                refine AOps.guardT rfl rfl rfl hb20 ?_; refine AOps.move rfl rfl ?_
                refine AOps.guardT rfl rfl rfl hb20 ?_; refine AOps.eql rfl rfl rfl ?_
                refine AOps.guardT rfl rfl rfl hb20 ?_; refine AOps.move rfl rfl ?_
                refine AOps.guardF rfl rfl rfl hb21 ?_
                refine AOps.guardF rfl rfl rfl hb21 ?_
                refine AOps.guardT rfl rfl rfl hb20 ?_; refine AOps.pickT rfl hb21 rfl rfl ?_
                refine AOps.pickT rfl hb20 rfl rfl ?_
                refine AOps.move rfl rfl ?_
                refine AOps.guardF rfl rfl rfl rfl ?_
                refine AOps.guardF rfl rfl rfl rfl ?_
                refine AOps.guardF rfl rfl rfl rfl ?_
                refine AOps.guardF rfl rfl rfl rfl ?_
                refine AOps.guardF rfl rfl rfl rfl ?_
                refine AOps.guardF rfl rfl rfl rfl ?_
                refine AOps.guardF rfl rfl rfl rfl ?_
                refine AOps.guardF rfl rfl rfl rfl ?_
                refine AOps.guardSkip rfl rfl rfl ?_
                refine AOps.guardSkip rfl rfl rfl ?_
                refine AOps.guardSkip rfl rfl rfl ?_
                refine AOps.guardF rfl rfl rfl rfl ?_
                refine AOps.pickT rfl rfl rfl rfl ?_
                refine AOps.move rfl rfl ?_
                refine AOps.guardT rfl rfl rfl rfl ?_; refine AOps.callR rfl rfl rfl rfl (law8_forced_ok ha91) rfl ?_
                refine AOps.pickT rfl rfl rfl rfl ?_
                refine AOps.assign rfl rfl ?_
                refine AOps.nil ?_
                have ej := Option.some.inj hx19
                subst ej
                refine thn_normal ?_
                exact Sub.cut ⟨rfl, trivial⟩ rfl trivial rfl
              · replace hx19 := iteDF hb21 hx19
                rcases Bool.eq_false_or_eq_true (decide (0 < safe10)) with hb22 | hb22
                · replace hx19 := iteDT hb22 hx19
                  obtain ⟨a91, ha91, hx19⟩ := bind_some hx19
                  refine AWP.region ?_
                  refine W.fieldAddr rfl rfl rfl rfl ?_
                  refine AOps.load rfl rfl rfl rfl rfl rfl ?_
                  refine AOps.move rfl rfl ?_
                  refine S.idx ha64 rfl rfl rfl rfl ?_
                  refine AOps.loadI rfl rfl rfl rfl ?_
                  refine AOps.move rfl rfl ?_
                  refine AOps.eql rfl rfl rfl ?_
                  refine AOps.move rfl rfl ?_
                  refine AOps.guardT rfl rfl rfl hb20 ?_; refine AOps.move rfl rfl ?_
                  refine AOps.guardT rfl rfl rfl hb20 ?_; refine AOps.eql rfl rfl rfl ?_
                  refine AOps.guardT rfl rfl rfl hb20 ?_; refine AOps.move rfl rfl ?_
                  refine AOps.guardT rfl rfl rfl hb21 ?_; refine AOps.move rfl rfl ?_
                  refine AOps.guardT rfl rfl rfl hb21 ?_; refine AOps.gtr rfl rfl rfl ?_
                  refine AOps.guardT rfl rfl rfl hb20 ?_; refine AOps.pickF rfl hb21 rfl rfl ?_
                  refine AOps.pickT rfl hb20 rfl rfl ?_
                  refine AOps.move rfl rfl ?_
                  refine AOps.guardF rfl rfl rfl hb22 ?_
                  refine AOps.guardF rfl rfl rfl hb22 ?_
                  refine AOps.guardF rfl rfl rfl hb22 ?_
                  refine AOps.guardF rfl rfl rfl hb22 ?_
                  refine AOps.guardF rfl rfl rfl hb22 ?_
                  refine AOps.guardF rfl rfl rfl hb22 ?_
                  refine AOps.guardF rfl rfl rfl hb22 ?_
                  refine AOps.guardF rfl rfl rfl hb22 ?_
                  refine AOps.guardSkip rfl rfl rfl ?_
                  refine AOps.guardSkip rfl rfl rfl ?_
                  refine AOps.guardSkip rfl rfl rfl ?_
                  refine AOps.guardF rfl rfl rfl hb22 ?_
                  refine AOps.pickT rfl hb22 rfl rfl ?_
                  refine AOps.move rfl rfl ?_
                  refine AOps.guardT rfl rfl rfl rfl ?_; refine AOps.callR rfl rfl rfl rfl (law8_forced_ok ha91) rfl ?_
                  refine AOps.pickT rfl rfl rfl rfl ?_
                  refine AOps.assign rfl rfl ?_
                  refine AOps.nil ?_
                  have ej := Option.some.inj hx19
                  subst ej
                  refine thn_normal ?_
                  exact Sub.cut ⟨rfl, trivial⟩ rfl trivial rfl
                · replace hx19 := iteDF hb22 hx19
                  obtain ⟨a80, ha80, hx19⟩ := bind_some hx19
                  rcases Bool.eq_false_or_eq_true (!(decide (a80 = player))) with hb23 | hb23
                  · replace hx19 := iteBT hb23 hx19
                    rcases Bool.eq_false_or_eq_true (decide (safe10 = moves9)) with hb24 | hb24
                    · replace hx19 := iteDT hb24 hx19
                      obtain ⟨a91, ha91, hx19⟩ := bind_some hx19
                      refine AWP.region ?_
                      refine W.fieldAddr rfl rfl rfl rfl ?_
                      refine AOps.load rfl rfl rfl rfl rfl rfl ?_
                      refine AOps.move rfl rfl ?_
                      refine S.idx ha64 rfl rfl rfl rfl ?_
                      refine AOps.loadI rfl rfl rfl rfl ?_
                      refine AOps.move rfl rfl ?_
                      refine AOps.eql rfl rfl rfl ?_
                      refine AOps.move rfl rfl ?_
                      refine AOps.guardT rfl rfl rfl hb20 ?_; refine AOps.move rfl rfl ?_
                      refine AOps.guardT rfl rfl rfl hb20 ?_; refine AOps.eql rfl rfl rfl ?_
                      refine AOps.guardT rfl rfl rfl hb20 ?_; refine AOps.move rfl rfl ?_
                      refine AOps.guardT rfl rfl rfl hb21 ?_; refine AOps.move rfl rfl ?_
                      refine AOps.guardT rfl rfl rfl hb21 ?_; refine AOps.gtr rfl rfl rfl ?_
                      refine AOps.guardT rfl rfl rfl hb20 ?_; refine AOps.pickF rfl hb21 rfl rfl ?_
                      refine AOps.pickT rfl hb20 rfl rfl ?_
                      refine AOps.move rfl rfl ?_
                      refine AOps.guardT rfl rfl rfl hb22 ?_; refine W.fieldAddr rfl rfl rfl rfl ?_
                      refine AOps.guardT rfl rfl rfl hb22 ?_; refine AOps.load rfl rfl rfl rfl rfl rfl ?_
                      refine AOps.guardT rfl rfl rfl hb22 ?_; refine AOps.move rfl rfl ?_
                      refine AOps.guardT rfl rfl rfl hb22 ?_; refine S.idx ha80 rfl rfl rfl rfl ?_
                      refine AOps.guardT rfl rfl rfl hb22 ?_; refine AOps.loadI rfl rfl rfl rfl ?_
                      refine AOps.guardT rfl rfl rfl hb22 ?_; refine AOps.move rfl rfl ?_
                      refine AOps.guardT rfl rfl rfl hb22 ?_; refine AOps.neq rfl rfl rfl ?_
                      refine AOps.guardT rfl rfl rfl hb22 ?_; refine AOps.move rfl rfl ?_
                      refine AOps.guardT rfl rfl rfl hb23 ?_; refine AOps.move rfl rfl ?_
                      refine AOps.guardT rfl rfl rfl hb23 ?_; refine AOps.move rfl rfl ?_
                      refine AOps.guardT rfl rfl rfl hb23 ?_; refine AOps.eql rfl rfl rfl ?_
                      refine AOps.guardT rfl rfl rfl hb22 ?_; refine AOps.pickT rfl hb23 rfl rfl ?_
                      refine AOps.pickF rfl hb22 rfl rfl ?_
                      refine AOps.move rfl rfl ?_
                      refine AOps.guardT rfl rfl rfl hb24 ?_; refine AOps.callR rfl rfl rfl rfl (law8_forced_ok ha91) rfl ?_
                      refine AOps.pickT rfl hb24 rfl rfl ?_
                      refine AOps.assign rfl rfl ?_
                      refine AOps.nil ?_
                      have ej := Option.some.inj hx19
                      subst ej
                      refine thn_normal ?_
                      exact Sub.cut ⟨rfl, trivial⟩ rfl trivial rfl
                    · replace hx19 := iteDF hb24 hx19
                      refine AWP.region ?_
                      refine W.fieldAddr rfl rfl rfl rfl ?_
                      refine AOps.load rfl rfl rfl rfl rfl rfl ?_
                      refine AOps.move rfl rfl ?_
                      refine S.idx ha64 rfl rfl rfl rfl ?_
                      refine AOps.loadI rfl rfl rfl rfl ?_
                      refine AOps.move rfl rfl ?_
                      refine AOps.eql rfl rfl rfl ?_
                      refine AOps.move rfl rfl ?_
                      refine AOps.guardT rfl rfl rfl hb20 ?_; refine AOps.move rfl rfl ?_
                      refine AOps.guardT rfl rfl rfl hb20 ?_; refine AOps.eql rfl rfl rfl ?_
                      refine AOps.guardT rfl rfl rfl hb20 ?_; refine AOps.move rfl rfl ?_
                      refine AOps.guardT rfl rfl rfl hb21 ?_; refine AOps.move rfl rfl ?_
                      refine AOps.guardT rfl rfl rfl hb21 ?_; refine AOps.gtr rfl rfl rfl ?_
                      refine AOps.guardT rfl rfl rfl hb20 ?_; refine AOps.pickF rfl hb21 rfl rfl ?_
                      refine AOps.pickT rfl hb20 rfl rfl ?_
                      refine AOps.move rfl rfl ?_
                      refine AOps.guardT rfl rfl rfl hb22 ?_; refine W.fieldAddr rfl rfl rfl rfl ?_
                      refine AOps.guardT rfl rfl rfl hb22 ?_; refine AOps.load rfl rfl rfl rfl rfl rfl ?_
                      refine AOps.guardT rfl rfl rfl hb22 ?_; refine AOps.move rfl rfl ?_
                      refine AOps.guardT rfl rfl rfl hb22 ?_; refine S.idx ha80 rfl rfl rfl rfl ?_
                      refine AOps.guardT rfl rfl rfl hb22 ?_; refine AOps.loadI rfl rfl rfl rfl ?_
                      refine AOps.guardT rfl rfl rfl hb22 ?_; refine AOps.move rfl rfl ?_
                      refine AOps.guardT rfl rfl rfl hb22 ?_; refine AOps.neq rfl rfl rfl ?_
                      refine AOps.guardT rfl rfl rfl hb22 ?_; refine AOps.move rfl rfl ?_
                      refine AOps.guardT rfl rfl rfl hb23 ?_; refine AOps.move rfl rfl ?_
                      refine AOps.guardT rfl rfl rfl hb23 ?_; refine AOps.move rfl rfl ?_
                      refine AOps.guardT rfl rfl rfl hb23 ?_; refine AOps.eql rfl rfl rfl ?_
                      refine AOps.guardT rfl rfl rfl hb22 ?_; refine AOps.pickT rfl hb23 rfl rfl ?_
                      refine AOps.pickF rfl hb22 rfl rfl ?_
                      refine AOps.move rfl rfl ?_
                      refine AOps.guardF rfl rfl rfl hb24 ?_
                      refine AOps.pickF rfl hb24 rfl rfl ?_
                      refine AOps.assign rfl rfl ?_
                      refine AOps.nil ?_
                      have ej := Option.some.inj hx19
                      subst ej
                      refine thn_normal ?_
                      exact Sub.cut ⟨rfl, trivial⟩ rfl trivial rfl
                  · replace hx19 := iteBF hb23 hx19
                    refine AWP.region ?_
                    refine W.fieldAddr rfl rfl rfl rfl ?_
                    refine AOps.load rfl rfl rfl rfl rfl rfl ?_
                    refine AOps.move rfl rfl ?_
                    refine S.idx ha64 rfl rfl rfl rfl ?_
                    refine AOps.loadI rfl rfl rfl rfl ?_
                    refine AOps.move rfl rfl ?_
                    refine AOps.eql rfl rfl rfl ?_
                    refine AOps.move rfl rfl ?_
                    refine AOps.guardT rfl rfl rfl hb20 ?_; refine AOps.move rfl rfl ?_
                    refine AOps.guardT rfl rfl rfl hb20 ?_; refine AOps.eql rfl rfl rfl ?_
                    refine AOps.guardT rfl rfl rfl hb20 ?_; refine AOps.move rfl rfl ?_
                    refine AOps.guardT rfl rfl rfl hb21 ?_; refine AOps.move rfl rfl ?_
                    refine AOps.guardT rfl rfl rfl hb21 ?_; refine AOps.gtr rfl rfl rfl ?_
                    refine AOps.guardT rfl rfl rfl hb20 ?_; refine AOps.pickF rfl hb21 rfl rfl ?_
                    refine AOps.pickT rfl hb20 rfl rfl ?_
                    refine AOps.move rfl rfl ?_
                    refine AOps.guardT rfl rfl rfl hb22 ?_; refine W.fieldAddr rfl rfl rfl rfl ?_
                    refine AOps.guardT rfl rfl rfl hb22 ?_; refine AOps.load rfl rfl rfl rfl rfl rfl ?_
                    refine AOps.guardT rfl rfl rfl hb22 ?_; refine AOps.move rfl rfl ?_
                    refine AOps.guardT rfl rfl rfl hb22 ?_; refine S.idx ha80 rfl rfl rfl rfl ?_
                    refine AOps.guardT rfl rfl rfl hb22 ?_; refine AOps.loadI rfl rfl rfl rfl ?_
                    refine AOps.guardT rfl rfl rfl hb22 ?_; refine AOps.move rfl rfl ?_
                    refine AOps.guardT rfl rfl rfl hb22 ?_; refine AOps.neq rfl rfl rfl ?_
                    refine AOps.guardT rfl rfl rfl hb22 ?_; refine AOps.move rfl rfl ?_
                    refine AOps.guardF rfl rfl rfl hb23 ?_
                    refine AOps.guardF rfl rfl rfl hb23 ?_
                    refine AOps.guardF rfl rfl rfl hb23 ?_
                    refine AOps.guardT rfl rfl rfl hb22 ?_; refine AOps.pickF rfl hb23 rfl rfl ?_
                    refine AOps.pickF rfl hb22 rfl rfl ?_
                    refine AOps.move rfl rfl ?_
                    refine AOps.guardF rfl rfl rfl rfl ?_
                    refine AOps.pickF rfl rfl rfl rfl ?_
                    refine AOps.assign rfl rfl ?_
                    refine AOps.nil ?_
                    have ej := Option.some.inj hx19
                    subst ej
                    refine thn_normal ?_
                    exact Sub.cut ⟨rfl, trivial⟩ rfl trivial rfl
            · replace hx19 := iteDF hb20 hx19
              obtain ⟨a80, ha80, hx19⟩ := bind_some hx19
              rcases Bool.eq_false_or_eq_true (!(decide (a80 = player))) with hb25 | hb25
              · replace hx19 := iteBT hb25 hx19
                rcases Bool.eq_false_or_eq_true (decide (safe10 = moves9)) with hb26 | hb26
                · replace hx19 := iteDT hb26 hx19
                  obtain ⟨a91, ha91, hx19⟩ := bind_some hx19
                  refine AWP.region ?_
                  refine W.fieldAddr rfl rfl rfl rfl ?_
                  refine AOps.load rfl rfl rfl rfl rfl rfl ?_
                  refine AOps.move rfl rfl ?_
                  refine S.idx ha64 rfl rfl rfl rfl ?_
                  refine AOps.loadI rfl rfl rfl rfl ?_
                  refine AOps.move rfl rfl ?_
                  refine AOps.eql rfl rfl rfl ?_
                  refine AOps.move rfl rfl ?_
                  refine AOps.guardF rfl rfl rfl hb20 ?_
                  refine AOps.guardF rfl rfl rfl hb20 ?_
                  refine AOps.guardF rfl rfl rfl hb20 ?_
                  refine AOps.guardSkip rfl rfl rfl ?_
                  refine AOps.guardSkip rfl rfl rfl ?_
                  refine AOps.guardF rfl rfl rfl hb20 ?_
                  refine AOps.pickF rfl hb20 rfl rfl ?_
                  refine AOps.move rfl rfl ?_
                  refine AOps.guardT rfl rfl rfl rfl ?_; refine W.fieldAddr rfl rfl rfl rfl ?_
                  refine AOps.guardT rfl rfl rfl rfl ?_; refine AOps.load rfl rfl rfl rfl rfl rfl ?_
                  refine AOps.guardT rfl rfl rfl rfl ?_; refine AOps.move rfl rfl ?_
                  refine AOps.guardT rfl rfl rfl rfl ?_; refine S.idx ha80 rfl rfl rfl rfl ?_
                  refine AOps.guardT rfl rfl rfl rfl ?_; refine AOps.loadI rfl rfl rfl rfl ?_
                  refine AOps.guardT rfl rfl rfl rfl ?_; refine AOps.move rfl rfl ?_
                  refine AOps.guardT rfl rfl rfl rfl ?_; refine AOps.neq rfl rfl rfl ?_
                  refine AOps.guardT rfl rfl rfl rfl ?_; refine AOps.move rfl rfl ?_
                  refine AOps.guardT rfl rfl rfl hb25 ?_; refine AOps.move rfl rfl ?_
                  refine AOps.guardT rfl rfl rfl hb25 ?_; refine AOps.move rfl rfl ?_
                  refine AOps.guardT rfl rfl rfl hb25 ?_; refine AOps.eql rfl rfl rfl ?_
                  refine AOps.guardT rfl rfl rfl rfl ?_; refine AOps.pickT rfl hb25 rfl rfl ?_
                  refine AOps.pickF rfl rfl rfl rfl ?_
                  refine AOps.move rfl rfl ?_
                  refine AOps.guardT rfl rfl rfl hb26 ?_; refine AOps.callR rfl rfl rfl rfl (law8_forced_ok ha91) rfl ?_
                  refine AOps.pickT rfl hb26 rfl rfl ?_
                  refine AOps.assign rfl rfl ?_
                  refine AOps.nil ?_
                  have ej := Option.some.inj hx19
                  subst ej
                  refine thn_normal ?_
                  exact Sub.cut ⟨rfl, trivial⟩ rfl trivial rfl
                · replace hx19 := iteDF hb26 hx19
                  refine AWP.region ?_
                  refine W.fieldAddr rfl rfl rfl rfl ?_
                  refine AOps.load rfl rfl rfl rfl rfl rfl ?_
                  refine AOps.move rfl rfl ?_
                  refine S.idx ha64 rfl rfl rfl rfl ?_
                  refine AOps.loadI rfl rfl rfl rfl ?_
                  refine AOps.move rfl rfl ?_
                  refine AOps.eql rfl rfl rfl ?_
                  refine AOps.move rfl rfl ?_
                  refine AOps.guardF rfl rfl rfl hb20 ?_
                  refine AOps.guardF rfl rfl rfl hb20 ?_
                  refine AOps.guardF rfl rfl rfl hb20 ?_
                  refine AOps.guardSkip rfl rfl rfl ?_
                  refine AOps.guardSkip rfl rfl rfl ?_
                  refine AOps.guardF rfl rfl rfl hb20 ?_
                  refine AOps.pickF rfl hb20 rfl rfl ?_
                  refine AOps.move rfl rfl ?_
                  refine AOps.guardT rfl rfl rfl rfl ?_; refine W.fieldAddr rfl rfl rfl rfl ?_
                  refine AOps.guardT rfl rfl rfl rfl ?_; refine AOps.load rfl rfl rfl rfl rfl rfl ?_
                  refine AOps.guardT rfl rfl rfl rfl ?_; refine AOps.move rfl rfl ?_
                  refine AOps.guardT rfl rfl rfl rfl ?_; refine S.idx ha80 rfl rfl rfl rfl ?_
                  refine AOps.guardT rfl rfl rfl rfl ?_; refine AOps.loadI rfl rfl rfl rfl ?_
                  refine AOps.guardT rfl rfl rfl rfl ?_; refine AOps.move rfl rfl ?_
                  refine AOps.guardT rfl rfl rfl rfl ?_; refine AOps.neq rfl rfl rfl ?_
                  refine AOps.guardT rfl rfl rfl rfl ?_; refine AOps.move rfl rfl ?_
                  refine AOps.guardT rfl rfl rfl hb25 ?_; refine AOps.move rfl rfl ?_
                  refine AOps.guardT rfl rfl rfl hb25 ?_; refine AOps.move rfl rfl ?_
                  refine AOps.guardT rfl rfl rfl hb25 ?_; refine AOps.eql rfl rfl rfl ?_
                  refine AOps.guardT rfl rfl rfl rfl ?_; refine AOps.pickT rfl hb25 rfl rfl ?_
                  refine AOps.pickF rfl rfl rfl rfl ?_
                  refine AOps.move rfl rfl ?_
                  refine AOps.guardF rfl rfl rfl hb26 ?_
                  refine AOps.pickF rfl hb26 rfl rfl ?_
                  refine AOps.assign rfl rfl ?_
                  refine AOps.nil ?_
                  have ej := Option.some.inj hx19
                  subst ej
                  refine thn_normal ?_
                  exact Sub.cut ⟨rfl, trivial⟩ rfl trivial rfl
              · replace hx19 := iteBF hb25 hx19
                refine AWP.region ?_
                refine W.fieldAddr rfl rfl rfl rfl ?_
                refine AOps.load rfl rfl rfl rfl rfl rfl ?_
                refine AOps.move rfl rfl ?_
                refine S.idx ha64 rfl rfl rfl rfl ?_
                refine AOps.loadI rfl rfl rfl rfl ?_
                refine AOps.move rfl rfl ?_
                refine AOps.eql rfl rfl rfl ?_
                refine AOps.move rfl rfl ?_
                refine AOps.guardF rfl rfl rfl hb20 ?_
                refine AOps.guardF rfl rfl rfl hb20 ?_
                refine AOps.guardF rfl rfl rfl hb20 ?_
                refine AOps.guardSkip rfl rfl rfl ?_
                refine AOps.guardSkip rfl rfl rfl ?_
                refine AOps.guardF rfl rfl rfl hb20 ?_
                refine AOps.pickF rfl hb20 rfl rfl ?_
                refine AOps.move rfl rfl ?_
                refine AOps.guardT rfl rfl rfl rfl ?_; refine W.fieldAddr rfl rfl rfl rfl ?_
                refine AOps.guardT rfl rfl rfl rfl ?_; refine AOps.load rfl rfl rfl rfl rfl rfl ?_
                refine AOps.guardT rfl rfl rfl rfl ?_; refine AOps.move rfl rfl ?_
                refine AOps.guardT rfl rfl rfl rfl ?_; refine S.idx ha80 rfl rfl rfl rfl ?_
                refine AOps.guardT rfl rfl rfl rfl ?_; refine AOps.loadI rfl rfl rfl rfl ?_
                refine AOps.guardT rfl rfl rfl rfl ?_; refine AOps.move rfl rfl ?_
                refine AOps.guardT rfl rfl rfl rfl ?_; refine AOps.neq rfl rfl rfl ?_
                refine AOps.guardT rfl rfl rfl rfl ?_; refine AOps.move rfl rfl ?_
                refine AOps.guardF rfl rfl rfl hb25 ?_
                refine AOps.guardF rfl rfl rfl hb25 ?_
                refine AOps.guardF rfl rfl rfl hb25 ?_
                refine AOps.guardT rfl rfl rfl rfl ?_; refine AOps.pickF rfl hb25 rfl rfl ?_
                refine AOps.pickF rfl rfl rfl rfl ?_
                refine AOps.move rfl rfl ?_
                refine AOps.guardF rfl rfl rfl rfl ?_
                refine AOps.pickF rfl rfl rfl rfl ?_
                refine AOps.assign rfl rfl ?_
                refine AOps.nil ?_
                have ej := Option.some.inj hx19
                subst ej
                refine thn_normal ?_
                exact Sub.cut ⟨rfl, trivial⟩ rfl trivial rfl
          · refine AWP.ret ?_
            have ej := Option.some.inj h
            subst ej
            exact Done.ret rfl rfl

def slices_Index_2_int_2_int_l1 (sv : List (Int × Int)) (v : Int × Int) : Int → Unit → Option (Unit ⊕ Int) := fun t3 _ => Option.bind (ix sv t3) fun a14 => if ((decide (v.1 = a14.1)) && (decide (v.2 = a14.2))) = true then some (.inr t3) else some (.inl ())
def slices_Index_2_int_2_int (sv : List (Int × Int)) (v : Int × Int) : Option Int := (Option.bind (rngX 0 (sv.length : Int) (slices_Index_2_int_2_int_l1 sv v) ()) fun | .inl _ => some (-1) | .inr x => some x)
theorem slices_Index_2_int_2_int_ok {sv : List (Int × Int)} {v : Int × Int} {r : Int} (h : slices_Index_2_int_2_int sv v = some r) : PureOk Try.prog 37 [.c (row 2 eA2i64 sv), .agg [int v.1, int v.2]] (.c (int r)) := by
  unfold PureOk
  refine FnOk.enter (rs := [.t 4]) Try.func37 rfl Try.ntmps37 Try.results37 rfl ⟨trivial, trivial⟩ (by kernel_rfl) rfl ?_
  unfold slices_Index_2_int_2_int at h
  refine AWP.seq ?_
  refine AWP.region ?_
  refine W.box rfl rfl rfl rfl rfl rfl ?_
  refine AOps.assign rfl rfl ?_
  refine AOps.nil ?_
  refine thn_normal ?_
  refine AWP.seq ?_
  refine AWP.seq ?_
  refine AWP.region ?_
  refine AOps.move rfl rfl ?_
  refine S.len rfl rfl (fun hl7 => ?_)
  refine AOps.move rfl rfl ?_
  refine AOps.nil ?_
  refine thn_normal ?_
  refine AWP.block ?_
  obtain ⟨oo, ho1, h⟩ := bind_some h
  refine AWP.rngS ho1 (fun t3 _ => ⟨[(0, .c (row 2 eA2i64 sv)), (3, .c (.ptr 0 0 0)), (7, .c (int (sv.length : Int))), (8, .c (int t3))], [.one (.cells 2 [[int v.1, int v.2]])]⟩) (fun o e st => match o with | .inl _ => e = .exit 0 ∧ Sub [] st ⟨[], [.one (.cells 2 [[int v.1, int v.2]])]⟩ | .inr x => e = .ret ∧ Done [.t 4] (fun t _ => t = .c (int x)) .ret st) ?_ ?_ ?_ ?_
  · try dsimp only
    exact Sub.env ⟨rfl, rfl, rfl, rfl, trivial⟩
  · intro t3 s hlot3 hltt3 _
    try dsimp only
    refine AWP.seq ?_
    refine AWP.region ?_
    refine AOps.lss rfl rfl rfl ?_
    refine AOps.nil ?_
    refine thn_normal ?_
    refine AWP.seq ?_
    refine AWP.condNP rfl hltt3 ?_
    refine AWP.exit ?_
    refine thn_exit ?_
    refine thn_exit ⟨rfl, ?_⟩
    exact Sub.env trivial
  · intro t3 s o hlot3 hltt3 h
    unfold slices_Index_2_int_2_int_l1 at h
    try dsimp only at h ⊢
    refine AWP.seq ?_
    refine AWP.region ?_
    refine AOps.lss rfl rfl rfl ?_
    refine AOps.nil ?_
    refine thn_normal ?_
    refine AWP.seq ?_
    refine AWP.condP rfl hltt3 ?_
    refine AWP.skip ?_
    refine thn_normal ?_
    refine AWP.seq ?_
    refine AWP.block ?_
    refine AWP.seq ?_
    refine AWP.region ?_
    refine AOps.move rfl rfl ?_
    refine AOps.assign rfl rfl ?_
    refine AOps.nil ?_
    refine thn_normal ?_
    refine AWP.seq ?_
    obtain ⟨a14, ha14, h⟩ := bind_some h
    refine AWP.drawI mixed rfl ?_
    apply DrawSeq.consF; exact rfl; intro E
    refine W.loadAgg rfl rfl rfl rfl rfl rfl rfl ?_
    exact AOps.nil ⟨rfl, rfl⟩
    exact rfl
    apply DrawSeq.consF; exact rfl; intro E
    refine AOps.move rfl rfl ?_
    exact AOps.nil ⟨rfl, rfl⟩
    exact rfl
    apply DrawSeq.consF; exact rfl; intro E
    refine AOps.move rfl rfl ?_
    exact AOps.nil ⟨rfl, rfl⟩
    exact rfl
    apply DrawSeq.consF; exact rfl; intro E
    refine S.idx ha14 rfl rfl rfl rfl ?_
    exact AOps.nil ⟨rfl, rfl⟩
    exact rfl
    apply DrawSeq.consF; exact rfl; intro E
    refine W.loadIAgg rfl rfl rfl rfl rfl ?_
    exact AOps.nil ⟨rfl, rfl⟩
    exact rfl
    apply DrawSeq.consF; exact rfl; intro E
    refine AOps.eqlA rfl rfl rfl rfl ?_
    exact AOps.nil ⟨rfl, rfl⟩
    exact rfl
    refine DrawSeq.done ?_
    dsimp only [envEnd]
    refine thn_normal ?_
    refine AWP.iteB rfl h (fun hc4 h => ?_) (fun hc4 h => ?_)
    · refine AWP.seq ?_
      refine AWP.region ?_
      refine AOps.move rfl rfl ?_
      refine AOps.assign rfl rfl ?_
      refine AOps.nil ?_
      refine thn_normal ?_
      refine AWP.ret ?_
      refine inB_ret ?_
      refine thn_ret ?_
      have ej := Option.some.inj h
      subst ej
      refine thn_ret ⟨_, rfl, rfl, ?_⟩
      exact Done.ret rfl rfl
    · refine AWP.skip ?_
      refine inB_normal ?_
      refine thn_normal ?_
      refine AWP.region ?_
      refine AOps.add rfl rfl rfl (by omega) ?_
      refine AOps.move rfl rfl ?_
      refine AOps.nil ?_
      have ej := Option.some.inj h
      subst ej
      refine thn_normal ⟨_, rfl, ?_⟩
      exact Sub.env ⟨rfl, rfl, rfl, rfl, trivial⟩
  · intro e s hq
    rcases oo with u | x
    · try dsimp only at h hq
      obtain ⟨rfl, hs⟩ := hq
      refine ⟨_, hs, ?_⟩
      refine inB_exit ?_
      refine thn_normal ?_
      refine AWP.seq ?_
      refine AWP.region ?_
      refine AOps.assign rfl rfl ?_
      refine AOps.nil ?_
      refine thn_normal ?_
      refine AWP.ret ?_
      have ej := Option.some.inj h
      subst ej
      exact Done.ret rfl rfl
    · try dsimp only at h hq
      obtain ⟨rfl, hs⟩ := hq
      refine ⟨_, Sub.refl _ _, ?_⟩
      refine inB_ret ?_
      refine thn_ret ?_
      have ej := Option.some.inj h
      subst ej
      exact hs

def slices_Contains_2_int_2_int (sv : List (Int × Int)) (v : Int × Int) : Option Bool := Option.bind (slices_Index_2_int_2_int sv v) fun a7 => some (decide (0 ≤ a7))
theorem slices_Contains_2_int_2_int_ok {sv : List (Int × Int)} {v : Int × Int} {r : Bool} (h : slices_Contains_2_int_2_int sv v = some r) : PureOk Try.prog 31 [.c (row 2 eA2i64 sv), .agg [int v.1, int v.2]] (.c (bool r)) := by
  unfold PureOk
  refine FnOk.enter (rs := [.t 4]) Try.func31 rfl Try.ntmps31 Try.results31 rfl ⟨trivial, trivial⟩ (by kernel_rfl) rfl ?_
  unfold slices_Contains_2_int_2_int at h
  refine AWP.seq ?_
  refine AWP.region ?_
  refine W.box rfl rfl rfl rfl rfl rfl ?_
  refine AOps.assign rfl rfl ?_
  refine AOps.nil ?_
  refine thn_normal ?_
  refine AWP.seq ?_
  obtain ⟨a7, ha7, h⟩ := bind_some h
  refine AWP.region ?_
  refine AOps.move rfl rfl ?_
  refine W.loadAgg rfl rfl rfl rfl rfl rfl rfl ?_
  refine AOps.callR rfl rfl rfl rfl (slices_Index_2_int_2_int_ok ha7) rfl ?_
  refine AOps.geq rfl rfl rfl ?_
  refine AOps.assign rfl rfl ?_
  refine AOps.nil ?_
  refine thn_normal ?_
  refine AWP.ret ?_
  have ej := Option.some.inj h
  subst ej
  exact Done.ret rfl rfl

def games_Play_l1 (gv : TGame) (nextv : List Int) : Int → Unit → Option (Unit ⊕ ((List Int) × TFault)) := fun t7 _ => Option.bind (ix nextv t7) fun a33 => Option.bind (if (!(decide (a33 = (-1)))) = true then Option.bind (slices_Contains_2_int_2_int gv.arcs (t7, a33)) fun a43 => some (!a43) else some false) fun t8 => if t8 = true then some (.inr ([], (⟨6, w64 ((-31) - t7)⟩ : TFault))) else some (.inl ())
def games_Play_l2 (nextv : List Int) (steps : Int) : ((List Int) × Int) → Option (((List Int) × Int) ⊕ (List Int)) := fun (c14, p15) => Option.bind (ix nextv p15) fun a74 => if ((decide (0 ≤ a74)) && (decide ((c14.length : Int) ≤ steps))) = true then Option.bind (ix nextv p15) fun a90 => Option.bind (app 8 c14 [a90]) fun a93 => Option.bind (ix nextv p15) fun a85 => some (.inl (a93, a85)) else some (.inr c14)
noncomputable def games_Play (gv : TGame) (nextv : List Int) (start : Int) (steps : Int) : Option ((List Int) × TFault) := Option.bind (games_Validate gv) fun a16 => if (!((decide (a16.code = 0)) && (decide (a16.index = 0)))) = true then some ([], a16) else if (nextv.length : Int) = (gv.owner.length : Int) then (Option.bind (rngX 0 (nextv.length : Int) (games_Play_l1 gv nextv) ()) fun | .inl _ => if ((decide (start < 0)) || (decide ((gv.owner.length : Int) ≤ start))) = true then some ([], (⟨3, -28⟩ : TFault)) else if ((decide (steps < 0)) || (decide (60 < steps))) = true then some ([], (⟨3, -29⟩ : TFault)) else Option.bind (Loop (games_Play_l2 nextv steps) ([start], start)) fun c16 => some (c16, (⟨0, 0⟩ : TFault)) | .inr x => some x) else some ([], (⟨9, -30⟩ : TFault))
theorem games_Play_ok {gv : TGame} {nextv : List Int} {start : Int} {steps : Int} {r : (List Int) × TFault} (h : games_Play gv nextv start steps = some r) : PureOk Try.prog 21 [.agg [row 1 intI gv.owner, row 2 eA2i64 gv.arcs], .c (row 1 intI nextv), .c (int start), .c (int steps)] (.tup [.c (row 1 intI r.1), .agg [int r.2.code, int r.2.index]]) := by
  unfold PureOk
  refine FnOk.enter (rs := [.t 8, .cell 9 27 2]) Try.func21 rfl Try.ntmps21 Try.results21 rfl ⟨trivial, rv _ rfl, trivial⟩ (by kernel_rfl) rfl ?_
  unfold games_Play at h
  refine AWP.seq ?_
  refine AWP.region ?_
  refine W.box rfl rfl rfl rfl rfl rfl ?_
  refine AOps.assign rfl rfl ?_
  refine W.alloc rfl rfl rfl rfl ?_
  refine AOps.nil ?_
  refine thn_normal ?_
  refine AWP.seq ?_
  refine AWP.seq ?_
  obtain ⟨a16, ha16, h⟩ := bind_some h
  refine AWP.region ?_
  refine W.loadAgg rfl rfl rfl rfl rfl rfl rfl ?_
  refine AOps.callR rfl rfl rfl rfl (games_Validate_ok ha16) rfl ?_
  refine W.alloc rfl rfl rfl rfl ?_
  refine W.storeAgg rfl rfl rfl rfl rfl rfl rfl ?_
  refine AOps.nil ?_
  refine thn_normal ?_
  refine AWP.seq ?_
  refine AWP.region ?_
  refine W.loadAgg rfl rfl rfl rfl rfl rfl rfl ?_
  refine W.build rfl rfl rfl rfl ?_
  refine AOps.neqP rfl rfl rfl rfl rfl rfl rfl ?_
  refine AOps.nil ?_
  refine thn_normal ?_
  refine AWP.iteB rfl h (fun hc5 h => ?_) (fun hc5 h => ?_)
  · refine AWP.seq ?_
    refine AWP.drawEI [2] mixed rfl rfl rfl ?_
    apply DrawSeqE.consN; exact rfl; exact rfl; intro E
    refine W.loadAgg rfl rfl rfl rfl rfl rfl rfl ?_
    exact AOps.nil ⟨rfl, rfl⟩
    exact rfl
    apply DrawSeqE.consN; exact rfl; exact rfl; intro E
    refine AOps.assign rfl rfl ?_
    exact AOps.nil ⟨rfl, rfl⟩
    exact rfl
    apply DrawSeqE.consE (v := .undef); exact rfl; exact rfl; intro E
    refine W.storeAgg rfl rfl rfl rfl rfl rfl rfl ?_
    exact AOps.nil ⟨rfl, rfl⟩
    exact rfl
    exact rfl
    refine DrawSeqE.done rfl ?_ ?_
    · apply RestI.cons; exact rfl; exact rfl
      first | refine RestK.skip rfl ?_ | (apply RestK.go; exact rfl; exact rfl; intro E; (refine W.loadAgg rfl rfl rfl rfl rfl rfl rfl ?_); exact AOps.nil ⟨rfl, rfl⟩)
      first | refine RestK.skip rfl ?_ | (apply RestK.go; exact rfl; exact rfl; intro E; (refine W.loadAgg rfl rfl rfl rfl rfl rfl rfl ?_); exact AOps.nil ⟨rfl, rfl⟩)
      exact RestK.nil
      apply RestI.cons; exact rfl; exact rfl
      first | refine RestK.skip rfl ?_ | (apply RestK.go; exact rfl; exact rfl; intro E; (refine AOps.assign rfl rfl ?_); exact AOps.nil ⟨rfl, rfl⟩)
      first | refine RestK.skip rfl ?_ | (apply RestK.go; exact rfl; exact rfl; intro E; (refine AOps.assign rfl rfl ?_); exact AOps.nil ⟨rfl, rfl⟩)
      exact RestK.nil
      refine RestI.skip rfl ?_
      exact RestI.nil
    dsimp only [envEnd]
    refine thn_normal ?_
    refine AWP.nilrow 1 8 rfl ?_
    refine AWP.ret ?_
    refine thn_ret ?_
    have ej := Option.some.inj h
    subst ej
    exact Done.ret rfl rfl
  · refine AWP.skip ?_
    refine thn_normal ?_
    refine AWP.seq ?_
    refine AWP.seq ?_
    refine AWP.region ?_
    refine AOps.move rfl rfl ?_
    refine S.len rfl rfl (fun hl22 => ?_)
    refine W.fieldAddr rfl rfl rfl rfl ?_
    refine AOps.load rfl rfl rfl rfl rfl rfl ?_
    refine S.len rfl rfl (fun hl25 => ?_)
    refine AOps.neq rfl rfl rfl ?_
    refine AOps.nil ?_
    refine thn_normal ?_
    refine AWP.iteN rfl h (fun hc6 h => ?_) (fun hc6 h => ?_)
    · refine AWP.seq ?_
      refine AWP.region ?_
      refine W.build rfl rfl rfl rfl ?_
      refine AOps.assign rfl rfl ?_
      refine W.storeAgg rfl rfl rfl rfl rfl rfl rfl ?_
      refine AOps.nil ?_
      refine thn_normal ?_
      refine AWP.nilrow 1 8 rfl ?_
      refine AWP.ret ?_
      refine thn_ret ?_
      have ej := Option.some.inj h
      subst ej
      exact Done.ret rfl rfl
    · refine AWP.skip ?_
      refine thn_normal ?_
      refine AWP.seq ?_
      refine AWP.seq ?_
      refine AWP.region ?_
      refine AOps.move rfl rfl ?_
      refine S.len rfl rfl (fun hl29 => ?_)
      refine AOps.move rfl rfl ?_
      refine AOps.nil ?_
      refine thn_normal ?_
      refine AWP.block ?_
      obtain ⟨oo, ho1, h⟩ := bind_some h
      refine AWP.rngS ho1 (fun t7 _ => ⟨[(1, .c (row 1 intI nextv)), (2, .c (int start)), (3, .c (int steps)), (4, .c (.ptr 0 0 0)), (9, .c (.ptr 1 0 0)), (28, .c (row 1 intI nextv)), (29, .c (int (nextv.length : Int))), (30, .c (int t7))], [.one (.cells 2 [[row 1 intI gv.owner, row 2 eA2i64 gv.arcs]]), .one (.cells 2 [[int 0, int 0]])]⟩) (fun o e st => match o with | .inl _ => e = .exit 0 ∧ Sub [] st ⟨[(1, .c (row 1 intI nextv)), (2, .c (int start)), (3, .c (int steps)), (4, .c (.ptr 0 0 0)), (9, .c (.ptr 1 0 0))], [.one (.cells 2 [[row 1 intI gv.owner, row 2 eA2i64 gv.arcs]]), .one (.cells 2 [[int 0, int 0]])]⟩ | .inr x => e = .ret ∧ Done [.t 8, .cell 9 27 2] (fun t _ => t = .tup [.c (row 1 intI x.1), .agg [int x.2.code, int x.2.index]]) .ret st) ?_ ?_ ?_ ?_
      · try dsimp only
        exact Sub.cut ⟨rfl, rfl, rfl, rfl, rfl, rfl, rfl, rfl, trivial⟩ rfl ⟨.one rfl, .one rfl, trivial⟩ rfl
      · intro t7 s hlot7 hltt7 _
        try dsimp only
        refine AWP.seq ?_
        refine AWP.region ?_
        refine AOps.lss rfl rfl rfl ?_
        refine AOps.nil ?_
        refine thn_normal ?_
        refine AWP.seq ?_
        refine AWP.condNP rfl hltt7 ?_
        refine AWP.exit ?_
        refine thn_exit ?_
        refine thn_exit ⟨rfl, ?_⟩
        exact Sub.env ⟨rfl, rfl, rfl, rfl, rfl, trivial⟩
      · intro t7 s o hlot7 hltt7 h
        unfold games_Play_l1 at h
        try dsimp only at h ⊢
        refine AWP.seq ?_
        refine AWP.region ?_
        refine AOps.lss rfl rfl rfl ?_
        refine AOps.nil ?_
        refine thn_normal ?_
        refine AWP.seq ?_
        refine AWP.condP rfl hltt7 ?_
        refine AWP.skip ?_
        refine thn_normal ?_
        refine AWP.seq ?_
        refine AWP.block ?_
        refine AWP.seq ?_
        obtain ⟨a33, ha33, h⟩ := bind_some h
        refine AWP.region ?_
        refine AOps.move rfl rfl ?_
        refine S.idx ha33 rfl rfl rfl rfl ?_
        refine AOps.loadI rfl rfl rfl rfl ?_
        refine AOps.assign rfl rfl ?_
        refine AOps.assign rfl rfl ?_
        refine AOps.nil ?_
        refine thn_normal ?_
        obtain ⟨t8, hx9, h⟩ := bind_some h
        refine AWP.seqJ (⟨[(1, .c (row 1 intI nextv)), (2, .c (int start)), (3, .c (int steps)), (4, .c (.ptr 0 0 0)), (9, .c (.ptr 1 0 0)), (11, .c (int t7)), (28, .c (row 1 intI nextv)), (29, .c (int (nextv.length : Int))), (30, .c (int t7)), (45, .c (bool t8))], [.one (.cells 2 [[row 1 intI gv.owner, row 2 eA2i64 gv.arcs]]), .one (.cells 2 [[int 0, int 0]])]⟩) ?_ ?_
        · rcases Bool.eq_false_or_eq_true (!(decide (a33 = (-1)))) with hb10 | hb10
          · replace hx9 := iteBT hb10 hx9
            obtain ⟨a43, ha43, hx9⟩ := bind_some hx9
            refine AWP.region ?_
            refine AOps.move rfl rfl ?_
            refine AOps.neq rfl rfl rfl ?_
            refine AOps.move rfl rfl ?_
            refine AOps.guardT rfl rfl rfl hb10 ?_; refine W.fieldAddr rfl rfl rfl rfl ?_
            refine AOps.guardT rfl rfl rfl hb10 ?_; refine AOps.load rfl rfl rfl rfl rfl rfl ?_
            refine AOps.guardT rfl rfl rfl hb10 ?_; refine AOps.move rfl rfl ?_
            refine AOps.guardT rfl rfl rfl hb10 ?_; refine AOps.move rfl rfl ?_
            refine AOps.guardT rfl rfl rfl hb10 ?_; refine AOps.buildA rfl rfl rfl rfl ?_
            refine AOps.guardT rfl rfl rfl hb10 ?_; refine AOps.callR rfl rfl rfl rfl (slices_Contains_2_int_2_int_ok ha43) rfl ?_
            refine AOps.guardT rfl rfl rfl hb10 ?_; refine AOps.not rfl rfl ?_
            refine AOps.pickT rfl hb10 rfl rfl ?_
            refine AOps.nil ?_
            have ej := Option.some.inj hx9
            subst ej
            refine thn_normal ?_
            exact Sub.env ⟨rfl, rfl, rfl, rfl, rfl, rfl, rfl, rfl, rfl, rfl, trivial⟩
          · replace hx9 := iteBF hb10 hx9
            refine AWP.region ?_
            refine AOps.move rfl rfl ?_
            refine AOps.neq rfl rfl rfl ?_
            refine AOps.move rfl rfl ?_
            refine AOps.guardF rfl rfl rfl hb10 ?_
            refine AOps.guardF rfl rfl rfl hb10 ?_
            refine AOps.guardF rfl rfl rfl hb10 ?_
            refine AOps.guardF rfl rfl rfl hb10 ?_
            refine AOps.guardF rfl rfl rfl hb10 ?_
            refine AOps.guardF rfl rfl rfl hb10 ?_
            refine AOps.guardF rfl rfl rfl hb10 ?_
            refine AOps.pickF rfl hb10 rfl rfl ?_
            refine AOps.nil ?_
            have ej := Option.some.inj hx9
            subst ej
            refine thn_normal ?_
            exact Sub.env ⟨rfl, rfl, rfl, rfl, rfl, rfl, rfl, rfl, rfl, rfl, trivial⟩
        · refine AWP.iteB rfl h (fun hc11 h => ?_) (fun hc11 h => ?_)
          · refine AWP.seq ?_
            refine AWP.region ?_
            refine AOps.move rfl rfl ?_
            refine S.sub rfl rfl rfl ?_
            refine W.build rfl rfl rfl rfl ?_
            refine AOps.assign rfl rfl ?_
            refine W.storeAgg rfl rfl rfl rfl rfl rfl rfl ?_
            refine AOps.nil ?_
            refine thn_normal ?_
            refine AWP.nilrow 1 8 rfl ?_
            refine AWP.ret ?_
            refine inB_ret ?_
            refine thn_ret ?_
            have ej := Option.some.inj h
            subst ej
            refine thn_ret ⟨_, rfl, rfl, ?_⟩
            exact Done.ret rfl rfl
          · refine AWP.skip ?_
            refine inB_normal ?_
            refine thn_normal ?_
            refine AWP.region ?_
            refine AOps.add rfl rfl rfl (by omega) ?_
            refine AOps.move rfl rfl ?_
            refine AOps.nil ?_
            have ej := Option.some.inj h
            subst ej
            refine thn_normal ⟨_, rfl, ?_⟩
            exact Sub.env ⟨rfl, rfl, rfl, rfl, rfl, rfl, rfl, rfl, trivial⟩
      · intro e s hq
        rcases oo with u | x
        · try dsimp only at h hq
          obtain ⟨rfl, hs⟩ := hq
          refine ⟨_, hs, ?_⟩
          refine inB_exit ?_
          refine thn_normal ?_
          refine AWP.seq ?_
          refine AWP.block ?_
          refine AWP.seqJ (⟨[(1, .c (row 1 intI nextv)), (2, .c (int start)), (3, .c (int steps)), (9, .c (.ptr 1 0 0)), (50, .c (bool ((decide (start < 0)) || (decide ((gv.owner.length : Int) ≤ start)))))], [.one (.cells 2 [[row 1 intI gv.owner, row 2 eA2i64 gv.arcs]]), .one (.cells 2 [[int 0, int 0]])]⟩) ?_ ?_
          · rcases Bool.eq_false_or_eq_true (decide (start < 0)) with hb1 | hb1
            · refine AWP.region ?_
              refine AOps.move rfl rfl ?_
              refine AOps.lss rfl rfl rfl ?_
              refine AOps.move rfl rfl ?_
              refine AOps.guardF rfl rfl rfl hb1 ?_
              refine AOps.guardF rfl rfl rfl hb1 ?_
              refine AOps.guardF rfl rfl rfl hb1 ?_
              refine AOps.guardF rfl rfl rfl hb1 ?_
              refine AOps.guardF rfl rfl rfl hb1 ?_
              refine AOps.pickT rfl hb1 rfl rfl ?_
              refine AOps.assign rfl rfl ?_
              refine AOps.nil ?_
              refine thn_normal ?_
              simp only [and_t hb1, or_t hb1]
              exact Sub.env ⟨rfl, rfl, rfl, rfl, rfl, trivial⟩
            · refine AWP.region ?_
              refine AOps.move rfl rfl ?_
              refine AOps.lss rfl rfl rfl ?_
              refine AOps.move rfl rfl ?_
              refine AOps.guardT rfl rfl rfl hb1 ?_; refine AOps.move rfl rfl ?_
              refine AOps.guardT rfl rfl rfl hb1 ?_; refine W.fieldAddr rfl rfl rfl rfl ?_
              refine AOps.guardT rfl rfl rfl hb1 ?_; refine AOps.load rfl rfl rfl rfl rfl rfl ?_
              refine AOps.guardT rfl rfl rfl hb1 ?_; refine S.len rfl rfl (fun hl57 => ?_)
              refine AOps.guardT rfl rfl rfl hb1 ?_; refine AOps.geq rfl rfl rfl ?_
              refine AOps.pickF rfl hb1 rfl rfl ?_
              refine AOps.assign rfl rfl ?_
              refine AOps.nil ?_
              refine thn_normal ?_
              simp only [and_f hb1, or_f hb1]
              exact Sub.env ⟨rfl, rfl, rfl, rfl, rfl, trivial⟩
          · refine AWP.iteB rfl h (fun hc12 h => ?_) (fun hc12 h => ?_)
            · refine AWP.seq ?_
              refine AWP.region ?_
              refine W.build rfl rfl rfl rfl ?_
              refine AOps.assign rfl rfl ?_
              refine W.storeAgg rfl rfl rfl rfl rfl rfl rfl ?_
              refine AOps.nil ?_
              refine thn_normal ?_
              refine AWP.nilrow 1 8 rfl ?_
              refine AWP.ret ?_
              refine inB_ret ?_
              refine thn_ret ?_
              have ej := Option.some.inj h
              subst ej
              exact Done.ret rfl rfl
            · refine AWP.seqJ (⟨[(1, .c (row 1 intI nextv)), (2, .c (int start)), (3, .c (int steps)), (9, .c (.ptr 1 0 0)), (61, .c (bool ((decide (steps < 0)) || (decide (60 < steps)))))], [.one (.cells 2 [[row 1 intI gv.owner, row 2 eA2i64 gv.arcs]]), .one (.cells 2 [[int 0, int 0]])]⟩) ?_ ?_
              · rcases Bool.eq_false_or_eq_true (decide (steps < 0)) with hb1 | hb1
                · refine AWP.region ?_
                  refine AOps.move rfl rfl ?_
                  refine AOps.lss rfl rfl rfl ?_
                  refine AOps.move rfl rfl ?_
                  refine AOps.guardF rfl rfl rfl hb1 ?_
                  refine AOps.guardF rfl rfl rfl hb1 ?_
                  refine AOps.pickT rfl hb1 rfl rfl ?_
                  refine AOps.assign rfl rfl ?_
                  refine AOps.nil ?_
                  refine thn_normal ?_
                  simp only [and_t hb1, or_t hb1]
                  exact Sub.env ⟨rfl, rfl, rfl, rfl, rfl, trivial⟩
                · refine AWP.region ?_
                  refine AOps.move rfl rfl ?_
                  refine AOps.lss rfl rfl rfl ?_
                  refine AOps.move rfl rfl ?_
                  refine AOps.guardT rfl rfl rfl hb1 ?_; refine AOps.move rfl rfl ?_
                  refine AOps.guardT rfl rfl rfl hb1 ?_; refine AOps.gtr rfl rfl rfl ?_
                  refine AOps.pickF rfl hb1 rfl rfl ?_
                  refine AOps.assign rfl rfl ?_
                  refine AOps.nil ?_
                  refine thn_normal ?_
                  simp only [and_f hb1, or_f hb1]
                  exact Sub.env ⟨rfl, rfl, rfl, rfl, rfl, trivial⟩
              · refine AWP.iteB rfl h (fun hc13 h => ?_) (fun hc13 h => ?_)
                · refine AWP.seq ?_
                  refine AWP.region ?_
                  refine W.build rfl rfl rfl rfl ?_
                  refine AOps.assign rfl rfl ?_
                  refine W.storeAgg rfl rfl rfl rfl rfl rfl rfl ?_
                  refine AOps.nil ?_
                  refine thn_normal ?_
                  refine AWP.nilrow 1 8 rfl ?_
                  refine AWP.ret ?_
                  refine inB_ret ?_
                  refine thn_ret ?_
                  have ej := Option.some.inj h
                  subst ej
                  exact Done.ret rfl rfl
                · refine AWP.skip ?_
                  refine inB_normal ?_
                  refine thn_normal ?_
                  refine AWP.seq ?_
                  refine AWP.region ?_
                  refine AOps.move rfl rfl ?_
                  refine S.lit (f := intI) (l := [start]) (ess := [[int start]]) rfl rfl rfl rfl rfl rfl rfl ⟨⟨.inl rfl, trivial⟩, trivial⟩ rfl rfl rfl ?_
                  refine AOps.assign rfl rfl ?_
                  refine AOps.nil ?_
                  refine thn_normal ?_
                  refine AWP.seq ?_
                  refine AWP.seq ?_
                  refine AWP.region ?_
                  refine AOps.move rfl rfl ?_
                  refine AOps.assign rfl rfl ?_
                  refine AOps.nil ?_
                  refine thn_normal ?_
                  refine AWP.block ?_
                  obtain ⟨c16, ho2, h⟩ := bind_some h
                  refine AWP.loopS ho2 (fun (c14, p15) => ⟨[(1, .c (row 1 intI nextv)), (3, .c (int steps)), (9, .c (.ptr 1 0 0)), (13, .c (.own 2 0 c14.length)), (14, .c (int p15))], [.dead, .one (.cells 2 [[int 0, int 0]]), .one (vec 1 intI c14)]⟩) (fun c16 e st => e = .exit 3 ∧ Sub [] st ⟨[(9, .c (.ptr 1 0 0)), (13, .c (.own 2 0 c16.length))], [.dead, .one (.cells 2 [[int 0, int 0]]), .one (vec 1 intI c16)]⟩) ?_ ?_ ?_
                  · try dsimp only
                    exact Sub.cut ⟨rfl, rfl, rfl, (own_len (by first | rfl | simp only [List.length_set])), rfl, trivial⟩ rfl ⟨.dead, .one rfl, .vec, trivial⟩ rfl
                  · intro s o h
                    obtain ⟨c14, p15⟩ := s
                    unfold games_Play_l2 at h
                    try dsimp only at h ⊢
                    refine AWP.seq ?_
                    obtain ⟨a74, ha74, h⟩ := bind_some h
                    refine AWP.seqJ (⟨[(1, .c (row 1 intI nextv)), (3, .c (int steps)), (9, .c (.ptr 1 0 0)), (13, .c (.own 2 0 c14.length)), (14, .c (int p15)), (82, .c (bool ((decide (0 ≤ a74)) && (decide ((c14.length : Int) ≤ steps)))))], [.dead, .one (.cells 2 [[int 0, int 0]]), .one (vec 1 intI c14)]⟩) ?_ ?_
                    · rcases Bool.eq_false_or_eq_true (decide (0 ≤ a74)) with hb1 | hb1
                      · refine AWP.region ?_
                        refine AOps.move rfl rfl ?_
                        refine AOps.move rfl rfl ?_
                        refine S.idx ha74 rfl rfl rfl rfl ?_
                        refine AOps.loadI rfl rfl rfl rfl ?_
                        refine AOps.geq rfl rfl rfl ?_
                        refine AOps.move rfl rfl ?_
                        refine AOps.guardT rfl rfl rfl hb1 ?_; refine AOps.move rfl rfl ?_
                        refine AOps.guardT rfl rfl rfl hb1 ?_; refine S.lenO rfl rfl rfl (fun hl79 => ?_)
                        refine AOps.guardT rfl rfl rfl hb1 ?_; refine AOps.move rfl rfl ?_
                        refine AOps.guardT rfl rfl rfl hb1 ?_; refine AOps.leq rfl rfl rfl ?_
                        refine AOps.pickT rfl hb1 rfl rfl ?_
                        refine AOps.nil ?_
                        refine thn_normal ?_
                        simp only [and_t hb1, or_t hb1]
                        exact Sub.env ⟨rfl, rfl, rfl, rfl, rfl, rfl, trivial⟩
                      · refine AWP.region ?_
                        refine AOps.move rfl rfl ?_
                        refine AOps.move rfl rfl ?_
                        refine S.idx ha74 rfl rfl rfl rfl ?_
                        refine AOps.loadI rfl rfl rfl rfl ?_
                        refine AOps.geq rfl rfl rfl ?_
                        refine AOps.move rfl rfl ?_
                        refine AOps.guardF rfl rfl rfl hb1 ?_
                        refine AOps.guardF rfl rfl rfl hb1 ?_
                        refine AOps.guardF rfl rfl rfl hb1 ?_
                        refine AOps.guardF rfl rfl rfl hb1 ?_
                        refine AOps.pickF rfl hb1 rfl rfl ?_
                        refine AOps.nil ?_
                        refine thn_normal ?_
                        simp only [and_f hb1, or_f hb1]
                        exact Sub.env ⟨rfl, rfl, rfl, rfl, rfl, rfl, trivial⟩
                    · refine AWP.iteB rfl h (fun hc17 h => ?_) (fun hc17 h => ?_)
                      · refine AWP.skip ?_
                        refine thn_normal ?_
                        refine AWP.seq ?_
                        refine AWP.block ?_
                        obtain ⟨a90, ha90, h⟩ := bind_some h
                        obtain ⟨a93, ha93, h⟩ := bind_some h
                        refine AWP.region ?_
                        refine AOps.move rfl rfl ?_
                        refine AOps.move rfl rfl ?_
                        refine AOps.move rfl rfl ?_
                        refine S.idx ha90 rfl rfl rfl rfl ?_
                        refine AOps.loadI rfl rfl rfl rfl ?_
                        refine S.lit (f := intI) (l := [a90]) (ess := [[int a90]]) rfl rfl rfl rfl rfl rfl rfl ⟨⟨.inl rfl, trivial⟩, trivial⟩ rfl rfl rfl ?_
                        refine S.append (f := intI) ha93 rfl rfl rfl rfl rfl rfl (.own rfl (by simp only [List.length_set])) rfl rfl rfl rfl ?_
                        refine AOps.assign rfl rfl ?_
                        refine AOps.nil ?_
                        refine inB_normal ?_
                        refine thn_normal ?_
                        refine AWP.move (env' := [(1, .c (row 1 intI nextv)), (3, .c (int steps)), (9, .c (.ptr 1 0 0)), (13, .c (.own 2 0 a93.length)), (14, .c (int p15))]) (σ' := [.dead, .one (.cells 2 [[int 0, int 0]]), .one (vec 1 intI a93), .one (vec 1 intI [a90])]) 2 4 rfl rfl rfl ⟨rfl, rfl, rfl, rfl, rfl, trivial⟩ rfl ⟨trivial, ⟨rfl, rfl⟩, ⟨Blk.im_ok _ _ _, vec_mv rfl⟩, ⟨Blk.im_ok _ _ _, vec_mv rfl⟩, trivial⟩ ?_
                        obtain ⟨a85, ha85, h⟩ := bind_some h
                        refine AWP.region ?_
                        refine AOps.move rfl rfl ?_
                        refine AOps.move rfl rfl ?_
                        refine S.idx ha85 rfl rfl rfl rfl ?_
                        refine AOps.loadI rfl rfl rfl rfl ?_
                        refine AOps.assign rfl rfl ?_
                        refine AOps.nil ?_
                        have ej := Option.some.inj h
                        subst ej
                        refine thn_normal ⟨_, rfl, ?_⟩
                        exact Sub.cut ⟨rfl, rfl, rfl, rfl, rfl, trivial⟩ rfl ⟨.dead, .one rfl, .vec, trivial⟩ rfl
                      · refine AWP.exit ?_
                        refine thn_exit ?_
                        have ej := Option.some.inj h
                        subst ej
                        refine thn_exit ⟨_, rfl, rfl, ?_⟩
                        exact Sub.env ⟨rfl, rfl, trivial⟩
                  · intro e s hq
                    obtain ⟨rfl, hs⟩ := hq
                    refine ⟨_, hs, ?_⟩
                    refine inB_exit ?_
                    refine thn_normal ?_
                    refine AWP.seq ?_
                    refine AWP.region ?_
                    refine AOps.move rfl rfl ?_
                    refine W.build rfl rfl rfl rfl ?_
                    refine AOps.assign rfl rfl ?_
                    refine W.storeAgg rfl rfl rfl rfl rfl rfl rfl ?_
                    refine AOps.nil ?_
                    refine thn_normal ?_
                    refine AWP.frzV (env2 := [(8, .c (row 1 intI c16)), (9, .c (.ptr 1 0 0))]) (σ2 := [.dead, .one (.cells 2 [[int 0, int 0]]), .dead]) rfl rfl ⟨⟨_, rfl, .inr ⟨_, rfl, rfl, rfl⟩⟩, ⟨_, rfl, .inl ⟨rfl, rfl⟩⟩, trivial⟩ rfl ⟨trivial, ⟨rfl, .inl ⟨rfl, rfl⟩, .inl ⟨rfl, rfl⟩, trivial⟩, trivial, trivial⟩ ?_
                    refine AWP.ret ?_
                    have ej := Option.some.inj h
                    subst ej
                    exact Done.ret rfl rfl
        · try dsimp only at h hq
          obtain ⟨rfl, hs⟩ := hq
          refine ⟨_, Sub.refl _ _, ?_⟩
          refine inB_ret ?_
          refine thn_ret ?_
          have ej := Option.some.inj h
          subst ej
          exact hs

def law8_GamesPlayMatchesSpec_l2 (gv : TGame) (nextv : List Int) (p11 : Int) : Int → Bool → Option Bool := fun iv19 there18 => Option.bind (if there18 = true then some true else Option.bind (ix gv.arcs iv19) fun a66 => Option.bind (ix nextv p11) fun a71 => some ((decide (a66.1 = p11)) && (decide (a66.2 = a71)))) fun there20 => some there20
def law8_GamesPlayMatchesSpec_l1 (gv : TGame) (nextv : List Int) : (Int × Int × Int) → Option ((Int × Int × Int) ⊕ (Int × Int)) := fun (c9, c10, p11) => if ((decide (p11 < (nextv.length : Int))) && (decide (c9 = 0))) = true then Option.bind (Option.bind (ix nextv p11) fun a51 => (Option.bind (forR 0 (gv.arcs.length : Int) (law8_GamesPlayMatchesSpec_l2 gv nextv p11) (decide (a51 = (-1)))) fun there18 => if (!there18) = true then Option.bind (ref1_At 6 (w64 ((-31) - p11))) fun a80 => some (a80.code, a80.index) else some (c9, c10))) fun ⟨c15, c16⟩ => some (.inl (c15, c16, w64 (p11 + 1))) else some (.inr (c9, c10))
def law8_GamesPlayMatchesSpec_l3 (nextv : List Int) (steps : Int) : (List Int) → Option ((List Int) ⊕ (List Int)) := fun c43 => Option.bind (if (c43.length : Int) ≤ steps then Option.bind (ix c43 ((c43.length : Int) - 1)) fun a129 => Option.bind (ix nextv a129) fun a131 => some (decide (0 ≤ a131)) else some false) fun t45 => if t45 = true then Option.bind (ix c43 ((c43.length : Int) - 1)) fun a141 => Option.bind (ix nextv a141) fun a143 => Option.bind (app 8 c43 [a143]) fun a146 => some (.inl a146) else some (.inr c43)
noncomputable def law8_GamesPlayMatchesSpec (gv : TGame) (nextv : List Int) (start : Int) (steps : Int) : Option Bool := Option.bind (games_Play gv nextv start steps) fun a21 => Option.bind (ref8_GameFault gv) fun a25 => Option.bind (if ((decide (a25.code = 0)) && (!(decide ((nextv.length : Int) = (gv.owner.length : Int))))) = true then Option.bind (ref1_At 9 (-30)) fun a37 => some (a37.code, a37.index) else some (a25.code, a25.index)) fun ⟨c5, c6⟩ => Option.bind (Loop (law8_GamesPlayMatchesSpec_l1 gv nextv) (c5, c6, 0)) fun ⟨c12, c13⟩ => Option.bind (Option.bind (if c12 = 0 then Option.bind (ref1_In start 0 ((gv.owner.length : Int) - 1)) fun a90 => some (!a90) else some false) fun t27 => if t27 = true then Option.bind (ref1_At 3 (-28)) fun a93 => some (a93.code, a93.index) else some (c12, c13)) fun ⟨c24, c25⟩ => Option.bind (Option.bind (if c24 = 0 then Option.bind (ref1_In steps 0 60) fun a99 => some (!a99) else some false) fun t34 => if t34 = true then Option.bind (ref1_At 3 (-29)) fun a102 => some (a102.code, a102.index) else some (c24, c25)) fun ⟨c31, c32⟩ => if c31 = 0 then Option.bind (Loop (law8_GamesPlayMatchesSpec_l3 nextv steps) [start]) fun c44 => Option.bind (if a21.2.code = 0 then Option.bind (equal_Numbers a21.1 c44) fun a153 => if a153 = true then Option.bind (law8_forced) fun a156 => some a156 else some false else some false) fun t49 => some t49 else Option.bind (if ((decide (a21.2.code = c31)) && (decide (a21.2.index = c32))) = true then if (a21.1.length : Int) = 0 then Option.bind (law8_forced) fun a115 => some a115 else some false else some false) fun t39 => some t39
theorem law8_GamesPlayMatchesSpec_ok {gv : TGame} {nextv : List Int} {start : Int} {steps : Int} {r : Bool} (h : law8_GamesPlayMatchesSpec gv nextv start steps = some r) : PureOk Try.prog 7 [.agg [row 1 intI gv.owner, row 2 eA2i64 gv.arcs], .c (row 1 intI nextv), .c (int start), .c (int steps)] (.c (bool r)) := by
  unfold PureOk
  refine FnOk.enter (rs := [.t 8]) Try.func7 rfl Try.ntmps7 Try.results7 rfl ⟨trivial, trivial⟩ (by kernel_rfl) rfl ?_
  unfold law8_GamesPlayMatchesSpec at h
  refine AWP.seq ?_
  refine AWP.region ?_
  refine W.box rfl rfl rfl rfl rfl rfl ?_
  refine AOps.assign rfl rfl ?_
  refine AOps.nil ?_
  refine thn_normal ?_
  refine AWP.seq ?_
  obtain ⟨a21, ha21, h⟩ := bind_some h
  refine AWP.region ?_
  refine W.loadAgg rfl rfl rfl rfl rfl rfl rfl ?_
  refine AOps.move rfl rfl ?_
  refine AOps.move rfl rfl ?_
  refine AOps.move rfl rfl ?_
  refine AOps.callR rfl rfl rfl rfl (games_Play_ok ha21) rfl ?_
  refine AOps.move rfl rfl ?_
  refine AOps.extract rfl rfl rfl ?_
  refine AOps.extract rfl rfl rfl ?_
  refine W.alloc rfl rfl rfl rfl ?_
  refine AOps.assign rfl rfl ?_
  refine W.storeAgg rfl rfl rfl rfl rfl rfl rfl ?_
  refine AOps.nil ?_
  refine thn_normal ?_
  refine AWP.seq ?_
  obtain ⟨a25, ha25, h⟩ := bind_some h
  refine AWP.region ?_
  refine W.loadAgg rfl rfl rfl rfl rfl rfl rfl ?_
  refine AOps.callR rfl rfl rfl rfl (ref8_GameFault_ok ha25) rfl ?_
  refine W.alloc rfl rfl rfl rfl ?_
  refine W.storeAgg rfl rfl rfl rfl rfl rfl rfl ?_
  refine AOps.nil ?_
  refine thn_normal ?_
  obtain ⟨⟨c5, c6⟩, hx7, h⟩ := bind_some h
  refine AWP.seqJ (⟨[(1, .c (row 1 intI nextv)), (2, .c (int start)), (3, .c (int steps)), (4, .c (.ptr 0 0 0)), (9, .c (row 1 intI a21.1)), (10, .c (.ptr 1 0 0)), (11, .c (.ptr 2 0 0))], [.one (.cells 2 [[row 1 intI gv.owner, row 2 eA2i64 gv.arcs]]), .one (.cells 2 [[int a21.2.code, int a21.2.index]]), .one (.cells 2 [[int c5, int c6]])]⟩) ?_ ?_
  · refine AWP.seqJ (⟨[(1, .c (row 1 intI nextv)), (2, .c (int start)), (3, .c (int steps)), (4, .c (.ptr 0 0 0)), (9, .c (row 1 intI a21.1)), (10, .c (.ptr 1 0 0)), (11, .c (.ptr 2 0 0)), (36, .c (bool ((decide (a25.code = 0)) && (!(decide ((nextv.length : Int) = (gv.owner.length : Int)))))))], [.one (.cells 2 [[row 1 intI gv.owner, row 2 eA2i64 gv.arcs]]), .one (.cells 2 [[int a21.2.code, int a21.2.index]]), .one (.cells 2 [[int a25.code, int a25.index]])]⟩) ?_ ?_
    · rcases Bool.eq_false_or_eq_true (decide (a25.code = 0)) with hb1 | hb1
      · refine AWP.region ?_
        refine W.fieldAddr rfl rfl rfl rfl ?_
        refine AOps.load rfl rfl rfl rfl rfl rfl ?_
        refine AOps.eql rfl rfl rfl ?_
        refine AOps.move rfl rfl ?_
        refine AOps.guardT rfl rfl rfl hb1 ?_; refine AOps.move rfl rfl ?_
        refine AOps.guardT rfl rfl rfl hb1 ?_; refine S.len rfl rfl (fun hl31 => ?_)
        refine AOps.guardT rfl rfl rfl hb1 ?_; refine W.fieldAddr rfl rfl rfl rfl ?_
        refine AOps.guardT rfl rfl rfl hb1 ?_; refine AOps.load rfl rfl rfl rfl rfl rfl ?_
        refine AOps.guardT rfl rfl rfl hb1 ?_; refine S.len rfl rfl (fun hl34 => ?_)
        refine AOps.guardT rfl rfl rfl hb1 ?_; refine AOps.neq rfl rfl rfl ?_
        refine AOps.pickT rfl hb1 rfl rfl ?_
        refine AOps.nil ?_
        refine thn_normal ?_
        simp only [and_t hb1, or_t hb1]
        exact Sub.env ⟨rfl, rfl, rfl, rfl, rfl, rfl, rfl, rfl, trivial⟩
      · refine AWP.region ?_
        refine W.fieldAddr rfl rfl rfl rfl ?_
        refine AOps.load rfl rfl rfl rfl rfl rfl ?_
        refine AOps.eql rfl rfl rfl ?_
        refine AOps.move rfl rfl ?_
        refine AOps.guardF rfl rfl rfl hb1 ?_
        refine AOps.guardF rfl rfl rfl hb1 ?_
        refine AOps.guardF rfl rfl rfl hb1 ?_
        refine AOps.guardF rfl rfl rfl hb1 ?_
        refine AOps.guardF rfl rfl rfl hb1 ?_
        refine AOps.guardF rfl rfl rfl hb1 ?_
        refine AOps.pickF rfl hb1 rfl rfl ?_
        refine AOps.nil ?_
        refine thn_normal ?_
        simp only [and_f hb1, or_f hb1]
        exact Sub.env ⟨rfl, rfl, rfl, rfl, rfl, rfl, rfl, rfl, trivial⟩
    · refine AWP.iteB rfl hx7 (fun hc8 hx7 => ?_) (fun hc8 hx7 => ?_)
      · obtain ⟨a37, ha37, hx7⟩ := bind_some hx7
        refine AWP.region ?_
        refine AOps.callR rfl rfl rfl rfl (ref1_At_ok ha37) rfl ?_
        refine W.storeAgg rfl rfl rfl rfl rfl rfl rfl ?_
        refine AOps.nil ?_
        have ej := Option.some.inj hx7
        simp only [Prod.mk.injEq] at ej
        obtain ⟨ej0, ej1⟩ := ej
        subst ej0
        subst ej1
        refine thn_normal ?_
        exact Sub.env ⟨rfl, rfl, rfl, rfl, rfl, rfl, rfl, trivial⟩
      · refine AWP.skip ?_
        have ej := Option.some.inj hx7
        simp only [Prod.mk.injEq] at ej
        obtain ⟨ej0, ej1⟩ := ej
        subst ej0
        subst ej1
        refine thn_normal ?_
        exact Sub.env ⟨rfl, rfl, rfl, rfl, rfl, rfl, rfl, trivial⟩
  · try dsimp only at h
    refine AWP.seq ?_
    refine AWP.seq ?_
    refine AWP.region ?_
    refine AOps.assign rfl rfl ?_
    refine AOps.nil ?_
    refine thn_normal ?_
    refine AWP.block ?_
    obtain ⟨⟨c12, c13⟩, ho1, h⟩ := bind_some h
    try dsimp only at h
    refine AWP.loopS ho1 (fun (c9, c10, p11) => ⟨[(1, .c (row 1 intI nextv)), (2, .c (int start)), (3, .c (int steps)), (4, .c (.ptr 0 0 0)), (9, .c (row 1 intI a21.1)), (10, .c (.ptr 1 0 0)), (11, .c (.ptr 2 0 0)), (12, .c (int p11))], [.one (.cells 2 [[row 1 intI gv.owner, row 2 eA2i64 gv.arcs]]), .one (.cells 2 [[int a21.2.code, int a21.2.index]]), .one (.cells 2 [[int c9, int c10]])]⟩) (fun (c12, c13) e st => e = .exit 0 ∧ Sub [] st ⟨[(1, .c (row 1 intI nextv)), (2, .c (int start)), (3, .c (int steps)), (4, .c (.ptr 0 0 0)), (9, .c (row 1 intI a21.1)), (10, .c (.ptr 1 0 0)), (11, .c (.ptr 2 0 0))], [.one (.cells 2 [[row 1 intI gv.owner, row 2 eA2i64 gv.arcs]]), .one (.cells 2 [[int a21.2.code, int a21.2.index]]), .one (.cells 2 [[int c12, int c13]])]⟩) ?_ ?_ ?_
    · try dsimp only
      exact Sub.env ⟨rfl, rfl, rfl, rfl, rfl, rfl, rfl, rfl, trivial⟩
    · intro s o h
      obtain ⟨c9, c10, p11⟩ := s
      unfold law8_GamesPlayMatchesSpec_l1 at h
      try dsimp only at h ⊢
      refine AWP.seq ?_
      refine AWP.seqJ (⟨[(1, .c (row 1 intI nextv)), (2, .c (int start)), (3, .c (int steps)), (4, .c (.ptr 0 0 0)), (9, .c (row 1 intI a21.1)), (10, .c (.ptr 1 0 0)), (11, .c (.ptr 2 0 0)), (12, .c (int p11)), (46, .c (bool ((decide (p11 < (nextv.length : Int))) && (decide (c9 = 0)))))], [.one (.cells 2 [[row 1 intI gv.owner, row 2 eA2i64 gv.arcs]]), .one (.cells 2 [[int a21.2.code, int a21.2.index]]), .one (.cells 2 [[int c9, int c10]])]⟩) ?_ ?_
      · rcases Bool.eq_false_or_eq_true (decide (p11 < (nextv.length : Int))) with hb1 | hb1
        · refine AWP.region ?_
          refine AOps.move rfl rfl ?_
          refine AOps.move rfl rfl ?_
          refine S.len rfl rfl (fun hl40 => ?_)
          refine AOps.lss rfl rfl rfl ?_
          refine AOps.move rfl rfl ?_
          refine AOps.guardT rfl rfl rfl hb1 ?_; refine W.fieldAddr rfl rfl rfl rfl ?_
          refine AOps.guardT rfl rfl rfl hb1 ?_; refine AOps.load rfl rfl rfl rfl rfl rfl ?_
          refine AOps.guardT rfl rfl rfl hb1 ?_; refine AOps.eql rfl rfl rfl ?_
          refine AOps.pickT rfl hb1 rfl rfl ?_
          refine AOps.nil ?_
          refine thn_normal ?_
          simp only [and_t hb1, or_t hb1]
          exact Sub.env ⟨rfl, rfl, rfl, rfl, rfl, rfl, rfl, rfl, rfl, trivial⟩
        · refine AWP.region ?_
          refine AOps.move rfl rfl ?_
          refine AOps.move rfl rfl ?_
          refine S.len rfl rfl (fun hl40 => ?_)
          refine AOps.lss rfl rfl rfl ?_
          refine AOps.move rfl rfl ?_
          refine AOps.guardF rfl rfl rfl hb1 ?_
          refine AOps.guardF rfl rfl rfl hb1 ?_
          refine AOps.guardF rfl rfl rfl hb1 ?_
          refine AOps.pickF rfl hb1 rfl rfl ?_
          refine AOps.nil ?_
          refine thn_normal ?_
          simp only [and_f hb1, or_f hb1]
          exact Sub.env ⟨rfl, rfl, rfl, rfl, rfl, rfl, rfl, rfl, rfl, trivial⟩
      · refine AWP.iteB rfl h (fun hc14 h => ?_) (fun hc14 h => ?_)
        · refine AWP.skip ?_
          refine thn_normal ?_
          obtain ⟨⟨c15, c16⟩, hx17, h⟩ := bind_some h
          refine AWP.seqJ (⟨[(1, .c (row 1 intI nextv)), (2, .c (int start)), (3, .c (int steps)), (4, .c (.ptr 0 0 0)), (9, .c (row 1 intI a21.1)), (10, .c (.ptr 1 0 0)), (11, .c (.ptr 2 0 0)), (12, .c (int p11))], [.one (.cells 2 [[row 1 intI gv.owner, row 2 eA2i64 gv.arcs]]), .one (.cells 2 [[int a21.2.code, int a21.2.index]]), .one (.cells 2 [[int c15, int c16]])]⟩) ?_ ?_
          · refine AWP.block ?_
            refine AWP.seq ?_
            obtain ⟨a51, ha51, hx17⟩ := bind_some hx17
            refine AWP.region ?_
            refine AOps.move rfl rfl ?_
            refine AOps.move rfl rfl ?_
            refine S.idx ha51 rfl rfl rfl rfl ?_
            refine AOps.loadI rfl rfl rfl rfl ?_
            refine AOps.eql rfl rfl rfl ?_
            refine AOps.assign rfl rfl ?_
            refine AOps.nil ?_
            refine thn_normal ?_
            refine AWP.seq ?_
            refine AWP.seq ?_
            refine AWP.region ?_
            refine AOps.assign rfl rfl ?_
            refine AOps.nil ?_
            refine thn_normal ?_
            refine AWP.block ?_
            obtain ⟨there18, ho2, hx17⟩ := bind_some hx17
            refine AWP.forS ho2 (fun iv19 there18 => ⟨[(1, .c (row 1 intI nextv)), (2, .c (int start)), (3, .c (int steps)), (4, .c (.ptr 0 0 0)), (9, .c (row 1 intI a21.1)), (10, .c (.ptr 1 0 0)), (11, .c (.ptr 2 0 0)), (12, .c (int p11)), (13, .c (bool there18)), (14, .c (int iv19))], [.one (.cells 2 [[row 1 intI gv.owner, row 2 eA2i64 gv.arcs]]), .one (.cells 2 [[int a21.2.code, int a21.2.index]]), .one (.cells 2 [[int c9, int c10]])]⟩) (fun there18 e st => e = .exit 2 ∧ Sub [] st ⟨[(1, .c (row 1 intI nextv)), (2, .c (int start)), (3, .c (int steps)), (4, .c (.ptr 0 0 0)), (9, .c (row 1 intI a21.1)), (10, .c (.ptr 1 0 0)), (11, .c (.ptr 2 0 0)), (12, .c (int p11)), (13, .c (bool there18))], [.one (.cells 2 [[row 1 intI gv.owner, row 2 eA2i64 gv.arcs]]), .one (.cells 2 [[int a21.2.code, int a21.2.index]]), .one (.cells 2 [[int c9, int c10]])]⟩) ?_ ?_ ?_ ?_
            · try dsimp only
              exact Sub.env ⟨rfl, rfl, rfl, rfl, rfl, rfl, rfl, rfl, rfl, rfl, trivial⟩
            · intro iv19 there18 hloiv19 hltiv19 _
              try dsimp only
              refine AWP.seq ?_
              refine AWP.seq ?_
              refine AWP.region ?_
              refine AOps.move rfl rfl ?_
              refine W.fieldAddr rfl rfl rfl rfl ?_
              refine AOps.load rfl rfl rfl rfl rfl rfl ?_
              refine S.len rfl rfl (fun hl57 => ?_)
              refine AOps.lss rfl rfl rfl ?_
              refine AOps.nil ?_
              refine thn_normal ?_
              refine AWP.condNP rfl hltiv19 ?_
              refine AWP.exit ?_
              refine thn_exit ?_
              refine thn_exit ⟨rfl, ?_⟩
              exact Sub.env ⟨rfl, rfl, rfl, rfl, rfl, rfl, rfl, rfl, rfl, trivial⟩
            · intro iv19 there18 o hloiv19 hltiv19 h
              unfold law8_GamesPlayMatchesSpec_l2 at h
              try dsimp only at h ⊢
              refine AWP.seq ?_
              refine AWP.seq ?_
              refine AWP.region ?_
              refine AOps.move rfl rfl ?_
              refine W.fieldAddr rfl rfl rfl rfl ?_
              refine AOps.load rfl rfl rfl rfl rfl rfl ?_
              refine S.len rfl rfl (fun hl57 => ?_)
              refine AOps.lss rfl rfl rfl ?_
              refine AOps.nil ?_
              refine thn_normal ?_
              refine AWP.condP rfl hltiv19 ?_
              refine AWP.skip ?_
              refine thn_normal ?_
              obtain ⟨there20, hx21, h⟩ := bind_some h
              refine AWP.seqJ (⟨[(1, .c (row 1 intI nextv)), (2, .c (int start)), (3, .c (int steps)), (4, .c (.ptr 0 0 0)), (9, .c (row 1 intI a21.1)), (10, .c (.ptr 1 0 0)), (11, .c (.ptr 2 0 0)), (12, .c (int p11)), (13, .c (bool there20)), (14, .c (int iv19))], [.one (.cells 2 [[row 1 intI gv.owner, row 2 eA2i64 gv.arcs]]), .one (.cells 2 [[int a21.2.code, int a21.2.index]]), .one (.cells 2 [[int c9, int c10]])]⟩) ?_ ?_
              · refine AWP.block ?_
                rcases Bool.eq_false_or_eq_true (there18) with hb22 | hb22
                · replace hx21 := iteBT hb22 hx21
                  refine AWP.drawI mixed rfl ?_
                  apply DrawSeq.consF; exact rfl; intro E
                  refine AOps.move rfl rfl ?_
                  exact AOps.nil ⟨rfl, rfl⟩
                  exact rfl
                  apply DrawSeq.consF; exact rfl; intro E
                  refine AOps.move rfl rfl ?_
                  exact AOps.nil ⟨rfl, rfl⟩
                  exact rfl
                  apply DrawSeq.consF; exact rfl; intro E
                  refine AOps.guardF rfl rfl rfl hb22 ?_
                  exact AOps.nil ⟨rfl, rfl⟩
                  exact rfl
                  apply DrawSeq.consF; exact rfl; intro E
                  refine AOps.guardF rfl rfl rfl hb22 ?_
                  exact AOps.nil ⟨rfl, rfl⟩
                  exact rfl
                  apply DrawSeq.consF; exact rfl; intro E
                  refine AOps.guardF rfl rfl rfl hb22 ?_
                  exact AOps.nil ⟨rfl, rfl⟩
                  exact rfl
                  apply DrawSeq.consF; exact rfl; intro E
                  refine AOps.guardF rfl rfl rfl hb22 ?_
                  exact AOps.nil ⟨rfl, rfl⟩
                  exact rfl
                  apply DrawSeq.consF; exact rfl; intro E
                  refine AOps.guardF rfl rfl rfl hb22 ?_
                  exact AOps.nil ⟨rfl, rfl⟩
                  exact rfl
                  apply DrawSeq.consF; exact rfl; intro E
                  refine AOps.guardF rfl rfl rfl hb22 ?_
                  exact AOps.nil ⟨rfl, rfl⟩
                  exact rfl
                  apply DrawSeq.consF; exact rfl; intro E
                  refine AOps.guardF rfl rfl rfl hb22 ?_
                  exact AOps.nil ⟨rfl, rfl⟩
                  exact rfl
                  apply DrawSeq.consF; exact rfl; intro E
                  refine AOps.guardF rfl rfl rfl hb22 ?_
                  exact AOps.nil ⟨rfl, rfl⟩
                  exact rfl
                  apply DrawSeq.consF; exact rfl; intro E
                  refine AOps.guardF rfl rfl rfl hb22 ?_
                  exact AOps.nil ⟨rfl, rfl⟩
                  exact rfl
                  apply DrawSeq.consF; exact rfl; intro E
                  refine AOps.guardF rfl rfl rfl hb22 ?_
                  exact AOps.nil ⟨rfl, rfl⟩
                  exact rfl
                  apply DrawSeq.consF; exact rfl; intro E
                  refine AOps.guardF rfl rfl rfl hb22 ?_
                  exact AOps.nil ⟨rfl, rfl⟩
                  exact rfl
                  apply DrawSeq.consF; exact rfl; intro E
                  refine AOps.guardF rfl rfl rfl hb22 ?_
                  exact AOps.nil ⟨rfl, rfl⟩
                  exact rfl
                  apply DrawSeq.consF; exact rfl; intro E
                  refine AOps.pickT rfl hb22 rfl rfl ?_
                  exact AOps.nil ⟨rfl, rfl⟩
                  exact rfl
                  apply DrawSeq.consF; exact rfl; intro E
                  refine AOps.assign rfl rfl ?_
                  exact AOps.nil ⟨rfl, rfl⟩
                  exact rfl
                  refine DrawSeq.done ?_
                  dsimp only [envEnd]
                  refine inB_normal ?_
                  have ej := Option.some.inj hx21
                  subst ej
                  refine thn_normal ?_
                  exact Sub.env ⟨rfl, rfl, rfl, rfl, rfl, rfl, rfl, rfl, rfl, rfl, trivial⟩
                · replace hx21 := iteBF hb22 hx21
                  obtain ⟨a66, ha66, hx21⟩ := bind_some hx21
                  obtain ⟨a71, ha71, hx21⟩ := bind_some hx21
                  refine AWP.drawI mixed rfl ?_
                  apply DrawSeq.consF; exact rfl; intro E
                  refine AOps.move rfl rfl ?_
                  exact AOps.nil ⟨rfl, rfl⟩
                  exact rfl
                  apply DrawSeq.consF; exact rfl; intro E
                  refine AOps.move rfl rfl ?_
                  exact AOps.nil ⟨rfl, rfl⟩
                  exact rfl
                  apply DrawSeq.consF; exact rfl; intro E
                  refine AOps.guardT rfl rfl rfl hb22 ?_; refine W.fieldAddr rfl rfl rfl rfl ?_
                  exact AOps.nil ⟨rfl, rfl⟩
                  exact rfl
                  apply DrawSeq.consF; exact rfl; intro E
                  refine AOps.guardT rfl rfl rfl hb22 ?_; refine AOps.load rfl rfl rfl rfl rfl rfl ?_
                  exact AOps.nil ⟨rfl, rfl⟩
                  exact rfl
                  apply DrawSeq.consF; exact rfl; intro E
                  refine AOps.guardT rfl rfl rfl hb22 ?_; refine AOps.move rfl rfl ?_
                  exact AOps.nil ⟨rfl, rfl⟩
                  exact rfl
                  apply DrawSeq.consF; exact rfl; intro E
                  refine AOps.guardT rfl rfl rfl hb22 ?_; refine S.idx ha66 rfl rfl rfl rfl ?_
                  exact AOps.nil ⟨rfl, rfl⟩
                  exact rfl
                  apply DrawSeq.consF; exact rfl; intro E
                  refine AOps.guardT rfl rfl rfl hb22 ?_; refine W.loadIAgg rfl rfl rfl rfl rfl ?_
                  exact AOps.nil ⟨rfl, rfl⟩
                  exact rfl
                  apply DrawSeq.consF; exact rfl; intro E
                  refine AOps.guardT rfl rfl rfl hb22 ?_; refine AOps.move rfl rfl ?_
                  exact AOps.nil ⟨rfl, rfl⟩
                  exact rfl
                  apply DrawSeq.consF; exact rfl; intro E
                  refine AOps.guardT rfl rfl rfl hb22 ?_; refine AOps.move rfl rfl ?_
                  exact AOps.nil ⟨rfl, rfl⟩
                  exact rfl
                  apply DrawSeq.consF; exact rfl; intro E
                  refine AOps.guardT rfl rfl rfl hb22 ?_; refine AOps.move rfl rfl ?_
                  exact AOps.nil ⟨rfl, rfl⟩
                  exact rfl
                  apply DrawSeq.consF; exact rfl; intro E
                  refine AOps.guardT rfl rfl rfl hb22 ?_; refine S.idx ha71 rfl rfl rfl rfl ?_
                  exact AOps.nil ⟨rfl, rfl⟩
                  exact rfl
                  apply DrawSeq.consF; exact rfl; intro E
                  refine AOps.guardT rfl rfl rfl hb22 ?_; refine AOps.loadI rfl rfl rfl rfl ?_
                  exact AOps.nil ⟨rfl, rfl⟩
                  exact rfl
                  apply DrawSeq.consF; exact rfl; intro E
                  refine AOps.guardT rfl rfl rfl hb22 ?_; refine AOps.buildA rfl rfl rfl rfl ?_
                  exact AOps.nil ⟨rfl, rfl⟩
                  exact rfl
                  apply DrawSeq.consF; exact rfl; intro E
                  refine AOps.guardT rfl rfl rfl hb22 ?_; refine AOps.eqlA rfl rfl rfl rfl ?_
                  exact AOps.nil ⟨rfl, rfl⟩
                  exact rfl
                  apply DrawSeq.consF; exact rfl; intro E
                  refine AOps.pickF rfl hb22 rfl rfl ?_
                  exact AOps.nil ⟨rfl, rfl⟩
                  exact rfl
                  apply DrawSeq.consF; exact rfl; intro E
                  refine AOps.assign rfl rfl ?_
                  exact AOps.nil ⟨rfl, rfl⟩
                  exact rfl
                  refine DrawSeq.done ?_
                  dsimp only [envEnd]
                  refine inB_normal ?_
                  have ej := Option.some.inj hx21
                  subst ej
                  refine thn_normal ?_
                  exact Sub.env ⟨rfl, rfl, rfl, rfl, rfl, rfl, rfl, rfl, rfl, rfl, trivial⟩
              · refine AWP.region ?_
                refine AOps.move rfl rfl ?_
                refine AOps.add rfl rfl rfl (by omega) ?_
                refine AOps.assign rfl rfl ?_
                refine AOps.nil ?_
                have ej := Option.some.inj h
                subst ej
                refine thn_normal ?_
                exact Sub.env ⟨rfl, rfl, rfl, rfl, rfl, rfl, rfl, rfl, rfl, rfl, trivial⟩
            · intro e s hq
              obtain ⟨rfl, hs⟩ := hq
              refine ⟨_, hs, ?_⟩
              refine inB_exit ?_
              refine thn_normal ?_
              refine AWP.seq ?_
              refine AWP.region ?_
              refine AOps.move rfl rfl ?_
              refine AOps.not rfl rfl ?_
              refine AOps.nil ?_
              refine thn_normal ?_
              refine AWP.iteB rfl hx17 (fun hc23 hx17 => ?_) (fun hc23 hx17 => ?_)
              · obtain ⟨a80, ha80, hx17⟩ := bind_some hx17
                refine AWP.region ?_
                refine AOps.move rfl rfl ?_
                refine S.sub rfl rfl rfl ?_
                refine AOps.callR rfl rfl rfl rfl (ref1_At_ok ha80) rfl ?_
                refine W.storeAgg rfl rfl rfl rfl rfl rfl rfl ?_
                refine AOps.nil ?_
                refine inB_normal ?_
                have ej := Option.some.inj hx17
                simp only [Prod.mk.injEq] at ej
                obtain ⟨ej0, ej1⟩ := ej
                subst ej0
                subst ej1
                refine thn_normal ?_
                exact Sub.env ⟨rfl, rfl, rfl, rfl, rfl, rfl, rfl, rfl, trivial⟩
              · refine AWP.skip ?_
                refine inB_normal ?_
                have ej := Option.some.inj hx17
                simp only [Prod.mk.injEq] at ej
                obtain ⟨ej0, ej1⟩ := ej
                subst ej0
                subst ej1
                refine thn_normal ?_
                exact Sub.env ⟨rfl, rfl, rfl, rfl, rfl, rfl, rfl, rfl, trivial⟩
          · try dsimp only at h
            refine AWP.region ?_
            refine AOps.move rfl rfl ?_
            refine S.add rfl rfl rfl ?_
            refine AOps.assign rfl rfl ?_
            refine AOps.nil ?_
            have ej := Option.some.inj h
            subst ej
            refine thn_normal ⟨_, rfl, ?_⟩
            exact Sub.env ⟨rfl, rfl, rfl, rfl, rfl, rfl, rfl, rfl, trivial⟩
        · refine AWP.exit ?_
          refine thn_exit ?_
          have ej := Option.some.inj h
          subst ej
          refine thn_exit ⟨_, rfl, rfl, ?_⟩
          exact Sub.env ⟨rfl, rfl, rfl, rfl, rfl, rfl, rfl, trivial⟩
    · intro e s hq
      obtain ⟨rfl, hs⟩ := hq
      refine ⟨_, hs, ?_⟩
      refine inB_exit ?_
      refine thn_normal ?_
      obtain ⟨⟨c24, c25⟩, hx26, h⟩ := bind_some h
      refine AWP.seqJ (⟨[(1, .c (row 1 intI nextv)), (2, .c (int start)), (3, .c (int steps)), (9, .c (row 1 intI a21.1)), (10, .c (.ptr 1 0 0)), (11, .c (.ptr 2 0 0))], [.dead, .one (.cells 2 [[int a21.2.code, int a21.2.index]]), .one (.cells 2 [[int c24, int c25]])]⟩) ?_ ?_
      · obtain ⟨t27, hx28, hx26⟩ := bind_some hx26
        refine AWP.seqJ (⟨[(1, .c (row 1 intI nextv)), (2, .c (int start)), (3, .c (int steps)), (9, .c (row 1 intI a21.1)), (10, .c (.ptr 1 0 0)), (11, .c (.ptr 2 0 0)), (92, .c (bool t27))], [.dead, .one (.cells 2 [[int a21.2.code, int a21.2.index]]), .one (.cells 2 [[int c12, int c13]])]⟩) ?_ ?_
        · rcases Bool.eq_false_or_eq_true (decide (c12 = 0)) with hb29 | hb29
          · replace hx28 := iteDT hb29 hx28
            obtain ⟨a90, ha90, hx28⟩ := bind_some hx28
            refine AWP.region ?_
            refine W.fieldAddr rfl rfl rfl rfl ?_
            refine AOps.load rfl rfl rfl rfl rfl rfl ?_
            refine AOps.eql rfl rfl rfl ?_
            refine AOps.move rfl rfl ?_
            refine AOps.guardT rfl rfl rfl hb29 ?_; refine AOps.move rfl rfl ?_
            refine AOps.guardT rfl rfl rfl hb29 ?_; refine W.fieldAddr rfl rfl rfl rfl ?_
            refine AOps.guardT rfl rfl rfl hb29 ?_; refine AOps.load rfl rfl rfl rfl rfl rfl ?_
            refine AOps.guardT rfl rfl rfl hb29 ?_; refine S.len rfl rfl (fun hl88 => ?_)
            refine AOps.guardT rfl rfl rfl hb29 ?_; refine AOps.sub' rfl rfl rfl (by omega) ?_
            refine AOps.guardT rfl rfl rfl hb29 ?_; refine AOps.callR rfl rfl rfl rfl (ref1_In_ok ha90) rfl ?_
            refine AOps.guardT rfl rfl rfl hb29 ?_; refine AOps.not rfl rfl ?_
            refine AOps.pickT rfl hb29 rfl rfl ?_
            refine AOps.nil ?_
            have ej := Option.some.inj hx28
            subst ej
            refine thn_normal ?_
            exact Sub.cut ⟨rfl, rfl, rfl, rfl, rfl, rfl, rfl, trivial⟩ rfl ⟨.dead, .one rfl, .one rfl, trivial⟩ rfl
          · replace hx28 := iteDF hb29 hx28
            refine AWP.region ?_
            refine W.fieldAddr rfl rfl rfl rfl ?_
            refine AOps.load rfl rfl rfl rfl rfl rfl ?_
            refine AOps.eql rfl rfl rfl ?_
            refine AOps.move rfl rfl ?_
            refine AOps.guardF rfl rfl rfl hb29 ?_
            refine AOps.guardF rfl rfl rfl hb29 ?_
            refine AOps.guardF rfl rfl rfl hb29 ?_
            refine AOps.guardF rfl rfl rfl hb29 ?_
            refine AOps.guardF rfl rfl rfl hb29 ?_
            refine AOps.guardF rfl rfl rfl hb29 ?_
            refine AOps.guardF rfl rfl rfl hb29 ?_
            refine AOps.pickF rfl hb29 rfl rfl ?_
            refine AOps.nil ?_
            have ej := Option.some.inj hx28
            subst ej
            refine thn_normal ?_
            exact Sub.cut ⟨rfl, rfl, rfl, rfl, rfl, rfl, rfl, trivial⟩ rfl ⟨.dead, .one rfl, .one rfl, trivial⟩ rfl
        · refine AWP.iteB rfl hx26 (fun hc30 hx26 => ?_) (fun hc30 hx26 => ?_)
          · obtain ⟨a93, ha93, hx26⟩ := bind_some hx26
            refine AWP.region ?_
            refine AOps.callR rfl rfl rfl rfl (ref1_At_ok ha93) rfl ?_
            refine W.storeAgg rfl rfl rfl rfl rfl rfl rfl ?_
            refine AOps.nil ?_
            have ej := Option.some.inj hx26
            simp only [Prod.mk.injEq] at ej
            obtain ⟨ej0, ej1⟩ := ej
            subst ej0
            subst ej1
            refine thn_normal ?_
            exact Sub.env ⟨rfl, rfl, rfl, rfl, rfl, rfl, trivial⟩
          · refine AWP.skip ?_
            have ej := Option.some.inj hx26
            simp only [Prod.mk.injEq] at ej
            obtain ⟨ej0, ej1⟩ := ej
            subst ej0
            subst ej1
            refine thn_normal ?_
            exact Sub.env ⟨rfl, rfl, rfl, rfl, rfl, rfl, trivial⟩
      · try dsimp only at h
        obtain ⟨⟨c31, c32⟩, hx33, h⟩ := bind_some h
        refine AWP.seqJ (⟨[(1, .c (row 1 intI nextv)), (2, .c (int start)), (3, .c (int steps)), (9, .c (row 1 intI a21.1)), (10, .c (.ptr 1 0 0)), (11, .c (.ptr 2 0 0))], [.dead, .one (.cells 2 [[int a21.2.code, int a21.2.index]]), .one (.cells 2 [[int c31, int c32]])]⟩) ?_ ?_
        · obtain ⟨t34, hx35, hx33⟩ := bind_some hx33
          refine AWP.seqJ (⟨[(1, .c (row 1 intI nextv)), (2, .c (int start)), (3, .c (int steps)), (9, .c (row 1 intI a21.1)), (10, .c (.ptr 1 0 0)), (11, .c (.ptr 2 0 0)), (101, .c (bool t34))], [.dead, .one (.cells 2 [[int a21.2.code, int a21.2.index]]), .one (.cells 2 [[int c24, int c25]])]⟩) ?_ ?_
          · rcases Bool.eq_false_or_eq_true (decide (c24 = 0)) with hb36 | hb36
            · replace hx35 := iteDT hb36 hx35
              obtain ⟨a99, ha99, hx35⟩ := bind_some hx35
              refine AWP.region ?_
              refine W.fieldAddr rfl rfl rfl rfl ?_
              refine AOps.load rfl rfl rfl rfl rfl rfl ?_
              refine AOps.eql rfl rfl rfl ?_
              refine AOps.move rfl rfl ?_
              refine AOps.guardT rfl rfl rfl hb36 ?_; refine AOps.move rfl rfl ?_
              refine AOps.guardT rfl rfl rfl hb36 ?_; refine AOps.callR rfl rfl rfl rfl (ref1_In_ok ha99) rfl ?_
              refine AOps.guardT rfl rfl rfl hb36 ?_; refine AOps.not rfl rfl ?_
              refine AOps.pickT rfl hb36 rfl rfl ?_
              refine AOps.nil ?_
              have ej := Option.some.inj hx35
              subst ej
              refine thn_normal ?_
              exact Sub.env ⟨rfl, rfl, rfl, rfl, rfl, rfl, rfl, trivial⟩
            · replace hx35 := iteDF hb36 hx35
              refine AWP.region ?_
              refine W.fieldAddr rfl rfl rfl rfl ?_
              refine AOps.load rfl rfl rfl rfl rfl rfl ?_
              refine AOps.eql rfl rfl rfl ?_
              refine AOps.move rfl rfl ?_
              refine AOps.guardF rfl rfl rfl hb36 ?_
              refine AOps.guardF rfl rfl rfl hb36 ?_
              refine AOps.guardF rfl rfl rfl hb36 ?_
              refine AOps.pickF rfl hb36 rfl rfl ?_
              refine AOps.nil ?_
              have ej := Option.some.inj hx35
              subst ej
              refine thn_normal ?_
              exact Sub.env ⟨rfl, rfl, rfl, rfl, rfl, rfl, rfl, trivial⟩
          · refine AWP.iteB rfl hx33 (fun hc37 hx33 => ?_) (fun hc37 hx33 => ?_)
            · obtain ⟨a102, ha102, hx33⟩ := bind_some hx33
              refine AWP.region ?_
              refine AOps.callR rfl rfl rfl rfl (ref1_At_ok ha102) rfl ?_
              refine W.storeAgg rfl rfl rfl rfl rfl rfl rfl ?_
              refine AOps.nil ?_
              have ej := Option.some.inj hx33
              simp only [Prod.mk.injEq] at ej
              obtain ⟨ej0, ej1⟩ := ej
              subst ej0
              subst ej1
              refine thn_normal ?_
              exact Sub.env ⟨rfl, rfl, rfl, rfl, rfl, rfl, trivial⟩
            · refine AWP.skip ?_
              have ej := Option.some.inj hx33
              simp only [Prod.mk.injEq] at ej
              obtain ⟨ej0, ej1⟩ := ej
              subst ej0
              subst ej1
              refine thn_normal ?_
              exact Sub.env ⟨rfl, rfl, rfl, rfl, rfl, rfl, trivial⟩
        · try dsimp only at h
          refine AWP.seq ?_
          refine AWP.seq ?_
          refine AWP.region ?_
          refine W.fieldAddr rfl rfl rfl rfl ?_
          refine AOps.load rfl rfl rfl rfl rfl rfl ?_
          refine AOps.neq rfl rfl rfl ?_
          refine AOps.nil ?_
          refine thn_normal ?_
          refine AWP.iteN rfl h (fun hc38 h => ?_) (fun hc38 h => ?_)
          · obtain ⟨t39, hx40, h⟩ := bind_some h
            refine AWP.seqJ (⟨[(8, .c (bool t39))], []⟩) ?_ ?_
            · rcases Bool.eq_false_or_eq_true ((decide (a21.2.code = c31)) && (decide (a21.2.index = c32))) with hb41 | hb41
              · replace hx40 := iteBT hb41 hx40
                rcases Bool.eq_false_or_eq_true (decide ((a21.1.length : Int) = 0)) with hb42 | hb42
                · replace hx40 := iteDT hb42 hx40
                  obtain ⟨a115, ha115, hx40⟩ := bind_some hx40
                  refine AWP.region ?_
                  refine W.loadAgg rfl rfl rfl rfl rfl rfl rfl ?_
                  refine W.loadAgg rfl rfl rfl rfl rfl rfl rfl ?_
                  refine AOps.eqlP rfl rfl rfl rfl rfl rfl rfl ?_
                  refine AOps.move rfl rfl ?_
                  refine AOps.guardT rfl rfl rfl hb41 ?_; refine AOps.move rfl rfl ?_
                  refine AOps.guardT rfl rfl rfl hb41 ?_; refine S.len rfl rfl (fun hl111 => ?_)
                  refine AOps.guardT rfl rfl rfl hb41 ?_; refine AOps.eql rfl rfl rfl ?_
                  refine AOps.pickT rfl hb41 rfl rfl ?_
                  refine AOps.move rfl rfl ?_
                  refine AOps.guardT rfl rfl rfl hb42 ?_; refine AOps.callR rfl rfl rfl rfl (law8_forced_ok ha115) rfl ?_
                  refine AOps.pickT rfl hb42 rfl rfl ?_
                  refine AOps.assign rfl rfl ?_
                  refine AOps.nil ?_
                  have ej := Option.some.inj hx40
                  subst ej
                  refine thn_normal ?_
                  exact Sub.cut ⟨rfl, trivial⟩ rfl trivial rfl
                · replace hx40 := iteDF hb42 hx40
                  refine AWP.region ?_
                  refine W.loadAgg rfl rfl rfl rfl rfl rfl rfl ?_
                  refine W.loadAgg rfl rfl rfl rfl rfl rfl rfl ?_
                  refine AOps.eqlP rfl rfl rfl rfl rfl rfl rfl ?_
                  refine AOps.move rfl rfl ?_
                  refine AOps.guardT rfl rfl rfl hb41 ?_; refine AOps.move rfl rfl ?_
                  refine AOps.guardT rfl rfl rfl hb41 ?_; refine S.len rfl rfl (fun hl111 => ?_)
                  refine AOps.guardT rfl rfl rfl hb41 ?_; refine AOps.eql rfl rfl rfl ?_
                  refine AOps.pickT rfl hb41 rfl rfl ?_
                  refine AOps.move rfl rfl ?_
                  refine AOps.guardF rfl rfl rfl hb42 ?_
                  refine AOps.pickF rfl hb42 rfl rfl ?_
                  refine AOps.assign rfl rfl ?_
                  refine AOps.nil ?_
                  have ej := Option.some.inj hx40
                  subst ej
                  refine thn_normal ?_
                  exact Sub.cut ⟨rfl, trivial⟩ rfl trivial rfl
              · replace hx40 := iteBF hb41 hx40
                refine AWP.region ?_
                refine W.loadAgg rfl rfl rfl rfl rfl rfl rfl ?_
                refine W.loadAgg rfl rfl rfl rfl rfl rfl rfl ?_
                refine AOps.eqlP rfl rfl rfl rfl rfl rfl rfl ?_
                refine AOps.move rfl rfl ?_
                refine AOps.guardF rfl rfl rfl hb41 ?_
                refine AOps.guardF rfl rfl rfl hb41 ?_
                refine AOps.guardF rfl rfl rfl hb41 ?_
                refine AOps.pickF rfl hb41 rfl rfl ?_
                refine AOps.move rfl rfl ?_
                refine AOps.guardF rfl rfl rfl rfl ?_
                refine AOps.pickF rfl rfl rfl rfl ?_
                refine AOps.assign rfl rfl ?_
                refine AOps.nil ?_
                have ej := Option.some.inj hx40
                subst ej
                refine thn_normal ?_
                exact Sub.cut ⟨rfl, trivial⟩ rfl trivial rfl
            · refine AWP.ret ?_
              refine thn_ret ?_
              have ej := Option.some.inj h
              subst ej
              exact Done.ret rfl rfl
          · refine AWP.skip ?_
            refine thn_normal ?_
            refine AWP.seq ?_
            refine AWP.region ?_
            refine AOps.move rfl rfl ?_
            refine S.lit (f := intI) (l := [start]) (ess := [[int start]]) rfl rfl rfl rfl rfl rfl rfl ⟨⟨.inl rfl, trivial⟩, trivial⟩ rfl rfl rfl ?_
            refine AOps.assign rfl rfl ?_
            refine AOps.nil ?_
            refine thn_normal ?_
            refine AWP.seq ?_
            refine AWP.block ?_
            obtain ⟨c44, ho3, h⟩ := bind_some h
            refine AWP.loopS ho3 (fun c43 => ⟨[(1, .c (row 1 intI nextv)), (3, .c (int steps)), (9, .c (row 1 intI a21.1)), (10, .c (.ptr 1 0 0)), (15, .c (.own 3 0 c43.length))], [.dead, .one (.cells 2 [[int a21.2.code, int a21.2.index]]), .dead, .one (vec 1 intI c43)]⟩) (fun c44 e st => e = .exit 4 ∧ Sub [] st ⟨[(9, .c (row 1 intI a21.1)), (10, .c (.ptr 1 0 0)), (15, .c (.own 3 0 c44.length))], [.dead, .one (.cells 2 [[int a21.2.code, int a21.2.index]]), .dead, .one (vec 1 intI c44)]⟩) ?_ ?_ ?_
            · try dsimp only
              exact Sub.cut ⟨rfl, rfl, rfl, rfl, (own_len (by first | rfl | simp only [List.length_set])), trivial⟩ rfl ⟨.dead, .one rfl, .dead, .vec, trivial⟩ rfl
            · intro c43 o h
              unfold law8_GamesPlayMatchesSpec_l3 at h
              try dsimp only at h ⊢
              refine AWP.seq ?_
              obtain ⟨t45, hx46, h⟩ := bind_some h
              refine AWP.seqJ (⟨[(1, .c (row 1 intI nextv)), (3, .c (int steps)), (9, .c (row 1 intI a21.1)), (10, .c (.ptr 1 0 0)), (15, .c (.own 3 0 c43.length)), (134, .c (bool t45))], [.dead, .one (.cells 2 [[int a21.2.code, int a21.2.index]]), .dead, .one (vec 1 intI c43)]⟩) ?_ ?_
              · rcases Bool.eq_false_or_eq_true (decide ((c43.length : Int) ≤ steps)) with hb47 | hb47
                · replace hx46 := iteDT hb47 hx46
                  obtain ⟨a129, ha129, hx46⟩ := bind_some hx46
                  obtain ⟨a131, ha131, hx46⟩ := bind_some hx46
                  refine AWP.region ?_
                  refine AOps.move rfl rfl ?_
                  refine S.lenO rfl rfl rfl (fun hl120 => ?_)
                  refine AOps.move rfl rfl ?_
                  refine AOps.leq rfl rfl rfl ?_
                  refine AOps.move rfl rfl ?_
                  refine AOps.guardT rfl rfl rfl hb47 ?_; refine AOps.move rfl rfl ?_
                  refine AOps.guardT rfl rfl rfl hb47 ?_; refine AOps.move rfl rfl ?_
                  refine AOps.guardT rfl rfl rfl hb47 ?_; refine AOps.move rfl rfl ?_
                  refine AOps.guardT rfl rfl rfl hb47 ?_; refine S.lenO rfl rfl rfl (fun hl127 => ?_)
                  refine AOps.guardT rfl rfl rfl hb47 ?_; refine AOps.sub' rfl rfl rfl (by omega) ?_
                  refine AOps.guardT rfl rfl rfl hb47 ?_; refine S.idxO ha129 rfl rfl rfl rfl rfl ?_
                  refine AOps.guardT rfl rfl rfl hb47 ?_; refine S.loadO ha129 rfl rfl rfl rfl rfl ?_
                  refine AOps.guardT rfl rfl rfl hb47 ?_; refine S.idx ha131 rfl rfl rfl rfl ?_
                  refine AOps.guardT rfl rfl rfl hb47 ?_; refine AOps.loadI rfl rfl rfl rfl ?_
                  refine AOps.guardT rfl rfl rfl hb47 ?_; refine AOps.geq rfl rfl rfl ?_
                  refine AOps.pickT rfl hb47 rfl rfl ?_
                  refine AOps.nil ?_
                  have ej := Option.some.inj hx46
                  subst ej
                  refine thn_normal ?_
                  exact Sub.env ⟨rfl, rfl, rfl, rfl, rfl, rfl, trivial⟩
                · replace hx46 := iteDF hb47 hx46
                  refine AWP.region ?_
                  refine AOps.move rfl rfl ?_
                  refine S.lenO rfl rfl rfl (fun hl120 => ?_)
                  refine AOps.move rfl rfl ?_
                  refine AOps.leq rfl rfl rfl ?_
                  refine AOps.move rfl rfl ?_
                  refine AOps.guardF rfl rfl rfl hb47 ?_
                  refine AOps.guardF rfl rfl rfl hb47 ?_
                  refine AOps.guardF rfl rfl rfl hb47 ?_
                  refine AOps.guardF rfl rfl rfl hb47 ?_
                  refine AOps.guardF rfl rfl rfl hb47 ?_
                  refine AOps.guardF rfl rfl rfl hb47 ?_
                  refine AOps.guardF rfl rfl rfl hb47 ?_
                  refine AOps.guardF rfl rfl rfl hb47 ?_
                  refine AOps.guardF rfl rfl rfl hb47 ?_
                  refine AOps.guardF rfl rfl rfl hb47 ?_
                  refine AOps.pickF rfl hb47 rfl rfl ?_
                  refine AOps.nil ?_
                  have ej := Option.some.inj hx46
                  subst ej
                  refine thn_normal ?_
                  exact Sub.env ⟨rfl, rfl, rfl, rfl, rfl, rfl, trivial⟩
              · refine AWP.iteB rfl h (fun hc48 h => ?_) (fun hc48 h => ?_)
                · refine AWP.skip ?_
                  refine thn_normal ?_
                  refine AWP.block ?_
                  obtain ⟨a141, ha141, h⟩ := bind_some h
                  obtain ⟨a143, ha143, h⟩ := bind_some h
                  obtain ⟨a146, ha146, h⟩ := bind_some h
                  refine AWP.region ?_
                  refine AOps.move rfl rfl ?_
                  refine AOps.move rfl rfl ?_
                  refine AOps.move rfl rfl ?_
                  refine AOps.move rfl rfl ?_
                  refine S.lenO rfl rfl rfl (fun hl139 => ?_)
                  refine AOps.sub' rfl rfl rfl (by omega) ?_
                  refine S.idxO ha141 rfl rfl rfl rfl rfl ?_
                  refine S.loadO ha141 rfl rfl rfl rfl rfl ?_
                  refine S.idx ha143 rfl rfl rfl rfl ?_
                  refine AOps.loadI rfl rfl rfl rfl ?_
                  refine S.lit (f := intI) (l := [a143]) (ess := [[int a143]]) rfl rfl rfl rfl rfl rfl rfl ⟨⟨.inl rfl, trivial⟩, trivial⟩ rfl rfl rfl ?_
                  refine S.append (f := intI) ha146 rfl rfl rfl rfl rfl rfl (.own rfl (by simp only [List.length_set])) rfl rfl rfl rfl ?_
                  refine AOps.assign rfl rfl ?_
                  refine AOps.nil ?_
                  refine inB_normal ?_
                  have ej := Option.some.inj h
                  subst ej
                  refine thn_normal ⟨_, rfl, ?_⟩
                  exact (Sub.move (env' := [(1, .c (row 1 intI nextv)), (3, .c (int steps)), (9, .c (row 1 intI a21.1)), (10, .c (.ptr 1 0 0)), (15, .c (.own 3 0 a146.length))]) (σ' := [.dead, .one (.cells 2 [[int a21.2.code, int a21.2.index]]), .dead, .one (vec 1 intI a146), .one (vec 1 intI [a143])]) 3 5 rfl rfl rfl ⟨rfl, rfl, rfl, rfl, rfl, trivial⟩ rfl ⟨trivial, ⟨rfl, rfl⟩, trivial, ⟨Blk.im_ok _ _ _, vec_mv rfl⟩, ⟨Blk.im_ok _ _ _, vec_mv rfl⟩, trivial⟩).trans (Sub.cut ⟨rfl, rfl, rfl, rfl, rfl, trivial⟩ rfl ⟨.dead, .one rfl, .dead, .vec, trivial⟩ rfl)
                · refine AWP.exit ?_
                  refine thn_exit ?_
                  have ej := Option.some.inj h
                  subst ej
                  refine thn_exit ⟨_, rfl, rfl, ?_⟩
                  exact Sub.env ⟨rfl, rfl, rfl, trivial⟩
            · intro e s hq
              obtain ⟨rfl, hs⟩ := hq
              refine ⟨_, hs, ?_⟩
              refine inB_exit ?_
              refine thn_normal ?_
              obtain ⟨t49, hx50, h⟩ := bind_some h
              refine AWP.seqJ (⟨[(8, .c (bool t49))], []⟩) ?_ ?_
              · rcases Bool.eq_false_or_eq_true (decide (a21.2.code = 0)) with hb51 | hb51
                · replace hx50 := iteDT hb51 hx50
                  obtain ⟨a153, ha153, hx50⟩ := bind_some hx50
                  rcases Bool.eq_false_or_eq_true (a153) with hb52 | hb52
                  · replace hx50 := iteBT hb52 hx50
                    obtain ⟨a156, ha156, hx50⟩ := bind_some hx50
                    refine AWP.region ?_
                    refine W.fieldAddr rfl rfl rfl rfl ?_
                    refine AOps.load rfl rfl rfl rfl rfl rfl ?_
                    refine AOps.eql rfl rfl rfl ?_
                    refine AOps.move rfl rfl ?_
                    refine AOps.guardT rfl rfl rfl hb51 ?_; refine AOps.move rfl rfl ?_
                    refine AOps.guardT rfl rfl rfl hb51 ?_; refine AOps.move rfl rfl ?_
                    refine AOps.guardT rfl rfl rfl hb51 ?_; refine AOps.callL rfl rfl (.cons (.c .imm) (.cons (.c (.own rfl rfl)) .nil)) rfl (equal_Numbers_ok ha153) rfl ?_
                    refine AOps.pickT rfl hb51 rfl rfl ?_
                    refine AOps.move rfl rfl ?_
                    refine AOps.guardT rfl rfl rfl hb52 ?_; refine AOps.callR rfl rfl rfl rfl (law8_forced_ok ha156) rfl ?_
                    refine AOps.pickT rfl hb52 rfl rfl ?_
                    refine AOps.assign rfl rfl ?_
                    refine AOps.nil ?_
                    have ej := Option.some.inj hx50
                    subst ej
                    refine thn_normal ?_
                    exact Sub.cut ⟨rfl, trivial⟩ rfl trivial rfl
                  · replace hx50 := iteBF hb52 hx50
                    refine AWP.region ?_
                    refine W.fieldAddr rfl rfl rfl rfl ?_
                    refine AOps.load rfl rfl rfl rfl rfl rfl ?_
                    refine AOps.eql rfl rfl rfl ?_
                    refine AOps.move rfl rfl ?_
                    refine AOps.guardT rfl rfl rfl hb51 ?_; refine AOps.move rfl rfl ?_
                    refine AOps.guardT rfl rfl rfl hb51 ?_; refine AOps.move rfl rfl ?_
                    refine AOps.guardT rfl rfl rfl hb51 ?_; refine AOps.callL rfl rfl (.cons (.c .imm) (.cons (.c (.own rfl rfl)) .nil)) rfl (equal_Numbers_ok ha153) rfl ?_
                    refine AOps.pickT rfl hb51 rfl rfl ?_
                    refine AOps.move rfl rfl ?_
                    refine AOps.guardF rfl rfl rfl hb52 ?_
                    refine AOps.pickF rfl hb52 rfl rfl ?_
                    refine AOps.assign rfl rfl ?_
                    refine AOps.nil ?_
                    have ej := Option.some.inj hx50
                    subst ej
                    refine thn_normal ?_
                    exact Sub.cut ⟨rfl, trivial⟩ rfl trivial rfl
                · replace hx50 := iteDF hb51 hx50
                  refine AWP.region ?_
                  refine W.fieldAddr rfl rfl rfl rfl ?_
                  refine AOps.load rfl rfl rfl rfl rfl rfl ?_
                  refine AOps.eql rfl rfl rfl ?_
                  refine AOps.move rfl rfl ?_
                  refine AOps.guardF rfl rfl rfl hb51 ?_
                  refine AOps.guardF rfl rfl rfl hb51 ?_
                  refine AOps.guardF rfl rfl rfl hb51 ?_
                  refine AOps.pickF rfl hb51 rfl rfl ?_
                  refine AOps.move rfl rfl ?_
                  refine AOps.guardF rfl rfl rfl rfl ?_
                  refine AOps.pickF rfl rfl rfl rfl ?_
                  refine AOps.assign rfl rfl ?_
                  refine AOps.nil ?_
                  have ej := Option.some.inj hx50
                  subst ej
                  refine thn_normal ?_
                  exact Sub.cut ⟨rfl, trivial⟩ rfl trivial rfl
              · refine AWP.ret ?_
                have ej := Option.some.inj h
                subst ej
                exact Done.ret rfl rfl

end Ab
