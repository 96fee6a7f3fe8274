/-
  Texts that the proof stands on.
-/
import Derived.Test.YtpccoiobnjnciaaKRwConOccurs4
set_option linter.all false
section
namespace Ab
open Go Go.Proofs
open Try
set_option maxHeartbeats 4000000
set_option linter.all false
attribute [local irreducible] AWP AOps thn inB Done e7 m8 Sub
theorem F9 {iv : Int} {kv : Int} {l : List Int} {l4 : List c8} {r : (List Int) × (List c8)} (h : q7 iv kv l l4 = some r) : FnOk prog 141 [.c (.own 0 0 l.length), .c (int iv), .c (int kv)] (Q9 iv kv l l4) (fun tt ss => tt = .tup [] ∧ ss = [.one (prow 1 r.1), pool 4 b9 r.2]) := by
 refine FnOk.enter (rs := []) func141 Z ntmps141 results141 Z trivial (by kernel_rfl) Z ?_
 refine AWP.weak ?_
 unfold q7 at h
 refine AWP.q ?_
 obtain ⟨a12, ha12, a16, ha16, h⟩ := b2 h
 refine AWP.drawEI [13, 15] mixed Z Z Z ?_
 refine d5.consN Z Z (fun E => AOps.j Z Z .N) Z (.consN Z Z (fun E => AOps.j Z Z .N) Z (.consN Z Z (fun E => AOps.j Z Z .N) Z (.consN Z Z (fun E => AOps.j Z Z .N) Z (.consN Z Z (fun E => AOps.j Z Z .N) Z (.consN Z Z (fun E => AOps.j Z Z .N) Z (.consN Z Z (fun E => S.idxPb Z Z Z (by simpa only [List.length_set] using l7 ha12) Z Z .N) Z (.consN Z Z (fun E => S.loadP ha12 Z Z Z Z .N) Z (.consN Z Z (fun E => AOps.j Z Z .N) Z (.consN Z Z (fun E => AOps.j Z Z .N) Z (.consN Z Z (fun E => S.idxPb Z Z Z (by simpa only [List.length_set] using l7 ha16) Z Z .N) Z (.consN Z Z (fun E => S.loadP ha16 Z Z Z Z .N) Z (.consN Z Z (fun E => S.idxPb Z Z Z (by simpa only [List.length_set] using l7 ha16) Z Z .N) Z ?_))))))))))))
 apply d5.consE (v := .undef); exact Z; exact Z; intro E
 refine S.storeP (a := a12) (by simpa only [List.length_set] using e8 ha16) Z Z Z Z .N
 exact Z
 exact Z
 refine d5.consN Z Z (fun E => S.idxPb Z Z (by simp only [List.length_set]) (by simpa only [List.length_set] using l7 ha12) Z Z .N) Z ?_
 apply d5.consE (v := .undef); exact Z; exact Z; intro E
 refine S.storeP (a := a16) (by simpa only [List.length_set] using e8 ha12) Z Z Z Z .N
 exact Z
 exact Z
 refine d5.done Z ?_ ?_
 ·refine c9.cons Z Z ?_ ?_
  refine b7.go Z Z (fun E => AOps.j Z Z .N) ?_
  refine b7.skip Z (b7.skip Z (b7.nil))
  refine c9.cons Z Z ?_ ?_
  refine b7.go Z Z (fun E => AOps.j Z Z .N) ?_
  refine b7.skip Z (b7.skip Z (b7.nil))
  refine c9.cons Z Z ?_ ?_
  refine b7.go Z Z (fun E => AOps.j Z Z .N) ?_
  refine b7.go Z Z (fun E => AOps.j Z Z .N) ?_
  refine b7.skip Z (b7.nil)
  refine c9.cons Z Z ?_ ?_
  refine b7.go Z Z (fun E => AOps.j Z Z .N) ?_
  refine b7.go Z Z (fun E => AOps.j Z Z .N) ?_
  refine b7.skip Z (b7.nil)
  refine c9.cons Z Z ?_ ?_
  refine b7.go Z Z (fun E => AOps.j Z Z .N) ?_
  refine b7.skip Z (b7.skip Z (b7.nil))
  refine c9.cons Z Z ?_ ?_
  refine b7.go Z Z (fun E => AOps.j Z Z .N) ?_
  refine b7.skip Z (b7.skip Z (b7.nil))
  refine c9.cons Z Z ?_ ?_
  refine b7.go Z Z (fun E => S.idxPb Z Z Z (by simpa only [List.length_set] using l7 ha12) Z Z .N) ?_
  refine b7.skip Z (b7.skip Z (b7.nil))
  refine c9.cons Z Z ?_ ?_
  refine b7.go Z Z (fun E => S.loadP ha12 Z Z Z Z .N) ?_
  refine b7.skip Z (b7.skip Z (b7.nil))
  refine c9.cons Z Z ?_ ?_
  refine b7.go Z Z (fun E => AOps.j Z Z .N) ?_
  refine b7.skip Z (b7.skip Z (b7.nil))
  refine c9.cons Z Z ?_ ?_
  refine b7.go Z Z (fun E => AOps.j Z Z .N) ?_
  refine b7.skip Z (b7.skip Z (b7.nil))
  refine c9.cons Z Z ?_ ?_
  refine b7.go Z Z (fun E => S.idxPb Z Z Z (by simpa only [List.length_set] using l7 ha16) Z Z .N) ?_
  refine b7.skip Z (b7.skip Z (b7.nil))
  refine c9.cons Z Z ?_ ?_
  refine b7.go Z Z (fun E => S.loadP ha16 Z Z Z Z .N) ?_
  refine b7.skip Z (b7.skip Z (b7.nil))
  refine c9.cons Z Z ?_ ?_
  refine b7.go Z Z (fun E => S.idxPb Z Z Z (by simpa only [List.length_set] using l7 ha16) Z Z .N) ?_
  refine b7.skip Z (b7.skip Z (b7.nil))
  refine c9.skip Z ?_
  refine c9.cons Z Z ?_ ?_
  refine b7.skip Z ?_
  refine b7.go Z Z (fun E => S.idxPb Z Z (by simp only [List.length_set]) (by simpa only [List.length_set] using l7 ha12) Z Z .N) ?_
  refine b7.skip Z (b7.nil)
  refine c9.skip Z (c9.nil)
 dsimp only [i8]
 refine b6 ?_
 obtain ⟨ha57, hha57, ha58, hha58, en59, hen59, h⟩ := b3 h
 obtain ⟨en60, hen60, h⟩ := bind_some h
 refine AWP.drawEI [12, 15] mixed Z Z Z ?_
 refine d5.consN Z Z (fun E => AOps.j Z Z .N) Z (.consN Z Z (fun E => AOps.j Z Z .N) Z (.consN Z Z (fun E => S.idxPb Z Z (by simp only [List.length_set]) (by simpa only [List.length_set] using l7 ha16) Z Z .N) Z (.consN Z Z (fun E => S.loadP hha57 Z Z Z Z .N) Z (.consN Z Z (fun E => AOps.j Z Z .N) Z (.consN Z Z (fun E => AOps.j Z Z .N) Z (.consN Z Z (fun E => S.idxPb Z Z (by simp only [List.length_set]) (by simpa only [List.length_set] using l7 ha12) Z Z .N) Z (.consN Z Z (fun E => S.loadP hha58 Z Z Z Z .N) Z (.consN Z Z (fun E => AOps.j Z Z .N) Z (.consN Z Z (fun E => AOps.j Z Z .N) Z (.consN Z Z (fun E => S.nilCheckE Z Z (by simpa only [List.length_set] using e8 hen59) Z .N) Z (.consN Z Z (fun E => S.fieldE Z Z Z (by simpa only [List.length_set] using e8 hen59) Z .N) Z ?_)))))))))))
 apply d5.consE (v := .undef); exact Z; exact Z; intro E
 refine S.storeE (e' := (⟨en59.item, en59.key, en59.time, iv⟩ : c8)) hen59 Z Z Z Z Z Z .N
 exact Z
 exact Z
 refine d5.consN Z Z (fun E => S.nilCheckE Z Z (by simpa only [List.length_set] using e8 hen60) Z .N) Z (.consN Z Z (fun E => S.fieldE Z Z Z (by simpa only [List.length_set] using e8 hen60) Z .N) Z ?_)
 apply d5.consE (v := .undef); exact Z; exact Z; intro E
 refine S.storeE (e' := (⟨en60.item, en60.key, en60.time, kv⟩ : c8)) hen60 Z Z Z Z Z Z .N
 exact Z
 exact Z
 refine d5.done Z ?_ ?_
 ·refine c9.cons Z Z ?_ ?_
  refine b7.go Z Z (fun E => AOps.j Z Z .N) ?_
  refine b7.skip Z (b7.skip Z (b7.nil))
  refine c9.cons Z Z ?_ ?_
  refine b7.go Z Z (fun E => AOps.j Z Z .N) ?_
  refine b7.skip Z (b7.skip Z (b7.nil))
  refine c9.cons Z Z ?_ ?_
  refine b7.go Z Z (fun E => S.idxPb Z Z (by simp only [List.length_set]) (by simpa only [List.length_set] using l7 ha16) Z Z .N) ?_
  refine b7.skip Z (b7.skip Z (b7.nil))
  refine c9.cons Z Z ?_ ?_
  refine b7.go Z Z (fun E => S.loadP hha57 Z Z Z Z .N) ?_
  refine b7.skip Z (b7.skip Z (b7.nil))
  refine c9.cons Z Z ?_ ?_
  refine b7.go Z Z (fun E => AOps.j Z Z .N) ?_
  refine b7.skip Z (b7.skip Z (b7.nil))
  refine c9.cons Z Z ?_ ?_
  refine b7.go Z Z (fun E => AOps.j Z Z .N) ?_
  refine b7.skip Z (b7.skip Z (b7.nil))
  refine c9.cons Z Z ?_ ?_
  refine b7.go Z Z (fun E => S.idxPb Z Z (by simp only [List.length_set]) (by simpa only [List.length_set] using l7 ha12) Z Z .N) ?_
  refine b7.skip Z (b7.skip Z (b7.nil))
  refine c9.cons Z Z ?_ ?_
  refine b7.go Z Z (fun E => S.loadP hha58 Z Z Z Z .N) ?_
  refine b7.skip Z (b7.skip Z (b7.nil))
  refine c9.cons Z Z ?_ ?_
  refine b7.go Z Z (fun E => AOps.j Z Z .N) ?_
  refine b7.skip Z (b7.skip Z (b7.nil))
  refine c9.cons Z Z ?_ ?_
  refine b7.go Z Z (fun E => AOps.j Z Z .N) ?_
  refine b7.go Z Z (fun E => AOps.j Z Z .N) ?_
  refine b7.skip Z (b7.nil)
  refine c9.cons Z Z ?_ ?_
  refine b7.go Z Z (fun E => S.nilCheckE Z Z (by simpa only [List.length_set] using e8 hen59) Z .N) ?_
  refine b7.skip Z (b7.skip Z (b7.nil))
  refine c9.cons Z Z ?_ ?_
  refine b7.go Z Z (fun E => S.fieldE Z Z Z (by simpa only [List.length_set] using e8 hen59) Z .N) ?_
  refine b7.skip Z (b7.skip Z (b7.nil))
  refine c9.skip Z ?_
  refine c9.cons Z Z ?_ ?_
  refine b7.skip Z ?_
  refine b7.go Z Z (fun E => S.nilCheckE Z Z (by simpa only [List.length_set] using e8 hen60) Z .N) ?_
  refine b7.skip Z (b7.nil)
  refine c9.cons Z Z ?_ ?_
  refine b7.skip Z ?_
  refine b7.go Z Z (fun E => S.fieldE Z Z Z (by simpa only [List.length_set] using e8 hen60) Z .N) ?_
  refine b7.skip Z (b7.nil)
  refine c9.skip Z (c9.nil)
 dsimp only [i8]
 obtain rfl := oi h
 exact ⟨⟨[], [.one (prow 1 ((l.set iv.toNat a12).set kv.toNat a16)), pool 4 b9 ((l4.set ha57.toNat (⟨en59.item, en59.key, en59.time, iv⟩ : c8)).set ha58.toNat (⟨en60.item, en60.key, en60.time, kv⟩ : c8))]⟩, Sub.env trivial, Done.normal Z ⟨Z, Z⟩⟩
theorem R2 {iv : Int} {kv : Int} {l : List Int} {l4 : List c8} {r : Bool} (h : A7 iv kv l l4 = some r) : FnOk prog 140 [.c (.own 0 0 l.length), .c (int iv), .c (int kv)] (R8 iv kv l l4) (fun tt ss => tt = .c (bool r) ∧ ss = [.one (prow 1 l), pool 4 b9 l4]) := by
 refine FnOk.enter (rs := [.t 6]) func140 Z ntmps140 results140 Z ⟨trivial, Y⟩ (by kernel_rfl) Z ?_
 refine AWP.weak ?_
 unfold A7 at h
 refine AWP.q (.u (.v Z Z (.nil (b6 ?_))))
 obtain ⟨a9, ha9, en56, hen56, a16, ha16, h⟩ := b3 h
 obtain ⟨en57, hen57, h⟩ := bind_some h
 refine AWP.seqJ (⟨[(6, .c (bool ((decide (en56.key < en57.key)) || ((decide (en56.key = en57.key)) && (decide (en56.time < en57.time))))))], [.one (prow 1 l), pool 4 b9 l4]⟩) ?_ ?_
 ·rcases bft (decide (en56.key < en57.key)) with hb1 | hb1
  ·refine AWP.drawI mixed Z ?_
   refine k8.consF Z (fun E => AOps.j Z Z .N) Z (.consF Z (fun E => AOps.j Z Z .N) Z (.consF Z (fun E => S.idxPb Z Z Z (by simpa only [List.length_set] using l7 ha9) Z Z .N) Z (.consF Z (fun E => S.loadP ha9 Z Z Z Z .N) Z (.consF Z (fun E => S.nilCheckE Z Z (by simpa only [List.length_set] using e8 hen56) Z .N) Z (.consF Z (fun E => S.fieldE Z Z Z (by simpa only [List.length_set] using e8 hen56) Z .N) Z (.consF Z (fun E => AOps.E Z Z (l9 Z hen56) Z Z Z .N) Z (.consF Z (fun E => AOps.j Z Z .N) Z (.consF Z (fun E => AOps.j Z Z .N) Z (.consF Z (fun E => S.idxPb Z Z Z (by simpa only [List.length_set] using l7 ha16) Z Z .N) Z (.consF Z (fun E => S.loadP ha16 Z Z Z Z .N) Z (.consF Z (fun E => S.nilCheckE Z Z (by simpa only [List.length_set] using e8 hen57) Z .N) Z (.consF Z (fun E => S.fieldE Z Z Z (by simpa only [List.length_set] using e8 hen57) Z .N) Z (.consF Z (fun E => AOps.E Z Z (l9 Z hen57) Z Z Z .N) Z (.consF Z (fun E => AOps.F Z Z Z .N) Z (.consF Z (fun E => AOps.j Z Z .N) Z (.consF Z (fun E => AOps.B Z Z Z hb1 .N) Z (.consF Z (fun E => AOps.B Z Z Z hb1 .N) Z (.consF Z (fun E => AOps.B Z Z Z hb1 .N) Z (.consF Z (fun E => AOps.B Z Z Z hb1 .N) Z (.consF Z (fun E => AOps.B Z Z Z hb1 .N) Z (.consF Z (fun E => AOps.B Z Z Z hb1 .N) Z (.consF Z (fun E => AOps.B Z Z Z hb1 .N) Z (.consF Z (fun E => AOps.B Z Z Z hb1 .N) Z (.consF Z (fun E => AOps.B Z Z Z hb1 .N) Z (.consF Z (fun E => AOps.B Z Z Z hb1 .N) Z (.consF Z (fun E => AOps.B Z Z Z hb1 .N) Z (.consF Z (fun E => AOps.B Z Z Z hb1 .N) Z (.consF Z (fun E => AOps.B Z Z Z hb1 .N) Z (.consF Z (fun E => AOps.B Z Z Z hb1 .N) Z (.consF Z (fun E => AOps.B Z Z Z hb1 .N) Z (.consF Z (fun E => AOps.B Z Z Z hb1 .N) Z (.consF Z (fun E => AOps.ae Z Z Z .N) Z (.consF Z (fun E => AOps.ae Z Z Z .N) Z (.consF Z (fun E => AOps.ae Z Z Z .N) Z (.consF Z (fun E => AOps.ae Z Z Z .N) Z (.consF Z (fun E => AOps.ae Z Z Z .N) Z (.consF Z (fun E => AOps.ae Z Z Z .N) Z (.consF Z (fun E => AOps.ae Z Z Z .N) Z (.consF Z (fun E => AOps.ae Z Z Z .N) Z (.consF Z (fun E => AOps.ae Z Z Z .N) Z (.consF Z (fun E => AOps.ae Z Z Z .N) Z (.consF Z (fun E => AOps.ae Z Z Z .N) Z (.consF Z (fun E => AOps.ae Z Z Z .N) Z (.consF Z (fun E => AOps.ae Z Z Z .N) Z (.consF Z (fun E => AOps.ae Z Z Z .N) Z (.consF Z (fun E => AOps.ae Z Z Z .N) Z (.consF Z (fun E => AOps.B Z Z Z hb1 .N) Z (.consF Z (fun E => AOps.O Z hb1 Z Z .N) Z (.consF Z (fun E => AOps.v Z Z .N) Z ?_)))))))))))))))))))))))))))))))))))))))))))))))))
   refine k8.done ?_
   dsimp only [i8]
   refine b6 ?_
   simp only [q8 hb1, or_t hb1, Bool.false_or, Bool.true_or, Bool.false_and, Bool.true_and]
   exact Sub.env ⟨Z, Y⟩
  ·rcases bft (decide (en56.key = en57.key)) with hb2 | hb2
   ·refine AWP.drawI mixed Z ?_
    refine k8.consF Z (fun E => AOps.j Z Z .N) Z (.consF Z (fun E => AOps.j Z Z .N) Z (.consF Z (fun E => S.idxPb Z Z Z (by simpa only [List.length_set] using l7 ha9) Z Z .N) Z (.consF Z (fun E => S.loadP ha9 Z Z Z Z .N) Z (.consF Z (fun E => S.nilCheckE Z Z (by simpa only [List.length_set] using e8 hen56) Z .N) Z (.consF Z (fun E => S.fieldE Z Z Z (by simpa only [List.length_set] using e8 hen56) Z .N) Z (.consF Z (fun E => AOps.E Z Z (l9 Z hen56) Z Z Z .N) Z (.consF Z (fun E => AOps.j Z Z .N) Z (.consF Z (fun E => AOps.j Z Z .N) Z (.consF Z (fun E => S.idxPb Z Z Z (by simpa only [List.length_set] using l7 ha16) Z Z .N) Z (.consF Z (fun E => S.loadP ha16 Z Z Z Z .N) Z (.consF Z (fun E => S.nilCheckE Z Z (by simpa only [List.length_set] using e8 hen57) Z .N) Z (.consF Z (fun E => S.fieldE Z Z Z (by simpa only [List.length_set] using e8 hen57) Z .N) Z (.consF Z (fun E => AOps.E Z Z (l9 Z hen57) Z Z Z .N) Z (.consF Z (fun E => AOps.F Z Z Z .N) Z (.consF Z (fun E => AOps.j Z Z .N) Z (.consF Z (fun E => AOps.z Z Z Z hb1 (.j Z Z .N)) Z (.consF Z (fun E => AOps.z Z Z Z hb1 (.j Z Z .N)) Z (.consF Z (fun E => AOps.z Z Z Z hb1 (S.idxPb Z Z Z (by simpa only [List.length_set] using l7 ha9) Z Z .N)) Z (.consF Z (fun E => AOps.z Z Z Z hb1 (S.loadP ha9 Z Z Z Z .N)) Z (.consF Z (fun E => AOps.z Z Z Z hb1 (S.nilCheckE Z Z (by simpa only [List.length_set] using e8 hen56) Z .N)) Z (.consF Z (fun E => AOps.z Z Z Z hb1 (S.fieldE Z Z Z (by simpa only [List.length_set] using e8 hen56) Z .N)) Z (.consF Z (fun E => AOps.z Z Z Z hb1 (.E Z Z (l9 Z hen56) Z Z Z .N)) Z (.consF Z (fun E => AOps.z Z Z Z hb1 (.j Z Z .N)) Z (.consF Z (fun E => AOps.z Z Z Z hb1 (.j Z Z .N)) Z (.consF Z (fun E => AOps.z Z Z Z hb1 (S.idxPb Z Z Z (by simpa only [List.length_set] using l7 ha16) Z Z .N)) Z (.consF Z (fun E => AOps.z Z Z Z hb1 (S.loadP ha16 Z Z Z Z .N)) Z (.consF Z (fun E => AOps.z Z Z Z hb1 (S.nilCheckE Z Z (by simpa only [List.length_set] using e8 hen57) Z .N)) Z (.consF Z (fun E => AOps.z Z Z Z hb1 (S.fieldE Z Z Z (by simpa only [List.length_set] using e8 hen57) Z .N)) Z (.consF Z (fun E => AOps.z Z Z Z hb1 (.E Z Z (l9 Z hen57) Z Z Z .N)) Z (.consF Z (fun E => AOps.z Z Z Z hb1 (.ab Z Z Z .N)) Z (.consF Z (fun E => AOps.z Z Z Z hb1 (.j Z Z .N)) Z (.consF Z (fun E => AOps.z Z Z Z hb2 (.j Z Z .N)) Z (.consF Z (fun E => AOps.z Z Z Z hb2 (.j Z Z .N)) Z (.consF Z (fun E => AOps.z Z Z Z hb2 (S.idxPb Z Z Z (by simpa only [List.length_set] using l7 ha9) Z Z .N)) Z (.consF Z (fun E => AOps.z Z Z Z hb2 (S.loadP ha9 Z Z Z Z .N)) Z (.consF Z (fun E => AOps.z Z Z Z hb2 (S.nilCheckE Z Z (by simpa only [List.length_set] using e8 hen56) Z .N)) Z (.consF Z (fun E => AOps.z Z Z Z hb2 (S.fieldE Z Z Z (by simpa only [List.length_set] using e8 hen56) Z .N)) Z (.consF Z (fun E => AOps.z Z Z Z hb2 (.E Z Z (l9 Z hen56) Z Z Z .N)) Z (.consF Z (fun E => AOps.z Z Z Z hb2 (.j Z Z .N)) Z (.consF Z (fun E => AOps.z Z Z Z hb2 (.j Z Z .N)) Z (.consF Z (fun E => AOps.z Z Z Z hb2 (S.idxPb Z Z Z (by simpa only [List.length_set] using l7 ha16) Z Z .N)) Z (.consF Z (fun E => AOps.z Z Z Z hb2 (S.loadP ha16 Z Z Z Z .N)) Z (.consF Z (fun E => AOps.z Z Z Z hb2 (S.nilCheckE Z Z (by simpa only [List.length_set] using e8 hen57) Z .N)) Z (.consF Z (fun E => AOps.z Z Z Z hb2 (S.fieldE Z Z Z (by simpa only [List.length_set] using e8 hen57) Z .N)) Z (.consF Z (fun E => AOps.z Z Z Z hb2 (.E Z Z (l9 Z hen57) Z Z Z .N)) Z (.consF Z (fun E => AOps.z Z Z Z hb2 (.F Z Z Z .N)) Z (.consF Z (fun E => AOps.z Z Z Z hb1 (.O Z hb2 Z Z .N)) Z (.consF Z (fun E => AOps.U Z hb1 Z Z .N) Z (.consF Z (fun E => AOps.v Z Z .N) Z ?_)))))))))))))))))))))))))))))))))))))))))))))))))
    refine k8.done ?_
    dsimp only [i8]
    refine b6 ?_
    simp only [C5 hb1, or_f hb1, q8 hb2, or_t hb2, Bool.false_or, Bool.true_or, Bool.false_and, Bool.true_and]
    exact Sub.env ⟨Z, Y⟩
   ·refine AWP.drawI mixed Z ?_
    refine k8.consF Z (fun E => AOps.j Z Z .N) Z (.consF Z (fun E => AOps.j Z Z .N) Z (.consF Z (fun E => S.idxPb Z Z Z (by simpa only [List.length_set] using l7 ha9) Z Z .N) Z (.consF Z (fun E => S.loadP ha9 Z Z Z Z .N) Z (.consF Z (fun E => S.nilCheckE Z Z (by simpa only [List.length_set] using e8 hen56) Z .N) Z (.consF Z (fun E => S.fieldE Z Z Z (by simpa only [List.length_set] using e8 hen56) Z .N) Z (.consF Z (fun E => AOps.E Z Z (l9 Z hen56) Z Z Z .N) Z (.consF Z (fun E => AOps.j Z Z .N) Z (.consF Z (fun E => AOps.j Z Z .N) Z (.consF Z (fun E => S.idxPb Z Z Z (by simpa only [List.length_set] using l7 ha16) Z Z .N) Z (.consF Z (fun E => S.loadP ha16 Z Z Z Z .N) Z (.consF Z (fun E => S.nilCheckE Z Z (by simpa only [List.length_set] using e8 hen57) Z .N) Z (.consF Z (fun E => S.fieldE Z Z Z (by simpa only [List.length_set] using e8 hen57) Z .N) Z (.consF Z (fun E => AOps.E Z Z (l9 Z hen57) Z Z Z .N) Z (.consF Z (fun E => AOps.F Z Z Z .N) Z (.consF Z (fun E => AOps.j Z Z .N) Z (.consF Z (fun E => AOps.z Z Z Z hb1 (.j Z Z .N)) Z (.consF Z (fun E => AOps.z Z Z Z hb1 (.j Z Z .N)) Z (.consF Z (fun E => AOps.z Z Z Z hb1 (S.idxPb Z Z Z (by simpa only [List.length_set] using l7 ha9) Z Z .N)) Z (.consF Z (fun E => AOps.z Z Z Z hb1 (S.loadP ha9 Z Z Z Z .N)) Z (.consF Z (fun E => AOps.z Z Z Z hb1 (S.nilCheckE Z Z (by simpa only [List.length_set] using e8 hen56) Z .N)) Z (.consF Z (fun E => AOps.z Z Z Z hb1 (S.fieldE Z Z Z (by simpa only [List.length_set] using e8 hen56) Z .N)) Z (.consF Z (fun E => AOps.z Z Z Z hb1 (.E Z Z (l9 Z hen56) Z Z Z .N)) Z (.consF Z (fun E => AOps.z Z Z Z hb1 (.j Z Z .N)) Z (.consF Z (fun E => AOps.z Z Z Z hb1 (.j Z Z .N)) Z (.consF Z (fun E => AOps.z Z Z Z hb1 (S.idxPb Z Z Z (by simpa only [List.length_set] using l7 ha16) Z Z .N)) Z (.consF Z (fun E => AOps.z Z Z Z hb1 (S.loadP ha16 Z Z Z Z .N)) Z (.consF Z (fun E => AOps.z Z Z Z hb1 (S.nilCheckE Z Z (by simpa only [List.length_set] using e8 hen57) Z .N)) Z (.consF Z (fun E => AOps.z Z Z Z hb1 (S.fieldE Z Z Z (by simpa only [List.length_set] using e8 hen57) Z .N)) Z (.consF Z (fun E => AOps.z Z Z Z hb1 (.E Z Z (l9 Z hen57) Z Z Z .N)) Z (.consF Z (fun E => AOps.z Z Z Z hb1 (.ab Z Z Z .N)) Z (.consF Z (fun E => AOps.z Z Z Z hb1 (.j Z Z .N)) Z (.consF Z (fun E => AOps.B Z Z Z hb2 .N) Z (.consF Z (fun E => AOps.B Z Z Z hb2 .N) Z (.consF Z (fun E => AOps.B Z Z Z hb2 .N) Z (.consF Z (fun E => AOps.B Z Z Z hb2 .N) Z (.consF Z (fun E => AOps.B Z Z Z hb2 .N) Z (.consF Z (fun E => AOps.B Z Z Z hb2 .N) Z (.consF Z (fun E => AOps.B Z Z Z hb2 .N) Z (.consF Z (fun E => AOps.B Z Z Z hb2 .N) Z (.consF Z (fun E => AOps.B Z Z Z hb2 .N) Z (.consF Z (fun E => AOps.B Z Z Z hb2 .N) Z (.consF Z (fun E => AOps.B Z Z Z hb2 .N) Z (.consF Z (fun E => AOps.B Z Z Z hb2 .N) Z (.consF Z (fun E => AOps.B Z Z Z hb2 .N) Z (.consF Z (fun E => AOps.B Z Z Z hb2 .N) Z (.consF Z (fun E => AOps.B Z Z Z hb2 .N) Z (.consF Z (fun E => AOps.z Z Z Z hb1 (.U Z hb2 Z Z .N)) Z (.consF Z (fun E => AOps.U Z hb1 Z Z .N) Z (.consF Z (fun E => AOps.v Z Z .N) Z ?_)))))))))))))))))))))))))))))))))))))))))))))))))
    refine k8.done ?_
    dsimp only [i8]
    refine b6 ?_
    simp only [C5 hb1, or_f hb1, C5 hb2, or_f hb2, Bool.false_or, Bool.true_or, Bool.false_and, Bool.true_and]
    exact Sub.env ⟨Z, Y⟩
 ·refine AWP.ret ?_
  obtain rfl := oi h
  exact ⟨⟨[(6, .c (bool ((decide (en56.key < en57.key)) || ((decide (en56.key = en57.key)) && (decide (en56.time < en57.time))))))], [.one (prow 1 l), pool 4 b9 l4]⟩, Sub.env ⟨Z, Y⟩, Done.ret Z ⟨Z, Z⟩⟩
theorem aa4 {i01 : Int} {nv : Int} {time : Int} {l : List Int} {l5 : List (Int × Int)} {l6 : List c8} {r : (List Int) × (List c8) × Bool} (h : B6 i01 nv time l l5 l6 = some r) : FnOk prog 93 [.c (.ifc 129 [.ptr 0 0 0] false), .c (int i01), .c (int nv)] (M1 i01 nv time l l5 l6) (fun tt ss => tt = .c (bool r.2.2) ∧ ss = [.one (.cells 3 [[.own 1 0 r.1.length, .map 2, int time]]), .one (prow 3 r.1), .one (pmap 3 vU l5), pool 4 b9 r.2.1]) := by
 refine FnOk.enter (rs := [.t 6]) func93 Z ntmps93 results93 Z ⟨trivial, Y⟩ (by kernel_rfl) Z ?_
 refine AWP.weak ?_
 unfold B6 at h
 refine AWP.q (.u (.v Z Z (.nil (b6 (.q (.u (.j Z Z (.v Z Z (.nil (b6 (.q (.aa ?_))))))))))))
 obtain ⟨⟨c63, c64, iv65⟩, ho1, h⟩ := bind_some h
 try dsimp only at h
 refine AWP.loopS ho1 (fun (c60, c61, iv62) => ⟨[(0, .c (.ifc 129 [.ptr 0 0 0] false)), (1, .c (int i01)), (2, .c (int nv)), (7, .c (int iv62))], [.one (.cells 3 [[.own 1 0 c60.length, .map 2, int time]]), .one (prow 3 c60), .one (pmap 3 vU l5), pool 4 b9 c61]⟩) (fun (c63, c64, iv65) e st => e = .exit 0 ∧ Sub (M1 i01 nv time l l5 l6) st ⟨[(1, .c (int i01)), (7, .c (int iv65))], [.one (.cells 3 [[.own 1 0 c63.length, .map 2, int time]]), .one (prow 3 c63), .one (pmap 3 vU l5), pool 4 b9 c64]⟩) ?_ ?_ ?_
 ·try dsimp only
  exact Sub.env ⟨Z, Z, Z, Z, Y⟩
 ·intro s o h
  obtain ⟨c60, c61, iv62⟩ := s
  unfold L7 at h
  try dsimp only at h ⊢
  refine AWP.aa (.q (.u (.j Z Z (S.mul Z Z Z (S.add Z Z Z (.v Z Z (.nil (b6 (.q (.seqJ (⟨[(0, .c (.ifc 129 [.ptr 0 0 0] false)), (1, .c (int i01)), (2, .c (int nv)), (7, .c (int iv62)), (8, .c (int (w64 ((w64 (2 * iv62)) + 1)))), (21, .c (bool ((decide (nv ≤ w64 ((w64 (2 * iv62)) + 1))) || (decide (w64 ((w64 (2 * iv62)) + 1) < 0)))))], [.one (.cells 3 [[.own 1 0 c60.length, .map 2, int time]]), .one (prow 3 c60), .one (pmap 3 vU l5), pool 4 b9 c61]⟩) ?_ ?_))))))))))
  ·rcases bft (decide (nv ≤ w64 ((w64 (2 * iv62)) + 1))) with hb1 | hb1
   ·refine AWP.u (.j Z Z (.j Z Z (.geq Z Z Z (.j Z Z (.B Z Z Z hb1 (.B Z Z Z hb1 (.O Z hb1 Z Z (.nil (b6 ?_)))))))))
    simp only [q8 hb1, or_t hb1, Bool.false_or, Bool.true_or, Bool.false_and, Bool.true_and]
    exact Sub.env ⟨Z, Z, Z, Z, Z, Z, Y⟩
   ·refine AWP.u (.j Z Z (.j Z Z (.geq Z Z Z (.j Z Z (.z Z Z Z hb1 (.j Z Z (.z Z Z Z hb1 (.F Z Z Z (.U Z hb1 Z Z (.nil (b6 ?_)))))))))))
    simp only [C5 hb1, or_f hb1, Bool.false_or, Bool.true_or, Bool.false_and, Bool.true_and]
    exact Sub.env ⟨Z, Z, Z, Z, Z, Z, Y⟩
  ·refine AWP.ad Z h (fun hc66 h => ?_) (fun hc66 h => ?_)
   ·refine AWP.exit (f5 (K9 Z ?_))
    obtain rfl := oi h
    refine f5 ⟨_, Z, Z, ?_⟩
    exact Sub.env ⟨Z, Z, Y⟩
   ·refine AWP.skip (b6 (.q (.u (.j Z Z (.v Z Z (.nil (b6 ?_)))))))
    obtain ⟨j67, hx68, h⟩ := bind_some h
    refine AWP.seqJ (⟨[(0, .c (.ifc 129 [.ptr 0 0 0] false)), (1, .c (int i01)), (2, .c (int nv)), (7, .c (int iv62)), (9, .c (int j67))], [.one (.cells 3 [[.own 1 0 c60.length, .map 2, int time]]), .one (prow 3 c60), .one (pmap 3 vU l5), pool 4 b9 c61]⟩) ?_ ?_
    ·refine AWP.q (.u (.j Z Z (S.add Z Z Z (.v Z Z (.nil (b6 ?_))))))
     obtain ⟨t69, hx70, hx68⟩ := bind_some hx68
     refine AWP.seqJ (⟨[(0, .c (.ifc 129 [.ptr 0 0 0] false)), (1, .c (int i01)), (2, .c (int nv)), (7, .c (int iv62)), (9, .c (int (w64 ((w64 (2 * iv62)) + 1)))), (10, .c (int (w64 ((w64 ((w64 (2 * iv62)) + 1)) + 1)))), (33, .c (bool t69))], [.one (.cells 3 [[.own 1 0 c60.length, .map 2, int time]]), .one (prow 3 c60), .one (pmap 3 vU l5), pool 4 b9 c61]⟩) ?_ ?_
     ·rcases bft (decide (w64 ((w64 ((w64 (2 * iv62)) + 1)) + 1) < nv)) with hb71 | hb71
      ·replace hx70 := L8 hb71 hx70
       obtain ⟨a32, ha32, hx70⟩ := bind_some hx70
       refine AWP.u (.j Z Z (.j Z Z (.F Z Z Z (.j Z Z (.z Z Z Z hb71 (.j Z Z (.z Z Z Z hb71 (.j Z Z (.z Z Z Z hb71 (.j Z Z (.z Z Z Z hb71 (S.invokeV (r2 := .c (bool a32)) (σ'' := [.one (.cells 3 [[.own 1 0 c60.length, .map 2, int time]]), .one (prow 3 c60), .one (pmap 3 vU l5), pool 4 b9 c61]) Z Z Z Z Z Z Z (FnOk.lend [1, 3] (s7 ha32) Z Z Z Z Z Z (by exact ⟨(.one (g8 Z)), (.any j8), Y⟩) Z (by exact ⟨(.live Z (.one (e9 fun _ => Z))), (.live Z RenE.pool), Y⟩) Z Z (by exact ⟨(.old Z Z Z), (.new 0 Z Z (.one (e9 fun _ => Z))), (.old Z Z Z), (.new 1 Z Z RenE.pool), Y⟩)) (.O Z hb71 Z Z (.nil ?_))))))))))))))
       obtain rfl := oi hx70
       refine b6 (Sub.env ⟨Z, Z, Z, Z, Z, Z, Z, Y⟩)
      ·replace hx70 := M3 hb71 hx70
       refine AWP.u (.j Z Z (.j Z Z (.F Z Z Z (.j Z Z (.B Z Z Z hb71 (.B Z Z Z hb71 (.B Z Z Z hb71 (.B Z Z Z hb71 (.U Z hb71 Z Z (.nil ?_))))))))))
       obtain rfl := oi hx70
       refine b6 (Sub.env ⟨Z, Z, Z, Z, Z, Z, Z, Y⟩)
     ·refine AWP.ad Z hx68 (fun hc72 hx68 => ?_) (fun hc72 hx68 => ?_)
      ·refine AWP.u (.j Z Z (.v Z Z (.nil ?_)))
       obtain rfl := oi hx68
       refine b6 (Sub.env ⟨Z, Z, Z, Z, Z, Y⟩)
      ·refine AWP.skip ?_
       obtain rfl := oi hx68
       refine b6 (Sub.env ⟨Z, Z, Z, Z, Z, Y⟩)
    ·refine AWP.q (.q ?_)
     obtain ⟨a38, ha38, h⟩ := bind_some h
     refine AWP.u (.j Z Z (.j Z Z (.j Z Z (S.invokeV (r2 := .c (bool a38)) (σ'' := [.one (.cells 3 [[.own 1 0 c60.length, .map 2, int time]]), .one (prow 3 c60), .one (pmap 3 vU l5), pool 4 b9 c61]) Z Z Z Z Z Z Z (FnOk.lend [1, 3] (R2 ha38) Z Z Z Z Z Z (by exact ⟨(.one (g8 Z)), (.any j8), Y⟩) Z (by exact ⟨(.live Z (.one (e9 fun _ => Z))), (.live Z RenE.pool), Y⟩) Z Z (by exact ⟨(.old Z Z Z), (.new 0 Z Z (.one (e9 fun _ => Z))), (.old Z Z Z), (.new 1 Z Z RenE.pool), Y⟩)) (.not Z Z (.nil (b6 (.ad Z h (fun hc73 h => ?_) (fun hc73 h => ?_)))))))))
     ·refine AWP.exit (f5 (K9 Z ?_))
      obtain rfl := oi h
      refine f5 ⟨_, Z, Z, ?_⟩
      exact Sub.env ⟨Z, Z, Y⟩
     ·refine AWP.skip (b6 (.q ?_))
      obtain ⟨a43, ha43, u74, hu74, h⟩ := b2 h
      refine AWP.u (.j Z Z (.j Z Z (.j Z Z (S.invokeV (r2 := .tup []) (σ'' := [.one (.cells 3 [[.own 1 0 c60.length, .map 2, int time]]), .one (prow 3 a43.1), .one (pmap 3 vU l5), pool 4 b9 a43.2]) Z Z Z Z Z Z Z (FnOk.lend [1, 3] (F9 ha43) Z Z Z Z Z Z (by exact ⟨(.one (g8 Z)), (.any j8), Y⟩) Z (by exact ⟨(.live Z (.one (e9 fun _ => Z))), (.live Z RenE.pool), Y⟩) Z Z (by exact ⟨(.old Z Z Z), (.new 0 Z Z (.one (e9 fun _ => Z))), (.old Z Z Z), (.new 1 Z Z RenE.pool), Y⟩)) (.nil (b6 (.u (.j Z Z (.v Z Z (.nil (g9 ?_)))))))))))
      obtain rfl := oi h
      refine b6 ⟨_, Z, ?_⟩
      exact Sub.cut ⟨Z, Z, Z, Z, Y⟩ Z ⟨(.eq Z (by first | rfl | rw [(aa3 hu74)] | (simp only [List.length_set]; done))), (.one (g8 Z)), (.one (i7 Z)), (.any j8), Y⟩ Z
 ·intro e s hq
  obtain ⟨rfl, hs⟩ := hq
  refine ⟨_, hs, ?_⟩
  refine m7 (b6 (.q (.u (.j Z Z (.j Z Z (.gtr Z Z Z (.v Z Z (.nil (b6 (.ret ?_))))))))))
  obtain rfl := oi h
  exact ⟨⟨[(6, .c (bool (decide (i01 < iv65))))], [.one (.cells 3 [[.own 1 0 c63.length, .map 2, int time]]), .one (prow 3 c63), .one (pmap 3 vU l5), pool 4 b9 c64]⟩, Sub.env ⟨Z, Y⟩, Done.ret Z ⟨Z, Z⟩⟩
theorem T2 {time : Int} {l : List Int} {l3 : List (Int × Int)} {l4 : List c8} {r : (List Int) × Int} (h : w6 time l l3 l4 = some r) : FnOk prog 142 [.c (.ptr 0 0 0)] (S8 time l l3 l4) (fun tt ss => tt = .c (.ifc 124 [.ptr (3, [r.2.toNat]) 0 0] false) ∧ ss = [.one (.cells 3 [[.own 5 0 r.1.length, .map 2, int time]]), .dead, .one (pmap 3 vU l3), pool 4 b9 l4, .dead, .one (prow 3 r.1)]) := by
 refine FnOk.enter (rs := [.t 2]) func142 Z ntmps142 results142 Z ⟨trivial, Y⟩ (by kernel_rfl) Z ?_
 refine AWP.weak ?_
 unfold w6 at h
 refine AWP.j (env' := [(0, .c (.ptr 0 0 0))]) (σ' := [.one (.cells 3 [[.own 4 0 l.length, .map 2, int time]]), .dead, .one (pmap 3 vU l3), pool 4 b9 l4, .one (prow 3 l)]) 4 1 Z Z Z ⟨Z, Y⟩ Z ⟨⟨Z, Z⟩, trivial, ⟨i7 Z, s5 Z F5⟩, (n9.pool Z), ⟨g8 Z, s5 Z F4⟩, Y⟩ (.q (.u (.v Z Z (.nil (b6 (.q (.u (.j Z Z (.af Z Z Z (.E Z Z Z Z Z Z (.v Z Z (.nil (b6 (.q ?_))))))))))))))
 obtain ⟨a12, ha12, h⟩ := bind_some h
 refine AWP.u (.j Z Z (.j Z Z (.lenOwnB Z Z Z (fun hl10 => .sub' Z Z Z (by omega) (S.idxPb Z Z Z (by simpa only [List.length_set] using l7 ha12) Z Z (S.loadP ha12 Z Z Z Z (.v Z Z (.nil (b6 (.q ?_))))))))))
 obtain ⟨a19, ha19, h⟩ := bind_some h
 refine AWP.u (.j Z Z (.j Z Z (.j Z Z (.lenOwnB Z Z Z (fun hl17 => .sub' Z Z Z (by omega) (S.shrinkP ha19 Z Z Z Z Z (.sub (Sub.reownP (env' := [(0, .c (.ptr 0 0 0)), (2, .c (.imm (.val .nilIface))), (4, .c (.ptr (3, [a12.toNat]) 0 0)), (5, .c (.ptr 0 0 0)), (6, .c (.ptr 0 0 0)), (10, .c (int (l.length : Int))), (11, .c (int ((l.length : Int) - 1))), (13, .c (.ptr (3, [a12.toNat]) 0 0)), (14, .c (.ptr 0 0 0)), (17, .c (int (l.length : Int))), (18, .c (int ((l.length : Int) - 1))), (19, .c (.own 5 0 a19.length))]) 19 ha19 Z Z Z Z Z Z Z (by exact ⟨.inr Z, .inr Z, .inr Z, .inr Z, .inr Z, .inr Z, .inr Z, .inr Z, .inr Z, .inr Z, .inr Z, .inl ⟨Z, Z⟩, Y⟩)) (.af Z Z Z (W.store Z Z Z Z Z (.nil (b6 (.q (.u (.j Z Z (S.mkIfc Z Z Z (.v Z Z (.nil (b6 (.ret ?_)))))))))))))))))))
 obtain rfl := oi h
 exact ⟨⟨[(2, .c (.ifc 124 [.ptr (3, [a12.toNat]) 0 0] false))], [.one (.cells 3 [[.own 5 0 a19.length, .map 2, int time]]), .dead, .one (pmap 3 vU l3), pool 4 b9 l4, .dead, .one (prow 3 a19)]⟩, Sub.env ⟨Z, Y⟩, Done.ret Z ⟨Z, Z⟩⟩
theorem ac8 {time : Int} {l : List Int} {l3 : List (Int × Int)} {l4 : List c8} {r : (List c8) × (List Int) × Int} (h : y8 time l l3 l4 = some r) : FnOk prog 78 [.c (.ifc 129 [.ptr 0 0 0] false)] (ac9 time l l3 l4) (fun tt ss => tt = .c (.ifc 124 [.ptr (3, [r.2.2.toNat]) 0 0] false) ∧ ss = [.one (.cells 3 [[.own 5 0 r.2.1.length, .map 2, int time]]), .dead, .one (pmap 3 vU l3), pool 4 b9 r.1, .dead, .one (prow 3 r.2.1)]) := by
 refine FnOk.enter (rs := [.t 2]) func78 Z ntmps78 results78 Z ⟨trivial, Y⟩ (by kernel_rfl) Z ?_
 refine AWP.weak ?_
 unfold y8 at h
 refine AWP.q (.u (.v Z Z (.nil (b6 (.q ?_)))))
 obtain ⟨a5, ha5, h⟩ := bind_some h
 refine AWP.u (.j Z Z (S.invokeV (r2 := .c (int (l.length : Int))) (σ'' := [.one (.cells 3 [[.own 1 0 l.length, .map 2, int time]]), .one (prow 3 l), .one (pmap 3 vU l3), pool 4 b9 l4]) Z Z Z Z Z Z Z (FnOk.lend [1, 3] (z2 ha5) Z Z Z Z Z Z (by exact ⟨(.one (g8 Z)), (.any j8), Y⟩) Z (by exact ⟨(.live Z (.one (e9 fun _ => Z))), (.live Z RenE.pool), Y⟩) Z Z (by exact ⟨(.old Z Z Z), (.new 0 Z Z (.one (e9 fun _ => Z))), (.old Z Z Z), (.new 1 Z Z RenE.pool), Y⟩)) (S.sub Z Z Z (.v Z Z (.nil (b6 (.q ?_)))))))
 obtain ⟨a9, ha9, u58, hu58, h⟩ := b2 h
 refine AWP.u (.j Z Z (.j Z Z (S.invokeV (r2 := .tup []) (σ'' := [.one (.cells 3 [[.own 1 0 l.length, .map 2, int time]]), .one (prow 3 a9.1), .one (pmap 3 vU l3), pool 4 b9 a9.2]) Z Z Z Z Z Z Z (FnOk.lend [1, 3] (F9 ha9) Z Z Z Z Z Z (by exact ⟨(.one (g8 Z)), (.any j8), Y⟩) Z (by exact ⟨(.live Z (.one (e9 fun _ => Z))), (.live Z RenE.pool), Y⟩) Z Z (by exact ⟨(.old Z Z Z), (.new 0 Z Z (.one (e9 fun _ => Z))), (.old Z Z Z), (.new 1 Z Z RenE.pool), Y⟩)) (.nil (b6 (.q ?_))))))
 obtain ⟨a12, ha12, h⟩ := bind_some h
 refine AWP.u (.j Z Z (.j Z Z (.sub (s' := ⟨[(0, .c (.ifc 129 [.ptr 0 0 0] false)), (2, .c (.imm (.val .nilIface))), (3, .c (int (w64 ((l.length : Int) - 1)))), (4, .c (.ifc 129 [.ptr 0 0 0] false)), (5, .c (int (l.length : Int))), (6, .c (int (w64 ((l.length : Int) - 1)))), (7, .c (.ifc 129 [.ptr 0 0 0] false)), (8, .c (int (w64 ((l.length : Int) - 1)))), (9, .tup []), (10, .c (.ifc 129 [.ptr 0 0 0] false)), (11, .c (int (w64 ((l.length : Int) - 1))))], [.one (.cells 3 [[.own 1 0 a9.1.length, .map 2, int time]]), .one (prow 3 a9.1), .one (pmap 3 vU l3), pool 4 b9 a9.2]⟩) (Sub.cut ⟨Z, Z, Z, Z, Z, Z, Z, Z, Z, Z, Z, Y⟩ Z ⟨(.eq Z (by rw [(aa3 hu58)])), (.one (g8 Z)), (.one (i7 Z)), (.any j8), Y⟩ Z) (.callF (r2 := .c (bool a12.2.2)) (σ'' := [.one (.cells 3 [[.own 1 0 a12.1.length, .map 2, int time]]), .one (prow 3 a12.1), .one (pmap 3 vU l3), pool 4 b9 a12.2.1]) Z Z Z (FnOk.lend [0, 1, 2, 3] (aa4 ha12) Z Z Z Z Z Z (by exact ⟨(.one Z), (.one (g8 Z)), (.one (i7 Z)), (.any j8), Y⟩) Z (by exact ⟨(.live Z (.one Z)), (.live Z (.one (e9 fun _ => Z))), (.live Z (.one (j6 fun _ => Z))), (.live Z RenE.pool), Y⟩) Z Z (by exact ⟨(.new 0 Z Z (.one Z)), (.new 1 Z Z (.one (e9 fun _ => Z))), (.new 2 Z Z (.one (j6 fun _ => Z))), (.new 3 Z Z RenE.pool), Y⟩)) (.nil (b6 (.q ?_)))))))
 obtain ⟨a14, ha14, h⟩ := bind_some h
 refine AWP.u (.j Z Z (S.invokeP (r2 := .c (.ifc 124 [.ptr (3, [a14.2.toNat]) 0 0] false)) (σ'' := [.one (.cells 3 [[.own 5 0 a14.1.length, .map 2, int time]]), .dead, .one (pmap 3 vU l3), pool 4 b9 a12.2.1, .dead, .one (prow 3 a14.1)]) Z Z Z (FnOk.lend [0, 1, 2, 3] (T2 ha14) Z Z Z Z Z Z (by exact ⟨(.one Z), (.one (g8 Z)), (.one (i7 Z)), (.any j8), Y⟩) Z (by exact ⟨(.live Z (.one Z)), (.live Z (.one (e9 fun _ => Z))), (.live Z (.one (j6 fun _ => Z))), (.live Z RenE.pool), Y⟩) Z Z (by exact ⟨(.new 0 Z Z (.one Z)), .dead, (.new 2 Z Z (.one (j6 fun _ => Z))), (.new 3 Z Z RenE.pool), .dead, (.new 5 Z Z (.one (e9 fun _ => Z))), Y⟩)) (.v Z Z (.nil (b6 (.ret ?_))))))
 obtain rfl := oi h
 exact ⟨⟨[(2, .c (.ifc 124 [.ptr (3, [a14.2.toNat]) 0 0] false))], [.one (.cells 3 [[.own 5 0 a14.1.length, .map 2, int time]]), .dead, .one (pmap 3 vU l3), pool 4 b9 a12.2.1, .dead, .one (prow 3 a14.1)]⟩, Sub.env ⟨Z, Y⟩, Done.ret Z ⟨Z, Z⟩⟩
theorem R9 {time : Int} {l : List Int} {l3 : List (Int × Int)} {l4 : List c8} {r : (List (Int × Int)) × (List c8) × (List Int) × Int × Int × Bool} (h : p9 time l l3 l4 = some r) : FnOk prog 64 [.c (.ptr 0 0 0)] (R7 time l l3 l4) (fun tt ss => tt = .tup [.c (.imm (.val (.int .u32 r.2.2.2.1))), .c (int r.2.2.2.2.1), .c (bool r.2.2.2.2.2)] ∧ ss = [.one (.cells 3 [[.own 4 0 r.2.2.1.length, .map 2, int time]]), .dead, .one (pmap 3 vU r.1), pool 4 b9 r.2.1, .one (prow 3 r.2.2.1)]) := by
 refine FnOk.enter (rs := [.t 2, .t 3, .t 4]) func64 Z ntmps64 results64 Z ⟨trivial, trivial, trivial, Y⟩ (by kernel_rfl) Z ?_
 refine AWP.weak ?_
 unfold p9 at h
 refine AWP.j (env' := [(0, .c (.ptr 0 0 0))]) (σ' := [.one (.cells 3 [[.own 4 0 l.length, .map 2, int time]]), .dead, .one (pmap 3 vU l3), pool 4 b9 l4, .one (prow 3 l)]) 4 1 Z Z Z ⟨Z, Y⟩ Z ⟨⟨Z, Z⟩, trivial, ⟨i7 Z, s5 Z F5⟩, (n9.pool Z), ⟨g8 Z, s5 Z F4⟩, Y⟩ (.q (.u (.v Z Z (.v Z Z (.v Z Z (.nil (b6 (.q (.q (.u (.j Z Z (.af Z Z Z (W.fieldAddr Z Z Z Z (.E Z Z Z Z Z Z (.lenOwnB Z Z Z (fun hl10 => .ab Z Z Z (.nil (b6 (.ite Z h (fun hc61 h => ?_) (fun hc61 h => ?_))))))))))))))))))))
 ·refine AWP.q (.u (.j Z Z (.v Z Z (.v Z Z (.v Z Z (.nil (b6 (.ret (d9 ?_)))))))))
  obtain rfl := oi h
  exact ⟨⟨[(2, .c (.imm (.val (.int .u32 0)))), (3, .c (int 0)), (4, .c (bool false))], [.one (.cells 3 [[.own 4 0 l.length, .map 2, int time]]), .dead, .one (pmap 3 vU l3), pool 4 b9 l4, .one (prow 3 l)]⟩, Sub.env ⟨Z, Z, Z, Y⟩, Done.ret Z ⟨Z, Z⟩⟩
 ·refine AWP.skip (b6 (.q ?_))
  obtain ⟨a17, ha17, h⟩ := bind_some h
  refine AWP.u (.j Z Z (.af Z Z Z (W.fieldAddr Z Z Z Z (S.mkIfc Z Z Z (.callF (r2 := .c (.ifc 124 [.ptr (3, [a17.2.2.toNat]) 0 0] false)) (σ'' := [.one (.cells 3 [[.own 6 0 a17.2.1.length, .map 2, int time]]), .dead, .one (pmap 3 vU l3), pool 4 b9 a17.1, .dead, .dead, .one (prow 3 a17.2.1)]) Z Z Z (FnOk.lend [0, 4, 2, 3] (ac8 ha17) Z Z Z Z Z Z (by exact ⟨(.one Z), (.one (g8 Z)), (.one (i7 Z)), (.any j8), Y⟩) Z (by exact ⟨(.live Z (.one Z)), (.live Z (.one (e9 fun _ => Z))), (.live Z (.one (j6 fun _ => Z))), (.live Z RenE.pool), Y⟩) Z Z (by exact ⟨(.new 0 Z Z (.one Z)), .dead, (.new 2 Z Z (.one (j6 fun _ => Z))), (.new 3 Z Z RenE.pool), .dead, .dead, (.new 5 Z Z (.one (e9 fun _ => Z))), Y⟩)) (S.assert Z Z Z (.v Z Z (.nil (b6 (.q ?_))))))))))
  obtain ⟨en62, hen62, h⟩ := bind_some h
  refine AWP.drawEI [8] mixed Z Z Z ?_
  refine d5.consN Z Z (fun E => AOps.j Z Z .N) Z (.consN Z Z (fun E => AOps.af Z Z Z .N) Z (.consN Z Z (fun E => W.fieldAddr Z Z Z Z .N) Z (.consN Z Z (fun E => AOps.E Z Z Z Z Z Z .N) Z (.consN Z Z (fun E => AOps.j Z Z .N) Z (.consN Z Z (fun E => S.nilCheckE Z Z (by simpa only [List.length_set] using e8 hen62) Z .N) Z (.consN Z Z (fun E => S.fieldE Z Z Z (by simpa only [List.length_set] using e8 hen62) Z .N) Z (.consN Z Z (fun E => AOps.E Z Z (l9 Z hen62) Z Z Z .N) Z ?_)))))))
  apply d5.consE (v := .undef); exact Z; exact Z; intro E
  refine S.deleteP (fk := vU) (k := en62.item) B0 Z Z Z Z Z .N
  exact Z
  exact Z
  refine d5.done Z ?_ ?_
  ·refine c9.cons Z Z ?_ ?_
   refine b7.go Z Z (fun E => AOps.j Z Z .N) ?_
   refine b7.skip Z (b7.nil)
   refine c9.cons Z Z ?_ ?_
   refine b7.go Z Z (fun E => AOps.af Z Z Z .N) ?_
   refine b7.skip Z (b7.nil)
   refine c9.cons Z Z ?_ ?_
   refine b7.go Z Z (fun E => W.fieldAddr Z Z Z Z .N) ?_
   refine b7.skip Z (b7.nil)
   refine c9.cons Z Z ?_ ?_
   refine b7.go Z Z (fun E => AOps.E Z Z Z Z Z Z .N) ?_
   refine b7.skip Z (b7.nil)
   refine c9.cons Z Z ?_ ?_
   refine b7.go Z Z (fun E => AOps.j Z Z .N) ?_
   refine b7.skip Z (b7.nil)
   refine c9.cons Z Z ?_ ?_
   refine b7.go Z Z (fun E => S.nilCheckE Z Z (by simpa only [List.length_set] using e8 hen62) Z .N) ?_
   refine b7.skip Z (b7.nil)
   refine c9.cons Z Z ?_ ?_
   refine b7.go Z Z (fun E => S.fieldE Z Z Z (by simpa only [List.length_set] using e8 hen62) Z .N) ?_
   refine b7.skip Z (b7.nil)
   refine c9.cons Z Z ?_ ?_
   refine b7.go Z Z (fun E => AOps.E Z Z (l9 Z hen62) Z Z Z .N) ?_
   refine b7.skip Z (b7.nil)
   refine c9.skip Z (c9.nil)
  dsimp only [i8]
  refine b6 (.q (.drawI mixed Z ?_))
  refine k8.consF Z (fun E => AOps.j Z Z .N) Z (.consF Z (fun E => S.nilCheckE Z Z (by simpa only [List.length_set] using e8 hen62) Z .N) Z (.consF Z (fun E => S.fieldE Z Z Z (by simpa only [List.length_set] using e8 hen62) Z .N) Z (.consF Z (fun E => AOps.E Z Z (l9 Z hen62) Z Z Z .N) Z (.consF Z (fun E => AOps.j Z Z .N) Z (.consF Z (fun E => S.nilCheckE Z Z (by simpa only [List.length_set] using e8 hen62) Z .N) Z (.consF Z (fun E => S.fieldE Z Z Z (by simpa only [List.length_set] using e8 hen62) Z .N) Z (.consF Z (fun E => AOps.E Z Z (l9 Z hen62) Z Z Z .N) Z (.consF Z (fun E => AOps.v Z Z .N) Z (.consF Z (fun E => AOps.v Z Z .N) Z (.consF Z (fun E => AOps.v Z Z .N) Z ?_))))))))))
  refine k8.done ?_
  dsimp only [i8]
  refine b6 (.ret ?_)
  obtain rfl := oi h
  exact ⟨⟨[(2, .c (.imm (.val (.int .u32 en62.item)))), (3, .c (int en62.key)), (4, .c (bool true))], [.one (.cells 3 [[.own 4 0 a17.2.1.length, .map 2, int time]]), .dead, .one (pmap 3 vU (mdel l3 en62.item)), pool 4 b9 a17.1, .one (prow 3 a17.2.1)]⟩, (Sub.move (env' := [(2, .c (.imm (.val (.int .u32 en62.item)))), (3, .c (int en62.key)), (4, .c (bool true))]) (σ' := [.one (.cells 3 [[.own 4 0 a17.2.1.length, .map 2, int time]]), .dead, .one (pmap 3 vU (mdel l3 en62.item)), pool 4 b9 a17.1, .one (prow 3 a17.2.1), .dead]) 4 6 Z Z Z ⟨Z, Z, Z, Y⟩ Z ⟨⟨Z, Z⟩, trivial, ⟨i7 Z, s5 Z F5⟩, (n9.pool Z), ⟨g8 Z, s5 Z F4⟩, trivial, Y⟩).trans (Sub.cut ⟨Z, Z, Z, Y⟩ Z ⟨.one Z, .dead, (.one (i7 Z)), (.any j8), (.one (g8 Z)), Y⟩ Z), Done.ret Z ⟨Z, Z⟩⟩
theorem S9 {item : Int} {key : Int} {time : Int} {l : List Int} {l5 : List (Int × Int)} {l6 : List c8} {r : (List (Int × Int)) × (List Int) × (List c8)} (h : w3 item key time l l5 l6 = some r) : FnOk prog 61 [.c (.ptr 0 0 0), .c (.imm (.val (.int .u32 item))), .c (int key)] (T6 item key time l l5 l6) (fun tt ss => tt = .tup [] ∧ ss = [.one (.cells 3 [[.own 4 0 r.2.1.length, .map 2, int (w64 (time + 1))]]), .dead, .one (pmap 5 vU r.1), .dead, .one (prow 5 r.2.1), pool 4 b9 r.2.2]) := by
 refine FnOk.enter (rs := []) func61 Z ntmps61 results61 Z trivial (by kernel_rfl) Z ?_
 refine AWP.weak ?_
 unfold w3 at h
 refine AWP.j (env' := [(0, .c (.ptr 0 0 0)), (1, .c (.imm (.val (.int .u32 item)))), (2, .c (int key))]) (σ' := [.one (.cells 3 [[.own 4 0 l.length, .map 2, int time]]), .dead, .one (pmap 3 vU l5), pool 4 b9 l6, .one (prow 3 l)]) 4 1 Z Z Z ⟨Z, Z, Z, Y⟩ Z ⟨⟨Z, Z⟩, trivial, ⟨i7 Z, s5 Z F5⟩, (n9.pool Z), ⟨g8 Z, s5 Z F4⟩, Y⟩ (.moveM (env' := [(0, .c (.ptr 0 0 0)), (1, .c (.imm (.val (.int .u32 item)))), (2, .c (int key))]) (σ' := [.one (.cells 3 [[.own 4 0 l.length, .map 2, int time]]), .dead, .one (pmap 5 vU l5), .dead, .one (prow 5 l), pool 4 b9 l6]) 5 3 Z Z Z ⟨Z, Z, Z, Y⟩ Z ⟨(.one Z Z), .dead, (.one (i7 Z) (A5 Z Z (j6 fun _ => Z))), .dead, (.one (g8 Z) (A5 Z Z (e9 fun _ => Z))), (EntR.pool Z Z), Y⟩ ?_)
 refine AWP.q (.u (.j Z Z (.af Z Z Z (W.fieldAddr Z Z Z Z (.E Z Z Z Z Z Z (S.add Z Z Z (.af Z Z Z (W.fieldAddr Z Z Z Z (W.store Z Z Z Z Z (.nil (b6 (.q (.q (.u (.j Z Z (.af Z Z Z (W.fieldAddr Z Z Z Z (.E Z Z Z Z Z Z (.j Z Z (S.lookupOkP (fk := vU) (k := item) B0 Z Z Z Z Z (.j Z Z (.ac Z Z Z (.ac Z Z Z (.v Z Z (.v Z Z (.nil (b6 (.q (.u (.j Z Z (.nil (b6 (.ad Z h (fun hc60 h => ?_) (fun hc60 h => ?_))))))))))))))))))))))))))))))))))
 ·obtain ⟨ap61, hap61, h⟩ := bind_some h
  refine AWP.sub (s' := ⟨[(0, .c (.ptr 0 0 0)), (1, .c (.imm (.val (.int .u32 item)))), (2, .c (int key)), (6, .c (.ptr (5, [ap61.toNat]) 0 0)), (7, .c (bool (Option.isSome (mget l5 item)))), (9, .c (.ptr 0 0 0)), (10, .c (.ptr 0 0 0)), (11, .c (.ptr 0 0 2)), (12, .c (int time)), (13, .c (int (w64 (time + 1)))), (14, .c (.ptr 0 0 0)), (15, .c (.ptr 0 0 2)), (17, .c (.ptr 0 0 0)), (18, .c (.ptr 0 0 0)), (19, .c (.ptr 0 0 1)), (20, .c (.map 2)), (21, .c (.imm (.val (.int .u32 item)))), (23, .c (.ptr (5, [ap61.toNat]) 0 0)), (24, .c (bool (Option.isSome (mget l5 item)))), (25, .c (bool (Option.isSome (mget l5 item))))], [.one (.cells 3 [[.own 4 0 l.length, .map 2, int (w64 (time + 1))]]), .dead, .one (pmap 5 vU l5), .dead, .one (prow 5 l), pool 4 b9 l6]⟩) (Sub.env ⟨Z, Z, Z, (ad3 hap61), Z, Z, Z, Z, Z, Z, Z, Z, Z, Z, Z, Z, Z, (ad3 hap61), Z, Z, Y⟩) (.q ?_)
  obtain ⟨en62, hen62, h⟩ := bind_some h
  refine AWP.u (.j Z Z (.j Z Z (.j Z Z (.j Z Z (.af Z Z Z (W.fieldAddr Z Z Z Z (.E Z Z Z Z Z Z (S.nilCheckE Z Z (by simpa only [List.length_set] using e8 hen62) Z (S.fieldE Z Z Z (by simpa only [List.length_set] using e8 hen62) Z (S.storeE (e' := (⟨en62.item, key, en62.time, en62.fat⟩ : c8)) hen62 Z Z Z Z Z Z (S.nilCheckE Z Z (by simpa only [List.length_set] using e8 hen62) Z (S.fieldE Z Z Z (by simpa only [List.length_set] using e8 hen62) Z (S.storeE (e' := (⟨en62.item, key, w64 (time + 1), en62.fat⟩ : c8)) (P9 hen62) Z Z Z Z Z Z (.nil (b6 (.q ?_))))))))))))))))
  obtain ⟨a45, ha45, h⟩ := bind_some h
  refine AWP.drawEI [8] mixed Z Z Z ?_
  refine d5.consN Z Z (fun E => AOps.j Z Z .N) Z (.consN Z Z (fun E => AOps.af Z Z Z .N) Z (.consN Z Z (fun E => W.fieldAddr Z Z Z Z .N) Z (.consN Z Z (fun E => S.mkIfc Z Z Z .N) Z (.consN Z Z (fun E => AOps.j Z Z .N) Z (.consN Z Z (fun E => S.nilCheckE Z Z (by simpa only [List.length_set] using e8 hen62) Z .N) Z (.consN Z Z (fun E => S.fieldE Z Z Z (by simpa only [List.length_set] using e8 hen62) Z .N) Z (.consN Z Z (fun E => AOps.E Z Z (l9 Z (P9 (P9 hen62))) Z Z Z .N) Z ?_)))))))
  apply d5.consE; exact Z; exact Z; intro E
  refine AOps.callF (r2 := .tup []) (σ'' := [.one (.cells 3 [[.own 4 0 a45.1.length, .map 2, int (w64 (time + 1))]]), .dead, .one (pmap 5 vU l5), .dead, .one (prow 5 a45.1), pool 4 b9 a45.2]) Z Z Z (FnOk.lend [0, 4, 2, 5] (O7 ha45) Z Z Z Z Z Z (by exact ⟨(.one Z), (.one (g8 Z)), (.one (i7 Z)), (.any j8), Y⟩) Z (by exact ⟨(.live Z (.one Z)), (.live Z (.one (e9 fun _ => Z))), (.live Z (.one (j6 fun _ => Z))), (.live Z RenE.pool), Y⟩) Z Z (by exact ⟨(.new 0 Z Z (.one Z)), .dead, (.new 2 Z Z (.one (j6 fun _ => Z))), .dead, (.new 1 Z Z (.one (e9 fun _ => Z))), (.new 3 Z Z RenE.pool), Y⟩)) .N
  exact Z
  exact Z
  refine d5.done Z ?_ ?_
  ·refine c9.cons Z Z ?_ ?_
   refine b7.go Z Z (fun E => AOps.j Z Z .N) ?_
   refine b7.skip Z (b7.nil)
   refine c9.cons Z Z ?_ ?_
   refine b7.go Z Z (fun E => AOps.af Z Z Z .N) ?_
   refine b7.skip Z (b7.nil)
   refine c9.cons Z Z ?_ ?_
   refine b7.go Z Z (fun E => W.fieldAddr Z Z Z Z .N) ?_
   refine b7.skip Z (b7.nil)
   refine c9.cons Z Z ?_ ?_
   refine b7.go Z Z (fun E => S.mkIfc Z Z Z .N) ?_
   refine b7.skip Z (b7.nil)
   refine c9.cons Z Z ?_ ?_
   refine b7.go Z Z (fun E => AOps.j Z Z .N) ?_
   refine b7.skip Z (b7.nil)
   refine c9.cons Z Z ?_ ?_
   refine b7.go Z Z (fun E => S.nilCheckE Z Z (by simpa only [List.length_set] using e8 hen62) Z .N) ?_
   refine b7.skip Z (b7.nil)
   refine c9.cons Z Z ?_ ?_
   refine b7.go Z Z (fun E => S.fieldE Z Z Z (by simpa only [List.length_set] using e8 hen62) Z .N) ?_
   refine b7.skip Z (b7.nil)
   refine c9.cons Z Z ?_ ?_
   refine b7.go Z Z (fun E => AOps.E Z Z (l9 Z (P9 (P9 hen62))) Z Z Z .N) ?_
   refine b7.skip Z (b7.nil)
   refine c9.skip Z (c9.nil)
  dsimp only [i8]
  refine b6 (.ret (d9 ?_))
  obtain rfl := oi h
  exact ⟨⟨[], [.one (.cells 3 [[.own 4 0 a45.1.length, .map 2, int (w64 (time + 1))]]), .dead, .one (pmap 5 vU l5), .dead, .one (prow 5 a45.1), pool 4 b9 a45.2]⟩, Sub.env trivial, Done.ret Z ⟨Z, Z⟩⟩
 ·refine AWP.skip (b6 (.q ?_))
  obtain ⟨u63, hu63, u64, hu64, h⟩ := b2 h
  refine AWP.u (.j Z Z (.j Z Z (.j Z Z (.af Z Z Z (W.fieldAddr Z Z Z Z (.E Z Z Z Z Z Z (W.build Z Z Z Z (W.box Z Z Z Z Z Z (.sub (Sub.move (env' := [(0, .c (.ptr 0 0 0)), (1, .c (.imm (.val (.int .u32 item)))), (2, .c (int key)), (7, .c (bool (Option.isSome (mget l5 item)))), (9, .c (.ptr 0 0 0)), (10, .c (.ptr 0 0 0)), (11, .c (.ptr 0 0 2)), (12, .c (int time)), (13, .c (int (w64 (time + 1)))), (14, .c (.ptr 0 0 0)), (15, .c (.ptr 0 0 2)), (17, .c (.ptr 0 0 0)), (18, .c (.ptr 0 0 0)), (19, .c (.ptr 0 0 1)), (20, .c (.map 2)), (21, .c (.imm (.val (.int .u32 item)))), (24, .c (bool (Option.isSome (mget l5 item)))), (25, .c (bool (Option.isSome (mget l5 item)))), (46, .c (.imm (.val (.int .u32 item)))), (47, .c (int key)), (48, .c (.ptr 0 0 0)), (49, .c (.ptr 0 0 0)), (50, .c (.ptr 0 0 2)), (51, .c (int (w64 (time + 1)))), (52, .agg [.imm (.val (.int .u32 item)), int key, int (w64 (time + 1)), int 0]), (53, .c (.ptr (5, [(l6.length : Int).toNat]) 0 0))]) (σ' := [.one (.cells 3 [[.own 4 0 l.length, .map 2, int (w64 (time + 1))]]), .dead, .one (pmap 5 vU l5), .dead, .one (prow 5 l), pool 4 b9 (l6 ++ [(⟨item, key, w64 (time + 1), 0⟩ : c8)])]) (5, [l6.length]) (6, []) Z Z Z ⟨Z, Z, Z, Z, Z, Z, Z, Z, Z, Z, Z, Z, Z, Z, Z, Z, Z, Z, Z, Z, Z, Z, Z, Z, Z, ptr_adopt, Y⟩ Z ⟨⟨Z, Z⟩, trivial, ⟨i7 Z, S7 Z (pmap_adopt hu63) W2⟩, trivial, ⟨g8 Z, S7 Z (prow_adopt hu64) W2⟩, (n9.adopt Z Z), Y⟩) (.v Z Z (.nil (b6 (.q (.u (.j Z Z (.af Z Z Z (W.fieldAddr Z Z Z Z (.E Z Z Z Z Z Z (.j Z Z (.j Z Z (S.mapUpdateP (fk := vU) (k := item) (a := (l6.length : Int)) B0 Z Z Z Z Z (.nil (b6 ?_)))))))))))))))))))))))
  obtain ⟨a66, ha66, h⟩ := bind_some h
  refine AWP.u (.j Z Z (.af Z Z Z (W.fieldAddr Z Z Z Z (S.mkIfc Z Z Z (.j Z Z (S.mkIfc Z Z Z (.callF (r2 := .tup []) (σ'' := [.one (.cells 3 [[.own 8 0 a66.2.length, .map 2, int (w64 (time + 1))]]), .dead, .one (pmap 5 vU (mset l5 item (l6.length : Int))), .dead, .dead, pool 4 b9 a66.1, .dead, .dead, .one (prow 5 a66.2)]) Z Z Z (FnOk.lend [0, 5, 4, 2] (M5 ha66) Z Z Z Z Z Z (by exact ⟨(.one Z), (.any j8), (.one (g8 Z)), (.one (i7 Z)), Y⟩) Z (by exact ⟨(.live Z (.one Z)), (.live Z RenE.pool), (.live Z (.one (e9 fun _ => Z))), (.live Z (.one (j6 fun _ => Z))), Y⟩) Z Z (by exact ⟨(.new 0 Z Z (.one Z)), .dead, (.new 3 Z Z (.one (j6 fun _ => Z))), .dead, .dead, (.new 1 Z Z RenE.pool), .dead, .dead, (.new 6 Z Z (.one (e9 fun _ => Z))), Y⟩)) (.nil ?_))))))))
  obtain rfl := oi h
  exact ⟨⟨[], [.one (.cells 3 [[.own 4 0 a66.2.length, .map 2, int (w64 (time + 1))]]), .dead, .one (pmap 5 vU (mset l5 item (l6.length : Int))), .dead, .one (prow 5 a66.2), pool 4 b9 a66.1]⟩, (Sub.move (env' := []) (σ' := [.one (.cells 3 [[.own 4 0 a66.2.length, .map 2, int (w64 (time + 1))]]), .dead, .one (pmap 5 vU (mset l5 item (l6.length : Int))), .dead, .one (prow 5 a66.2), pool 4 b9 a66.1, .dead, .dead]) 4 8 Z Z Z trivial Z ⟨⟨Z, Z⟩, trivial, ⟨i7 Z, s5 Z F5⟩, trivial, ⟨g8 Z, s5 Z F4⟩, (n9.pool Z), trivial, trivial, Y⟩).trans (Sub.cut trivial Z ⟨.one Z, .dead, (.one (i7 Z)), .dead, (.one (g8 Z)), (.any j8), Y⟩ Z), Done.normal Z ⟨Z, Z⟩⟩
theorem aj1 {l : List Int} {start : Int} {goal : Int} {l4 : List h9} {r : (List (Int × Int))} (h : J0 l start goal l4 = some r) : FnOk prog 41 [.c (.ptr 0 0 0), .c (row 1 eU32 l)] (I6 l start goal l4) (fun tt ss => tt = .c (.map 4) ∧ ss = [.one (.cells 3 [(wW start goal 1 l4.length)]), .one (vec 4 d4 l4), .dead, .dead, .one (mapB vU vI r)]) := by
 refine FnOk.enter (rs := [.t 4]) func41 Z ntmps41 results41 Z ⟨trivial, Y⟩ (by kernel_rfl) Z ?_
 refine AWP.weak ?_
 unfold J0 at h
 refine AWP.q (.u (.v Z Z (.nil (b6 (.q (.u (W.makeMapM 2 2 vU i4 Z Z Z (W.alloc Z Z Z Z (W.store Z Z Z Z Z (.nil (b6 (.q (.u (W.makeMap vU vI Z Z Z (.v Z Z (.nil (b6 (.q ?_))))))))))))))))))
 obtain ⟨a18, ha18, h⟩ := bind_some h
 refine AWP.u (.callF (r2 := .c (.ptr 7 0 0)) (σ'' := [.one (.cells 3 [(wW start goal 1 l4.length)]), .one (vec 4 d4 l4), mmap 2 2 vU i4 ([] : List (Int × List o8)), .one (.cells 1 [[.map 2]]), .one (mapB vU vI ([] : List (Int × Int))), .one (pmap 6 vU ([] : List (Int × Int))), pool 4 b9 ([] : List c8), .one (.cells 3 [[.own 8 0 (([] : List Int).length), .map 5, int 0]]), .one (prow 6 ([] : List Int))]) Z Z Z (FnOk.lend [] (ab9 ha18) Z Z Z Z Z Z (by exact trivial) Z (by exact trivial) Z Z (by exact ⟨(.old Z Z Z), (.old Z Z Z), (.old Z Z Z), (.old Z Z Z), (.old Z Z Z), (.new 0 Z Z (.one (j6 fun _ => Z))), (.new 1 Z Z RenE.pool), (.new 2 Z Z (.one Z)), (.new 3 Z Z (.one (e9 fun _ => Z))), Y⟩)) (.v Z Z (.nil (b6 (.q (.q (.u (.j Z Z (S.len Z Z (fun hl20 => .j Z Z (.nil (b6 (.aa ?_)))))))))))))
 obtain ⟨⟨c56, c57, c58, c59, c60, c61⟩, ho1, h⟩ := bind_some h
 try dsimp only at h
 refine AWP.forS ho1 (fun t62 (c56, c57, c58, c59, c60, c61) => ⟨[(0, .c (.ptr 0 0 0)), (5, .c (.ptr 3 0 0)), (6, .c (.map 4)), (7, .c (.ptr 7 0 0)), (19, .c (row 1 eU32 l)), (20, .c (int (l.length : Int))), (21, .c (int t62))], [.one (.cells 3 [(wW start goal 1 l4.length)]), .one (vec 4 d4 l4), mmap 2 2 vU i4 c56, .one (.cells 1 [[.map 2]]), .one (mapB vU vI c57), .one (pmap 6 vU c58), pool 4 b9 c59, .one (.cells 3 [[.own 8 0 c61.length, .map 5, int c60]]), .one (prow 6 c61)]⟩) (fun (c56, c57, c58, c59, c60, c61) e st => e = .exit 0 ∧ Sub (I6 l start goal l4) st ⟨[(5, .c (.ptr 3 0 0)), (6, .c (.map 4)), (7, .c (.ptr 7 0 0))], [.one (.cells 3 [(wW start goal 1 l4.length)]), .one (vec 4 d4 l4), mmap 2 2 vU i4 c56, .one (.cells 1 [[.map 2]]), .one (mapB vU vI c57), .one (pmap 6 vU c58), pool 4 b9 c59, .one (.cells 3 [[.own 8 0 c61.length, .map 5, int c60]]), .one (prow 6 c61)]⟩) ?_ ?_ ?_ ?_
 ·try dsimp only
  exact Sub.env ⟨Z, Z, Z, Z, Z, Z, Z, Y⟩
 ·intro t62 s hlot62 hltt62 _
  obtain ⟨c56, c57, c58, c59, c60, c61⟩ := s
  try dsimp only
  refine AWP.q (.u (.F Z Z Z (.nil (b6 (.q (.ah Z hltt62 (.exit (f5 (f5 ⟨Z, ?_⟩)))))))))
  exact Sub.env ⟨Z, Z, Z, Y⟩
 ·intro t62 s o hlot62 hltt62 h
  obtain ⟨c56, c57, c58, c59, c60, c61⟩ := s
  unfold D9 at h
  try dsimp only at h ⊢
  refine AWP.q (.u (.F Z Z Z (.nil (b6 (.q (.ai Z hltt62 (.skip (b6 (.q (.aa (.q ?_)))))))))))
  obtain ⟨a23, ha23, h⟩ := bind_some h
  refine AWP.u (S.idx ha23 Z Z Z Z (.ag Z Z Z Z (W.alloc Z Z Z Z (W.store Z Z Z Z Z (.nil (b6 (.q (.u (.j Z Z (.E Z Z Z Z Z Z (W.mapUpdate (fk := vU) (fv := vI) (k := a23) (a := 1000000000) B0 Z Z Z Z Z (.nil (b6 ?_)))))))))))))
  obtain ⟨⟨c63, c64, c65, c66, c67⟩, hx68, h⟩ := bind_some h
  refine AWP.seqJ (⟨[(0, .c (.ptr 0 0 0)), (5, .c (.ptr 3 0 0)), (6, .c (.map 4)), (7, .c (.ptr 7 0 0)), (9, .c (.ptr 9 0 0)), (19, .c (row 1 eU32 l)), (20, .c (int (l.length : Int))), (21, .c (int t62))], [.one (.cells 3 [(wW start goal 1 l4.length)]), .one (vec 4 d4 l4), mmap 2 2 vU i4 c56, .one (.cells 1 [[.map 2]]), .one (mapB vU vI c63), .one (pmap 11 vU c64), .dead, .one (.cells 3 [[.own 10 0 c66.length, .map 5, int c65]]), .dead, .one (.cells 1 [[.imm (.val (.int .u32 a23))]]), .one (prow 11 c66), pool 4 b9 c67]⟩) ?_ ?_
  ·refine AWP.q ?_
   obtain ⟨a29, ha29, hx68⟩ := bind_some hx68
   refine AWP.u (.j Z Z (.E Z Z Z Z Z Z (.callF (r2 := .c (bool (decide (Go.bits .and .u32 a23 goal = goal)))) (σ'' := [.one (.cells 3 [(wW start goal 1 l4.length)]), .one (vec 4 d4 l4), mmap 2 2 vU i4 c56, .one (.cells 1 [[.map 2]]), .one (mapB vU vI (mset c57 a23 1000000000)), .one (pmap 6 vU c58), pool 4 b9 c59, .one (.cells 3 [[.own 8 0 c61.length, .map 5, int c60]]), .one (prow 6 c61), .one (.cells 1 [[.imm (.val (.int .u32 a23))]])]) Z Z Z (FnOk.lend [0, 1] (ae3 ha29) Z Z Z Z Z Z (by exact ⟨(.one Z), .vec, Y⟩) Z (by exact ⟨(.live Z (.one Z)), (.live Z .vec), Y⟩) Z Z (by exact ⟨(.new 0 Z Z (.one Z)), (.new 1 Z Z .vec), (.old Z Z Z), (.old Z Z Z), (.old Z Z Z), (.old Z Z Z), (.old Z Z Z), (.old Z Z Z), (.old Z Z Z), (.old Z Z Z), Y⟩)) (.nil (b6 (.ite Z hx68 (fun hc69 hx68 => ?_) (fun hc69 hx68 => ?_)))))))
   ·refine AWP.q (.u (.j Z Z (.E Z Z Z Z Z Z (W.mapUpdate (fk := vU) (fv := vI) (k := a23) (a := 0) B0 Z Z Z Z Z (.nil (b6 ?_))))))
    obtain ⟨a34, ha34, hx68⟩ := bind_some hx68
    refine AWP.u (.j Z Z (.E Z Z Z Z Z Z (.callF (r2 := .tup []) (σ'' := [.one (.cells 3 [(wW start goal 1 l4.length)]), .one (vec 4 d4 l4), mmap 2 2 vU i4 c56, .one (.cells 1 [[.map 2]]), .one (mapB vU vI (mset (mset c57 a23 1000000000) a23 0)), .one (pmap 11 vU a34.1), .dead, .one (.cells 3 [[.own 10 0 a34.2.1.length, .map 5, int (w64 (c60 + 1))]]), .dead, .one (.cells 1 [[.imm (.val (.int .u32 a23))]]), .one (prow 11 a34.2.1), pool 4 b9 a34.2.2]) Z Z Z (FnOk.lend [7, 8, 5, 6] (T5 ha34) Z Z Z Z Z Z (by exact ⟨(.one Z), (.one (g8 Z)), (.one (i7 Z)), (.any j8), Y⟩) Z (by exact ⟨(.live Z (.one Z)), (.live Z (.one (e9 fun _ => Z))), (.live Z (.one (j6 fun _ => Z))), (.live Z RenE.pool), Y⟩) Z Z (by exact ⟨(.old Z Z Z), (.old Z Z Z), (.old Z Z Z), (.old Z Z Z), (.old Z Z Z), (.new 2 Z Z (.one (j6 fun _ => Z))), .dead, (.new 0 Z Z (.one Z)), .dead, (.old Z Z Z), (.new 4 Z Z (.one (e9 fun _ => Z))), (.new 5 Z Z RenE.pool), Y⟩)) (.nil ?_))))
    have ej := Option.some.inj hx68
    simp only [Prod.mk.injEq] at ej
    obtain ⟨ej0, ej1, ej2, ej3, ej4⟩ := ej
    subst ej0
    subst ej1
    subst ej2
    subst ej3
    subst ej4
    refine b6 (Sub.env ⟨Z, Z, Z, Z, Z, Z, Z, Z, Y⟩)
   ·refine AWP.skip ?_
    have ej := Option.some.inj hx68
    simp only [Prod.mk.injEq] at ej
    obtain ⟨ej0, ej1, ej2, ej3, ej4⟩ := ej
    subst ej0
    subst ej1
    subst ej2
    subst ej3
    subst ej4
    refine b6 ((Sub.move (env' := [(0, .c (.ptr 0 0 0)), (5, .c (.ptr 3 0 0)), (6, .c (.map 4)), (7, .c (.ptr 7 0 0)), (9, .c (.ptr 9 0 0)), (19, .c (row 1 eU32 l)), (20, .c (int (l.length : Int))), (21, .c (int t62))]) (σ' := [.one (.cells 3 [(wW start goal 1 l4.length)]), .one (vec 4 d4 l4), mmap 2 2 vU i4 c56, .one (.cells 1 [[.map 2]]), .one (mapB vU vI (mset c57 a23 1000000000)), .one (pmap 6 vU c58), pool 4 b9 c59, .one (.cells 3 [[.own 10 0 c61.length, .map 5, int c60]]), .dead, .one (.cells 1 [[.imm (.val (.int .u32 a23))]]), .one (prow 6 c61)]) 10 8 Z Z Z ⟨Z, Z, Z, Z, Z, Z, Z, Z, Y⟩ Z ⟨⟨Z, Z⟩, ⟨Blk.im_ok _ _ _, j5 Z⟩, (n9.mmap Z Z Z), ⟨Z, Z⟩, ⟨Z, Z⟩, ⟨i7 Z, s5 Z F5⟩, (n9.pool Z), ⟨Z, Z⟩, trivial, ⟨Z, Z⟩, ⟨g8 Z, s5 Z F4⟩, Y⟩).trans ((Sub.moveM (env' := [(0, .c (.ptr 0 0 0)), (5, .c (.ptr 3 0 0)), (6, .c (.map 4)), (7, .c (.ptr 7 0 0)), (9, .c (.ptr 9 0 0)), (19, .c (row 1 eU32 l)), (20, .c (int (l.length : Int))), (21, .c (int t62))]) (σ' := [.one (.cells 3 [(wW start goal 1 l4.length)]), .one (vec 4 d4 l4), mmap 2 2 vU i4 c56, .one (.cells 1 [[.map 2]]), .one (mapB vU vI (mset c57 a23 1000000000)), .one (pmap 11 vU c58), .dead, .one (.cells 3 [[.own 10 0 c61.length, .map 5, int c60]]), .dead, .one (.cells 1 [[.imm (.val (.int .u32 a23))]]), .one (prow 11 c61), pool 4 b9 c59]) 11 6 Z Z Z ⟨Z, Z, Z, Z, Z, Z, Z, Z, Y⟩ Z ⟨(.one Z Z), (.vec Z), (EntR.mmap Z Z Z), (.one Z Z), (.one Z Z), (.one (i7 Z) (A5 Z Z (j6 fun _ => Z))), .dead, (.one Z Z), .dead, (.one Z Z), (.one (g8 Z) (A5 Z Z (e9 fun _ => Z))), (EntR.pool Z Z), Y⟩).trans (Sub.env ⟨Z, Z, Z, Z, Z, Z, Z, Z, Y⟩)))
  ·try dsimp only at h
   refine AWP.q ?_
   obtain ⟨a37, ha37, h⟩ := bind_some h
   refine AWP.u (.j Z Z (.E Z Z Z Z Z Z (.callF (r2 := .c (.fn 77 [.ptr 12 0 0, .ptr 13 0 0])) (σ'' := [.one (.cells 3 [(wW start goal 1 l4.length)]), .one (vec 4 d4 l4), mmap 2 2 vU i4 c56, .one (.cells 1 [[.map 2]]), .one (mapB vU vI c63), .one (pmap 11 vU c64), .dead, .one (.cells 3 [[.own 10 0 c66.length, .map 5, int c65]]), .dead, .one (.cells 1 [[.imm (.val (.int .u32 a23))]]), .one (prow 11 c66), pool 4 b9 c67, .one (.cells 1 [[.ptr 0 0 0]]), .one (.cells 1 [[.imm (.val (.int .u32 a23))]])]) Z Z Z (FnOk.lend [0, 1] (P2 ha37) Z Z Z Z Z Z (by exact ⟨(.one Z), .vec, Y⟩) Z (by exact ⟨(.live Z (.one Z)), (.live Z .vec), Y⟩) Z Z (by exact ⟨(.new 0 Z Z (.one Z)), (.new 1 Z Z .vec), (.old Z Z Z), (.old Z Z Z), (.old Z Z Z), (.old Z Z Z), .dead, (.old Z Z Z), .dead, (.old Z Z Z), (.old Z Z Z), (.old Z Z Z), (.new 2 Z Z (.one Z)), (.new 3 Z Z (.one Z)), Y⟩)) (.nil (b6 (.aa ?_))))))
   obtain ⟨c71, hr70, h⟩ := bind_some h
   refine AWP.rangeB [(5, none), (9, none)] Z Z Z (fun as70 bo70 hA70 hB70 => ⟨[.one (.cells 3 [(wW start goal 1 l4.length)]), .one (vec 4 d4 l4), mmap 2 2 vU i4 c56, .one (.cells 1 [[.map 2]]), .one (mapB vU vI c63), .one (pmap 11 vU c64), .dead, .one (.cells 3 [[.own 10 0 c66.length, .map 5, int c65]]), .dead, .one (.cells 1 [[.imm (.val (.int .u32 a23))]]), .one (prow 11 c66), pool 4 b9 c67, .one (.cells 1 [[.ptr 0 0 0]]), .one (.cells 1 [[.imm (.val (.int .u32 a23))]]), .one (o6 96 [38] as70 bo70 .ready none [(5, none), (9, none)] [.ptr 3 0 0, .ptr 9 0 0])], fun tt ss => tt = .tup [] ∧ ss = [.one (.cells 3 [(wW start goal 1 l4.length)]), .one (vec 4 d4 l4), .dead, .one (.cells 1 [[.map 15]]), .one (mapB vU vI c63), .one (pmap 11 vU c64), .dead, .one (.cells 3 [[.own 10 0 c66.length, .map 5, int c65]]), .dead, .one (.cells 1 [[.imm (.val (.int .u32 a23))]]), .one (prow 11 c66), pool 4 b9 c67, .one (.cells 1 [[.ptr 0 0 0]]), .one (.cells 1 [[.imm (.val (.int .u32 a23))]]), .one (o6 96 [38] as70 bo70 .ready none [(5, none), (9, none)] [.ptr 3 0 0, .ptr 9 0 0]), mmap 15 2 vU i4 c71], Z, ?_, ?_⟩)
   ·refine FnOk.enter (rs := []) func77 Z ntmps77 results77 Z trivial (by kernel_rfl) Z ?_
    refine AWP.weak ?_
    unfold I4 at hr70
    try dsimp only at hr70
    refine AWP.moveM (env' := [(0, .c (.yld 14)), (1, .c (.ptr 12 0 0)), (2, .c (.ptr 13 0 0))]) (σ' := [.one (.cells 3 [(wW start goal 1 l4.length)]), .one (vec 4 d4 l4), .dead, .one (.cells 1 [[.map 15]]), .one (mapB vU vI c63), .one (pmap 11 vU c64), .dead, .one (.cells 3 [[.own 10 0 c66.length, .map 5, int c65]]), .dead, .one (.cells 1 [[.imm (.val (.int .u32 a23))]]), .one (prow 11 c66), pool 4 b9 c67, .one (.cells 1 [[.ptr 0 0 0]]), .one (.cells 1 [[.imm (.val (.int .u32 a23))]]), .one (o6 96 [38] as70 bo70 .ready none [(5, none), (9, none)] [.ptr 3 0 0, .ptr 9 0 0]), mmap 15 2 vU i4 c56]) 15 2 Z Z Z ⟨Z, Z, Z, Y⟩ Z ⟨(.one Z Z), (.vec Z), .dead, (.one Z Z), (.one Z Z), (.one (i7 Z) (A5 Z Z (j6 fun _ => Z))), .dead, (.one Z Z), .dead, (.one Z Z), (.one (g8 Z) (A5 Z Z (e9 fun _ => Z))), (EntR.pool Z Z), (.one Z Z), (.one Z Z), (.one Z Z), (EntR.mmap Z Z Z), Y⟩ ?_
    refine AWP.q (.u (.E Z Z Z Z Z Z (.af Z Z Z (W.fieldAddr Z Z Z Z (.E Z Z Z Z Z Z (S.lenO Z Z Z (fun hl10 => .j Z Z (.nil (b6 (.aa ?_))))))))))
    obtain ⟨c72, ho2, hr70⟩ := bind_some hr70
    refine AWP.forS ho2 (fun t73 c72 => ⟨[(0, .c (.yld 14)), (2, .c (.ptr 13 0 0)), (9, .c (.own 1 0 l4.length)), (10, .c (int (l4.length : Int))), (11, .c (int t73))], [.one (.cells 3 [(wW start goal 1 l4.length)]), .one (vec 4 d4 l4), .dead, .one (.cells 1 [[.map 15]]), .one (mapB vU vI c63), .one (pmap 11 vU c64), .dead, .one (.cells 3 [[.own 10 0 c66.length, .map 5, int c65]]), .dead, .one (.cells 1 [[.imm (.val (.int .u32 a23))]]), .one (prow 11 c66), pool 4 b9 c67, .one (.cells 1 [[.ptr 0 0 0]]), .one (.cells 1 [[.imm (.val (.int .u32 a23))]]), .one (o6 96 [38] as70 bo70 .ready none [(5, none), (9, none)] [.ptr 3 0 0, .ptr 9 0 0]), mmap 15 2 vU i4 c72]⟩) (fun c72 e st => e = .exit 0 ∧ Sub ([.one (.cells 3 [(wW start goal 1 l4.length)]), .one (vec 4 d4 l4), mmap 2 2 vU i4 c56, .one (.cells 1 [[.map 2]]), .one (mapB vU vI c63), .one (pmap 11 vU c64), .dead, .one (.cells 3 [[.own 10 0 c66.length, .map 5, int c65]]), .dead, .one (.cells 1 [[.imm (.val (.int .u32 a23))]]), .one (prow 11 c66), pool 4 b9 c67, .one (.cells 1 [[.ptr 0 0 0]]), .one (.cells 1 [[.imm (.val (.int .u32 a23))]]), .one (o6 96 [38] as70 bo70 .ready none [(5, none), (9, none)] [.ptr 3 0 0, .ptr 9 0 0])] : b8) st ⟨[], [.one (.cells 3 [(wW start goal 1 l4.length)]), .one (vec 4 d4 l4), .dead, .one (.cells 1 [[.map 15]]), .one (mapB vU vI c63), .one (pmap 11 vU c64), .dead, .one (.cells 3 [[.own 10 0 c66.length, .map 5, int c65]]), .dead, .one (.cells 1 [[.imm (.val (.int .u32 a23))]]), .one (prow 11 c66), pool 4 b9 c67, .one (.cells 1 [[.ptr 0 0 0]]), .one (.cells 1 [[.imm (.val (.int .u32 a23))]]), .one (o6 96 [38] as70 bo70 .ready none [(5, none), (9, none)] [.ptr 3 0 0, .ptr 9 0 0]), mmap 15 2 vU i4 c72]⟩) ?_ ?_ ?_ ?_
    ·try dsimp only
     exact Sub.env ⟨Z, Z, Z, Z, Z, Y⟩
    ·intro t73 c72 hlot73 hltt73 _
     try dsimp only
     refine AWP.q (.u (.F Z Z Z (.nil (b6 (.q (.ah Z hltt73 (.exit (f5 (f5 ⟨Z, ?_⟩)))))))))
     exact Sub.env trivial
    ·intro t73 c72 o hlot73 hltt73 h
     unfold I5 at h
     try dsimp only at h ⊢
     refine AWP.q (.u (.F Z Z Z (.nil (b6 (.q (.ai Z hltt73 (.skip (b6 (.q (.aa (.q ?_)))))))))))
     obtain ⟨ai14, hai14, h⟩ := bind_some h
     refine AWP.u (.j Z Z (S.idxO hai14 Z Z Z Z Z (S.loadOAgg hai14 Z Z Z Z Z Z Z (W.alloc Z Z Z Z (.v Z Z (W.storeAgg Z Z Z Z Z Z Z (.nil (b6 (.q ?_)))))))))
     rcases bft (decide (Go.bits .and .u32 a23 ai14.pre = ai14.pre)) with hb74 | hb74
     ·replace h := L8 hb74 h
      refine AWP.u (.E Z Z Z Z Z Z (W.fieldAddr Z Z Z Z (.E Z Z Z Z Z Z (.bits Z Z Z (by simp) (W.fieldAddr Z Z Z Z (.E Z Z Z Z Z Z (.ab Z Z Z (.j Z Z (.z Z Z Z hb74 (.j Z Z (.z Z Z Z hb74 (.j Z Z (.z Z Z Z hb74 (W.fieldAddr Z Z Z Z (.z Z Z Z hb74 (.E Z Z Z Z Z Z (.z Z Z Z hb74 (.E Z Z Z Z Z Z (.z Z Z Z hb74 (W.fieldAddr Z Z Z Z (.z Z Z Z hb74 (.E Z Z Z Z Z Z (.z Z Z Z hb74 (.bits Z Z Z (by simp) (.z Z Z Z hb74 (W.fieldAddr Z Z Z Z (.z Z Z Z hb74 (.E Z Z Z Z Z Z (.z Z Z Z hb74 (.bits Z Z Z (by simp) (.z Z Z Z hb74 (W.build Z Z Z Z ?_))))))))))))))))))))))))))))))))
      refine AOps.z Z Z Z hb74 ?_; refine AOps.yieldB (E1 := [(10, .c (.ptr 17 0 0)), (38, .agg [int t73, int ai14.cost, .imm (.val (.int .u32 (Go.bits .or .u32 (Go.bits .andNot .u32 a23 ai14.del) ai14.add)))]), (5, .c (.ptr 3 0 0)), (9, .c (.ptr 9 0 0))]) (σ1 := [.one (.cells 3 [(wW start goal 1 l4.length)]), .one (vec 4 d4 l4), .dead, .one (.cells 1 [[.map 15]]), .one (mapB vU vI c63), .one (pmap 11 vU c64), .dead, .one (.cells 3 [[.own 10 0 c66.length, .map 5, int c65]]), .dead, .one (.cells 1 [[.imm (.val (.int .u32 a23))]]), .one (prow 11 c66), pool 4 b9 c67, .one (.cells 1 [[.ptr 0 0 0]]), .one (.cells 1 [[.imm (.val (.int .u32 a23))]]), .one (o6 96 [38] as70 bo70 .ready none [(5, none), (9, none)] [.ptr 3 0 0, .ptr 9 0 0]), mmap 15 2 vU i4 c72, .one (.cells 4 [[.imm (.val (.int .u32 ai14.pre)), .imm (.val (.int .u32 ai14.add)), .imm (.val (.int .u32 ai14.del)), int ai14.cost]]), .one (.cells 3 [[int t73, int ai14.cost, .imm (.val (.int .u32 (Go.bits .or .u32 (Go.bits .andNot .u32 a23 ai14.del) ai14.add)))]])]) hA70 hB70 Z Z Z Z Z Z Z Z Z Z ?_ ?_
      ·refine AWP.u (W.alloc Z Z Z Z (W.storeAgg Z Z Z Z Z Z Z (.nil ?_)))
       exact ⟨Z, Z⟩
      refine AWP.sub (s' := ⟨[(5, .c (.ptr 3 0 0)), (9, .c (.ptr 9 0 0)), (10, .c (.ptr 17 0 0))], [.one (.cells 3 [(wW start goal 1 l4.length)]), .one (vec 4 d4 l4), .dead, .one (.cells 1 [[.map 15]]), .one (mapB vU vI c63), .one (pmap 11 vU c64), .dead, .one (.cells 3 [[.own 10 0 c66.length, .map 5, int c65]]), .dead, .one (.cells 1 [[.imm (.val (.int .u32 a23))]]), .one (prow 11 c66), pool 4 b9 c67, .one (.cells 1 [[.ptr 0 0 0]]), .one (.cells 1 [[.imm (.val (.int .u32 a23))]]), .one (o6 96 [38] as70 bo70 .busy none [(5, none), (9, none)] [.ptr 3 0 0, .ptr 9 0 0]), mmap 15 2 vU i4 c72, .one (.cells 4 [[.imm (.val (.int .u32 ai14.pre)), .imm (.val (.int .u32 ai14.add)), .imm (.val (.int .u32 ai14.del)), int ai14.cost]]), .one (.cells 3 [[int t73, int ai14.cost, .imm (.val (.int .u32 (Go.bits .or .u32 (Go.bits .andNot .u32 a23 ai14.del) ai14.add)))]])]⟩) (Sub.env ⟨Z, Z, Z, Y⟩) (.aa ?_)
      obtain ⟨ab51, hab51, h⟩ := bind_some h
      refine AWP.drawEI [11, 12, 13] mixed Z Z Z ?_
      refine d5.consN Z Z (fun E => AOps.E Z Z Z Z Z Z .N) Z (.consN Z Z (fun E => W.fieldAddr Z Z Z Z .N) Z (.consN Z Z (fun E => AOps.E Z Z Z Z Z Z .N) Z (.consN Z Z (fun E => AOps.E Z Z Z Z Z Z .N) Z (.consN Z Z (fun E => W.fieldAddr Z Z Z Z .N) Z (.consN Z Z (fun E => AOps.E Z Z Z Z Z Z .N) Z (.consN Z Z (fun E => S.lookupM (fk := vU) (key := Go.bits .or .u32 (Go.bits .andNot .u32 a23 ai14.del) ai14.add) B0 Z Z Z Z Z .N) Z (.consN Z Z (fun E => AOps.E Z Z Z Z Z Z .N) Z (.consN Z Z (fun E => W.fieldAddr Z Z Z Z .N) Z (.consN Z Z (fun E => AOps.E Z Z Z Z Z Z .N) Z (.consN Z Z (fun E => W.build Z Z Z Z .N) Z ?_))))))))))
      apply d5.consE; exact Z; exact Z; intro E
      refine S.lit (f := i4) (l := [(⟨a23, ai14.cost⟩ : o8)]) (ess := [[.imm (.val (.int .u32 a23)), int ai14.cost]]) Z Z Z Z Z Z Z ⟨⟨.inl Z, .inl Z, Y⟩, Y⟩ Z Z Z .N
      exact Z
      exact Z
      apply d5.consE; exact Z; exact Z; intro E
      refine S.appendMM (f := i4) hab51 Z Z Z Z Z (.own Z Z) Z Z Z Z .N
      exact Z
      exact Z
      apply d5.consE (v := .undef); exact Z; exact Z; intro E
      refine S.updateMM (fk := vU) (key := Go.bits .or .u32 (Go.bits .andNot .u32 a23 ai14.del) ai14.add) B0 Z Z Z Z Z .N
      exact Z
      exact Z
      refine d5.done Z ?_ ?_
      ·refine c9.cons Z Z ?_ ?_
       refine b7.go Z Z (fun E => AOps.E Z Z Z Z Z Z .N) ?_
       refine b7.go Z Z (fun E => AOps.E Z Z Z Z Z Z .N) ?_
       refine b7.go Z Z (fun E => AOps.E Z Z Z Z Z Z .N) ?_
       refine b7.skip Z (b7.nil)
       refine c9.cons Z Z ?_ ?_
       refine b7.go Z Z (fun E => W.fieldAddr Z Z Z Z .N) ?_
       refine b7.go Z Z (fun E => W.fieldAddr Z Z Z Z .N) ?_
       refine b7.go Z Z (fun E => W.fieldAddr Z Z Z Z .N) ?_
       refine b7.skip Z (b7.nil)
       refine c9.cons Z Z ?_ ?_
       refine b7.go Z Z (fun E => AOps.E Z Z Z Z Z Z .N) ?_
       refine b7.go Z Z (fun E => AOps.E Z Z Z Z Z Z .N) ?_
       refine b7.go Z Z (fun E => AOps.E Z Z Z Z Z Z .N) ?_
       refine b7.skip Z (b7.nil)
       refine c9.cons Z Z ?_ ?_
       refine b7.go Z Z (fun E => AOps.E Z Z Z Z Z Z .N) ?_
       refine b7.go Z Z (fun E => AOps.E Z Z Z Z Z Z .N) ?_
       refine b7.skip Z (b7.skip Z (b7.nil))
       refine c9.cons Z Z ?_ ?_
       refine b7.go Z Z (fun E => W.fieldAddr Z Z Z Z .N) ?_
       refine b7.go Z Z (fun E => W.fieldAddr Z Z Z Z .N) ?_
       refine b7.skip Z (b7.skip Z (b7.nil))
       refine c9.cons Z Z ?_ ?_
       refine b7.go Z Z (fun E => AOps.E Z Z Z Z Z Z .N) ?_
       refine b7.go Z Z (fun E => AOps.E Z Z Z Z Z Z .N) ?_
       refine b7.skip Z (b7.skip Z (b7.nil))
       refine c9.cons Z Z ?_ ?_
       refine b7.go Z Z (fun E => S.lookupM (fk := vU) (key := Go.bits .or .u32 (Go.bits .andNot .u32 a23 ai14.del) ai14.add) B0 Z Z Z Z Z .N) ?_
       refine b7.go Z Z (fun E => S.lookupM (fk := vU) (key := Go.bits .or .u32 (Go.bits .andNot .u32 a23 ai14.del) ai14.add) B0 Z Z Z Z Z .N) ?_
       refine b7.skip Z (b7.skip Z (b7.nil))
       refine c9.cons Z Z ?_ ?_
       refine b7.go Z Z (fun E => AOps.E Z Z Z Z Z Z .N) ?_
       refine b7.skip Z (b7.skip Z (b7.skip Z (b7.nil)))
       refine c9.cons Z Z ?_ ?_
       refine b7.go Z Z (fun E => W.fieldAddr Z Z Z Z .N) ?_
       refine b7.skip Z (b7.skip Z (b7.skip Z (b7.nil)))
       refine c9.cons Z Z ?_ ?_
       refine b7.go Z Z (fun E => AOps.E Z Z Z Z Z Z .N) ?_
       refine b7.skip Z (b7.skip Z (b7.skip Z (b7.nil)))
       refine c9.cons Z Z ?_ ?_
       refine b7.go Z Z (fun E => W.build Z Z Z Z .N) ?_
       refine b7.skip Z (b7.skip Z (b7.skip Z (b7.nil)))
       refine c9.skip Z (c9.skip Z (c9.skip Z (c9.nil)))
      dsimp only [i8]
      refine g9 (ac3 Z Z (.z Z Z Z hb74 (.not Z Z (.O Z hb74 Z Z (.nil (b6 (.j (env' := [(0, .c (.yld 14)), (2, .c (.ptr 13 0 0)), (9, .c (.own 1 0 l4.length)), (10, .c (int (l4.length : Int))), (11, .c (int t73)), (38, .c (bool false))]) (σ' := [.one (.cells 3 [(wW start goal 1 l4.length)]), .one (vec 4 d4 l4), .dead, .one (.cells 1 [[.map 15]]), .one (mapB vU vI c63), .one (pmap 11 vU c64), .dead, .one (.cells 3 [[.own 10 0 c66.length, .map 5, int c65]]), .dead, .one (.cells 1 [[.imm (.val (.int .u32 a23))]]), .one (prow 11 c66), pool 4 b9 c67, .one (.cells 1 [[.ptr 0 0 0]]), .one (.cells 1 [[.imm (.val (.int .u32 a23))]]), .one (o6 96 [38] as70 bo70 .ready none [(5, none), (9, none)] [.ptr 3 0 0, .ptr 9 0 0]), mmap 15 2 vU i4 (mset c72 (Go.bits .or .u32 (Go.bits .andNot .u32 a23 ai14.del) ai14.add) ab51), .one (.cells 4 [[.imm (.val (.int .u32 ai14.pre)), .imm (.val (.int .u32 ai14.add)), .imm (.val (.int .u32 ai14.del)), int ai14.cost]]), .one (.cells 3 [[int t73, int ai14.cost, .imm (.val (.int .u32 (Go.bits .or .u32 (Go.bits .andNot .u32 a23 ai14.del) ai14.add)))]]), .one (vec 2 i4 [(⟨a23, ai14.cost⟩ : o8)])]) (15, [posM c72 (Go.bits .or .u32 (Go.bits .andNot .u32 a23 ai14.del) ai14.add)]) (19, []) Z Z Z ⟨Z, Z, Z, Z, Z, Z, Y⟩ Z ⟨⟨Z, Z⟩, ⟨Blk.im_ok _ _ _, j5 Z⟩, trivial, ⟨Z, Z⟩, ⟨Z, Z⟩, ⟨i7 Z, S7 Z (pmap_mvR Z) W2⟩, trivial, ⟨Z, Z⟩, trivial, ⟨Z, Z⟩, ⟨g8 Z, S7 Z (prow_mvR Z) W2⟩, (n9.poolR Z Z), ⟨Z, Z⟩, ⟨Z, Z⟩, ⟨Z, Z⟩, (n9.putMM Z Z Z Z), ⟨Z, Z⟩, ⟨Z, Z⟩, ⟨Blk.im_ok _ _ _, j5 Z⟩, Y⟩ (.condF Z (.skip (g9 (b6 (.u (.add Z Z Z (by omega) (.j Z Z (.nil ?_)))))))))))))))
      obtain rfl := oi h
      refine b6 (Sub.cut ⟨Z, Z, Z, Z, Z, Y⟩ Z ⟨.one Z, .vec, .dead, .one Z, .one Z, (.one (i7 Z)), .dead, .one Z, .dead, .one Z, (.one (g8 Z)), (.any j8), .one Z, .one Z, .one Z, (.any (mm_ok Z)), Y⟩ Z)
     ·replace h := M3 hb74 h
      refine AWP.u (.E Z Z Z Z Z Z (W.fieldAddr Z Z Z Z (.E Z Z Z Z Z Z (.bits Z Z Z (by simp) (W.fieldAddr Z Z Z Z (.E Z Z Z Z Z Z (.ab Z Z Z (.j Z Z (.B Z Z Z hb74 (.B Z Z Z hb74 (.B Z Z Z hb74 (.B Z Z Z hb74 (.B Z Z Z hb74 (.B Z Z Z hb74 (.B Z Z Z hb74 (.B Z Z Z hb74 (.B Z Z Z hb74 (.B Z Z Z hb74 (.B Z Z Z hb74 (.B Z Z Z hb74 (.B Z Z Z hb74 (.B Z Z Z hb74 (.U Z hb74 Z Z (.nil (b6 (.condF Z (.skip (g9 (b6 (.u (.add Z Z Z (by omega) (.j Z Z (.nil ?_)))))))))))))))))))))))))))))))))
      obtain rfl := oi h
      refine b6 (Sub.cut ⟨Z, Z, Z, Z, Z, Y⟩ Z ⟨.one Z, .vec, .dead, .one Z, .one Z, (.one (i7 Z)), .dead, .one Z, .dead, .one Z, (.one (g8 Z)), (.any j8), .one Z, .one Z, .one Z, (.any (mm_ok Z)), Y⟩ Z)
    ·intro e s hq
     obtain ⟨rfl, hs⟩ := hq
     refine ⟨_, hs, ?_⟩
     refine m7 ?_
     obtain rfl := oi hr70
     exact ⟨⟨[], [.one (.cells 3 [(wW start goal 1 l4.length)]), .one (vec 4 d4 l4), .dead, .one (.cells 1 [[.map 15]]), .one (mapB vU vI c63), .one (pmap 11 vU c64), .dead, .one (.cells 3 [[.own 10 0 c66.length, .map 5, int c65]]), .dead, .one (.cells 1 [[.imm (.val (.int .u32 a23))]]), .one (prow 11 c66), pool 4 b9 c67, .one (.cells 1 [[.ptr 0 0 0]]), .one (.cells 1 [[.imm (.val (.int .u32 a23))]]), .one (o6 96 [38] as70 bo70 .ready none [(5, none), (9, none)] [.ptr 3 0 0, .ptr 9 0 0]), mmap 15 2 vU i4 c72]⟩, Sub.env trivial, Done.normal Z ⟨Z, Z⟩⟩
   ·rintro tt ss ⟨rfl, rfl⟩
    try dsimp only at h ⊢
    refine ai7 Z Z (g9 (g9 (b6 (.u (.add Z Z Z (by omega) (.j Z Z (.nil ?_)))))))
    obtain rfl := oi h
    refine b6 ((Sub.moveM (env' := [(0, .c (.ptr 0 0 0)), (5, .c (.ptr 3 0 0)), (6, .c (.map 4)), (7, .c (.ptr 7 0 0)), (19, .c (row 1 eU32 l)), (20, .c (int (l.length : Int))), (21, .c (int (t62 + 1)))]) (σ' := [.one (.cells 3 [(wW start goal 1 l4.length)]), .one (vec 4 d4 l4), mmap 2 2 vU i4 c71, .one (.cells 1 [[.map 2]]), .one (mapB vU vI c63), .one (pmap 11 vU c64), .dead, .one (.cells 3 [[.own 10 0 c66.length, .map 5, int c65]]), .dead, .one (.cells 1 [[.imm (.val (.int .u32 a23))]]), .one (prow 11 c66), pool 4 b9 c67, .one (.cells 1 [[.ptr 0 0 0]]), .one (.cells 1 [[.imm (.val (.int .u32 a23))]]), .dead]) 2 15 Z Z Z ⟨Z, Z, Z, Z, Z, Z, Z, Y⟩ Z ⟨(.one Z Z), (.vec Z), (EntR.mmap Z Z Z), (.one Z Z), (.one Z Z), (.one (i7 Z) (A5 Z Z (j6 fun _ => Z))), .dead, (.one Z Z), .dead, (.one Z Z), (.one (g8 Z) (A5 Z Z (e9 fun _ => Z))), (EntR.pool Z Z), (.one Z Z), (.one Z Z), .dead, Y⟩).trans ((Sub.move (env' := [(0, .c (.ptr 0 0 0)), (5, .c (.ptr 3 0 0)), (6, .c (.map 4)), (7, .c (.ptr 7 0 0)), (19, .c (row 1 eU32 l)), (20, .c (int (l.length : Int))), (21, .c (int (t62 + 1)))]) (σ' := [.one (.cells 3 [(wW start goal 1 l4.length)]), .one (vec 4 d4 l4), mmap 2 2 vU i4 c71, .one (.cells 1 [[.map 2]]), .one (mapB vU vI c63), .one (pmap 11 vU c64), .dead, .one (.cells 3 [[.own 8 0 c66.length, .map 5, int c65]]), .one (prow 11 c66), .one (.cells 1 [[.imm (.val (.int .u32 a23))]]), .dead, pool 4 b9 c67, .one (.cells 1 [[.ptr 0 0 0]]), .one (.cells 1 [[.imm (.val (.int .u32 a23))]]), .dead]) 8 10 Z Z Z ⟨Z, Z, Z, Z, Z, Z, Z, Y⟩ Z ⟨⟨Z, Z⟩, ⟨Blk.im_ok _ _ _, j5 Z⟩, (n9.mmap Z Z Z), ⟨Z, Z⟩, ⟨Z, Z⟩, ⟨i7 Z, s5 Z F5⟩, trivial, ⟨Z, Z⟩, ⟨g8 Z, s5 Z F4⟩, ⟨Z, Z⟩, trivial, (n9.pool Z), ⟨Z, Z⟩, ⟨Z, Z⟩, trivial, Y⟩).trans ((Sub.moveM (env' := [(0, .c (.ptr 0 0 0)), (5, .c (.ptr 3 0 0)), (6, .c (.map 4)), (7, .c (.ptr 7 0 0)), (19, .c (row 1 eU32 l)), (20, .c (int (l.length : Int))), (21, .c (int (t62 + 1)))]) (σ' := [.one (.cells 3 [(wW start goal 1 l4.length)]), .one (vec 4 d4 l4), mmap 2 2 vU i4 c71, .one (.cells 1 [[.map 2]]), .one (mapB vU vI c63), .one (pmap 6 vU c64), pool 4 b9 c67, .one (.cells 3 [[.own 8 0 c66.length, .map 5, int c65]]), .one (prow 6 c66), .one (.cells 1 [[.imm (.val (.int .u32 a23))]]), .dead, .dead, .one (.cells 1 [[.ptr 0 0 0]]), .one (.cells 1 [[.imm (.val (.int .u32 a23))]]), .dead]) 6 11 Z Z Z ⟨Z, Z, Z, Z, Z, Z, Z, Y⟩ Z ⟨(.one Z Z), (.vec Z), (EntR.mmap Z Z Z), (.one Z Z), (.one Z Z), (.one (i7 Z) (A5 Z Z (j6 fun _ => Z))), (EntR.pool Z Z), (.one Z Z), (.one (g8 Z) (A5 Z Z (e9 fun _ => Z))), (.one Z Z), .dead, .dead, (.one Z Z), (.one Z Z), .dead, Y⟩).trans (Sub.cut ⟨Z, Z, Z, Z, Z, Z, Z, Y⟩ Z ⟨.one Z, .vec, (.any (mm_ok Z)), .one Z, .one Z, (.one (i7 Z)), (.any j8), .one Z, (.one (g8 Z)), Y⟩ Z))))
 ·intro e s hq
  obtain ⟨rfl, hs⟩ := hq
  refine ⟨_, hs, ?_⟩
  refine m7 (b6 (.q (.aa ?_)))
  obtain ⟨c80, ho4, h⟩ := bind_some h
  refine AWP.loopS ho4 (fun (c75, c76, c77, c78, c79) => ⟨[(5, .c (.ptr 3 0 0)), (6, .c (.map 4)), (7, .c (.ptr 7 0 0))], [.one (.cells 3 [(wW start goal 1 l4.length)]), .one (vec 4 d4 l4), mmap 2 2 vU i4 c56, .one (.cells 1 [[.map 2]]), .one (mapB vU vI c75), .one (pmap 6 vU c76), pool 4 b9 c77, .one (.cells 3 [[.own 8 0 c79.length, .map 5, int c78]]), .one (prow 6 c79)]⟩) (fun c80 e st => e = .exit 4 ∧ Sub (I6 l start goal l4) st ⟨[(6, .c (.map 4))], [.one (.cells 3 [(wW start goal 1 l4.length)]), .one (vec 4 d4 l4), .dead, .dead, .one (mapB vU vI c80)]⟩) ?_ ?_ ?_
  ·try dsimp only
   exact Sub.env ⟨Z, Z, Z, Y⟩
  ·intro s o h
   obtain ⟨c75, c76, c77, c78, c79⟩ := s
   unfold E3 at h
   try dsimp only at h ⊢
   refine AWP.q (.q ?_)
   obtain ⟨a54, ha54, h⟩ := bind_some h
   refine AWP.u (.j Z Z (.callF (r2 := .c (int (c79.length : Int))) (σ'' := [.one (.cells 3 [(wW start goal 1 l4.length)]), .one (vec 4 d4 l4), mmap 2 2 vU i4 c56, .one (.cells 1 [[.map 2]]), .one (mapB vU vI c75), .one (pmap 6 vU c76), pool 4 b9 c77, .one (.cells 3 [[.own 8 0 c79.length, .map 5, int c78]]), .one (prow 6 c79)]) Z Z Z (FnOk.lend [7, 8, 5, 6] (T8 ha54) Z Z Z Z Z Z (by exact ⟨(.one Z), (.one (g8 Z)), (.one (i7 Z)), (.any j8), Y⟩) Z (by exact ⟨(.live Z (.one Z)), (.live Z (.one (e9 fun _ => Z))), (.live Z (.one (j6 fun _ => Z))), (.live Z RenE.pool), Y⟩) Z Z (by exact ⟨(.old Z Z Z), (.old Z Z Z), (.old Z Z Z), (.old Z Z Z), (.old Z Z Z), (.new 2 Z Z (.one (j6 fun _ => Z))), (.new 3 Z Z RenE.pool), (.new 0 Z Z (.one Z)), (.new 1 Z Z (.one (e9 fun _ => Z))), Y⟩)) (.gtr Z Z Z (.nil (b6 (.ite Z h (fun hc81 h => ?_) (fun hc81 h => ?_)))))))
   ·refine AWP.skip (b6 (.aa (.q ?_)))
    obtain ⟨a58, ha58, h⟩ := bind_some h
    refine AWP.u (.j Z Z (.callF (r2 := .tup [.c (.imm (.val (.int .u32 a58.2.2.2.1))), .c (int a58.2.2.2.2.1), .c (bool a58.2.2.2.2.2)]) (σ'' := [.one (.cells 3 [(wW start goal 1 l4.length)]), .one (vec 4 d4 l4), mmap 2 2 vU i4 c56, .one (.cells 1 [[.map 2]]), .one (mapB vU vI c75), .one (pmap 6 vU a58.1), pool 4 b9 a58.2.1, .one (.cells 3 [[.own 9 0 a58.2.2.1.length, .map 5, int c78]]), .dead, .one (prow 6 a58.2.2.1)]) Z Z Z (FnOk.lend [7, 8, 5, 6] (R9 ha58) Z Z Z Z Z Z (by exact ⟨(.one Z), (.one (g8 Z)), (.one (i7 Z)), (.any j8), Y⟩) Z (by exact ⟨(.live Z (.one Z)), (.live Z (.one (e9 fun _ => Z))), (.live Z (.one (j6 fun _ => Z))), (.live Z RenE.pool), Y⟩) Z Z (by exact ⟨(.old Z Z Z), (.old Z Z Z), (.old Z Z Z), (.old Z Z Z), (.old Z Z Z), (.new 2 Z Z (.one (j6 fun _ => Z))), (.new 3 Z Z RenE.pool), (.new 0 Z Z (.one Z)), .dead, (.new 4 Z Z (.one (e9 fun _ => Z))), Y⟩)) (.j Z Z (.ac Z Z Z (.ac Z Z Z (.ac Z Z Z (.v Z Z (.v Z Z (.v Z Z (.nil (b6 (.q (.u (.E Z Z Z Z Z Z (.j Z Z (S.lookupM (fk := vU) (key := a58.2.2.2.1) B0 Z Z Z Z Z (S.lenMM Z Z Z (fun hl65 => .j Z Z (.nil (b6 (.aa ?_)))))))))))))))))))))
    obtain ⟨⟨c82, c83, c84, c85, c86⟩, ho5, h⟩ := bind_some h
    try dsimp only at h
    refine AWP.forS ho5 (fun t87 (c82, c83, c84, c85, c86) => ⟨[(5, .c (.ptr 3 0 0)), (6, .c (.map 4)), (7, .c (.ptr 7 0 0)), (12, .c (int a58.2.2.2.2.1)), (64, .c (rowC 2 c56 a58.2.2.2.1)), (65, .c (int ((rowM c56 a58.2.2.2.1).length : Int))), (66, .c (int t87))], [.one (.cells 3 [(wW start goal 1 l4.length)]), .one (vec 4 d4 l4), mmap 2 2 vU i4 c56, .one (.cells 1 [[.map 2]]), .one (mapB vU vI c82), .one (pmap 6 vU c83), pool 4 b9 c84, .one (.cells 3 [[.own 9 0 c86.length, .map 5, int c85]]), .dead, .one (prow 6 c86)]⟩) (fun (c82, c83, c84, c85, c86) e st => e = .exit 6 ∧ Sub (I6 l start goal l4) st ⟨[(5, .c (.ptr 3 0 0)), (6, .c (.map 4)), (7, .c (.ptr 7 0 0))], [.one (.cells 3 [(wW start goal 1 l4.length)]), .one (vec 4 d4 l4), mmap 2 2 vU i4 c56, .one (.cells 1 [[.map 2]]), .one (mapB vU vI c82), .one (pmap 6 vU c83), pool 4 b9 c84, .one (.cells 3 [[.own 9 0 c86.length, .map 5, int c85]]), .dead, .one (prow 6 c86)]⟩) ?_ ?_ ?_ ?_
    ·try dsimp only
     exact Sub.env ⟨Z, Z, Z, Z, Z, Z, Z, Y⟩
    ·intro t87 s hlot87 hltt87 _
     obtain ⟨c82, c83, c84, c85, c86⟩ := s
     try dsimp only
     refine AWP.q (.u (.F Z Z Z (.nil (b6 (.q (.ah Z hltt87 (.exit (f5 (f5 ⟨Z, ?_⟩)))))))))
     exact Sub.env ⟨Z, Z, Z, Y⟩
    ·intro t87 s o hlot87 hltt87 h
     obtain ⟨c82, c83, c84, c85, c86⟩ := s
     unfold E4 at h
     try dsimp only at h ⊢
     refine AWP.q (.u (.F Z Z Z (.nil (b6 (.q (.ai Z hltt87 (.skip (b6 ?_))))))))
     obtain ⟨⟨c88, c89, c90, c91, c92⟩, hx93, h⟩ := bind_some h
     refine AWP.seqJ (⟨[(5, .c (.ptr 3 0 0)), (6, .c (.map 4)), (7, .c (.ptr 7 0 0)), (12, .c (int a58.2.2.2.2.1)), (64, .c (rowC 2 c56 a58.2.2.2.1)), (65, .c (int ((rowM c56 a58.2.2.2.1).length : Int))), (66, .c (int t87))], [.one (.cells 3 [(wW start goal 1 l4.length)]), .one (vec 4 d4 l4), mmap 2 2 vU i4 c56, .one (.cells 1 [[.map 2]]), .one (mapB vU vI c88), .one (pmap 12 vU c89), .dead, .one (.cells 3 [[.own 11 0 c91.length, .map 5, int c90]]), .dead, .dead, .dead, .one (prow 12 c91), pool 4 b9 c92]⟩) ?_ ?_
     ·refine AWP.aa (.q ?_)
      obtain ⟨a68, ha68, hx93⟩ := bind_some hx93
      refine AWP.u (S.idxMM ha68 Z Z Z Z (S.loadOAgg ha68 Z Z (mm_get Z ha68) Z Z Z Z (W.alloc Z Z Z Z (W.storeAgg Z Z Z Z Z Z Z (.nil (b6 (.q (.u (.j Z Z (W.fieldAddr Z Z Z Z (.E Z Z Z Z Z Z (S.add Z Z Z (.j Z Z (W.fieldAddr Z Z Z Z (.E Z Z Z Z Z Z (W.lookup (fk := vU) (fv := vI) (k := a68.ffrom) (z := 0) B0 Z (fun _ => Z) Z Z Z Z ?_))))))))))))))))
      refine AOps.F Z Z Z (.nil (b6 (.ite Z hx93 (fun hc94 hx93 => ?_) (fun hc94 hx93 => ?_))))
      ·refine AWP.q (.u (.j Z Z (W.fieldAddr Z Z Z Z (.E Z Z Z Z Z Z (.j Z Z (W.fieldAddr Z Z Z Z (.E Z Z Z Z Z Z (S.add Z Z Z (W.mapUpdate (fk := vU) (fv := vI) (k := a68.ffrom) (a := w64 (a58.2.2.2.2.1 + a68.cost)) B0 Z Z Z Z Z (.nil (b6 ?_)))))))))))
       obtain ⟨a93, ha93, hx93⟩ := bind_some hx93
       refine AWP.u (.j Z Z (W.fieldAddr Z Z Z Z (.E Z Z Z Z Z Z (.j Z Z (W.fieldAddr Z Z Z Z (.E Z Z Z Z Z Z (S.add Z Z Z (.callF (r2 := .tup []) (σ'' := [.one (.cells 3 [(wW start goal 1 l4.length)]), .one (vec 4 d4 l4), mmap 2 2 vU i4 c56, .one (.cells 1 [[.map 2]]), .one (mapB vU vI (mset c82 a68.ffrom (w64 (a58.2.2.2.2.1 + a68.cost)))), .one (pmap 12 vU a93.1), .dead, .one (.cells 3 [[.own 11 0 a93.2.1.length, .map 5, int (w64 (c85 + 1))]]), .dead, .dead, .one (.cells 2 [[.imm (.val (.int .u32 a68.ffrom)), int a68.cost]]), .one (prow 12 a93.2.1), pool 4 b9 a93.2.2]) Z Z Z (FnOk.lend [7, 9, 5, 6] (S9 ha93) Z Z Z Z Z Z (by exact ⟨(.one Z), (.one (g8 Z)), (.one (i7 Z)), (.any j8), Y⟩) Z (by exact ⟨(.live Z (.one Z)), (.live Z (.one (e9 fun _ => Z))), (.live Z (.one (j6 fun _ => Z))), (.live Z RenE.pool), Y⟩) Z Z (by exact ⟨(.old Z Z Z), (.old Z Z Z), (.old Z Z Z), (.old Z Z Z), (.old Z Z Z), (.new 2 Z Z (.one (j6 fun _ => Z))), .dead, (.new 0 Z Z (.one Z)), .dead, .dead, (.old Z Z Z), (.new 4 Z Z (.one (e9 fun _ => Z))), (.new 5 Z Z RenE.pool), Y⟩)) (.nil (g9 ?_))))))))))
       have ej := Option.some.inj hx93
       simp only [Prod.mk.injEq] at ej
       obtain ⟨ej0, ej1, ej2, ej3, ej4⟩ := ej
       subst ej0
       subst ej1
       subst ej2
       subst ej3
       subst ej4
       refine b6 (Sub.cut ⟨Z, Z, Z, Z, Z, Z, Z, Y⟩ Z ⟨.one Z, .vec, (.any (mm_ok Z)), .one Z, .one Z, (.one (i7 Z)), .dead, .one Z, .dead, .dead, .dead, (.one (g8 Z)), (.any j8), Y⟩ (eOk1 Z (eOk1 Z (eOk1 Z (eOk1 Z (eOk1 (V8 Z) (eOk1 Z (eOk1 Z Z))))))))
      ·refine AWP.skip (g9 ?_)
       have ej := Option.some.inj hx93
       simp only [Prod.mk.injEq] at ej
       obtain ⟨ej0, ej1, ej2, ej3, ej4⟩ := ej
       subst ej0
       subst ej1
       subst ej2
       subst ej3
       subst ej4
       refine b6 ((Sub.move (env' := [(5, .c (.ptr 3 0 0)), (6, .c (.map 4)), (7, .c (.ptr 7 0 0)), (12, .c (int a58.2.2.2.2.1)), (64, .c (rowC 2 c56 a58.2.2.2.1)), (65, .c (int ((rowM c56 a58.2.2.2.1).length : Int))), (66, .c (int t87))]) (σ' := [.one (.cells 3 [(wW start goal 1 l4.length)]), .one (vec 4 d4 l4), mmap 2 2 vU i4 c56, .one (.cells 1 [[.map 2]]), .one (mapB vU vI c82), .one (pmap 6 vU c83), pool 4 b9 c84, .one (.cells 3 [[.own 11 0 c86.length, .map 5, int c85]]), .dead, .dead, .one (.cells 2 [[.imm (.val (.int .u32 a68.ffrom)), int a68.cost]]), .one (prow 6 c86)]) 11 9 Z Z Z ⟨Z, Z, Z, Z, rowC_mv (fun _ => Z) Z, Z, Z, Y⟩ (eOk1 Z (eOk1 Z (eOk1 Z (eOk1 Z (eOk1 (V8 Z) (eOk1 Z (eOk1 Z Z))))))) ⟨⟨Z, Z⟩, ⟨Blk.im_ok _ _ _, j5 Z⟩, (n9.mmap Z Z Z), ⟨Z, Z⟩, ⟨Z, Z⟩, ⟨i7 Z, s5 Z F5⟩, (n9.pool Z), ⟨Z, Z⟩, trivial, trivial, ⟨Z, Z⟩, ⟨g8 Z, s5 Z F4⟩, Y⟩).trans ((Sub.moveM (env' := [(5, .c (.ptr 3 0 0)), (6, .c (.map 4)), (7, .c (.ptr 7 0 0)), (12, .c (int a58.2.2.2.2.1)), (64, .c (rowC 2 c56 a58.2.2.2.1)), (65, .c (int ((rowM c56 a58.2.2.2.1).length : Int))), (66, .c (int t87))]) (σ' := [.one (.cells 3 [(wW start goal 1 l4.length)]), .one (vec 4 d4 l4), mmap 2 2 vU i4 c56, .one (.cells 1 [[.map 2]]), .one (mapB vU vI c82), .one (pmap 12 vU c83), .dead, .one (.cells 3 [[.own 11 0 c86.length, .map 5, int c85]]), .dead, .dead, .one (.cells 2 [[.imm (.val (.int .u32 a68.ffrom)), int a68.cost]]), .one (prow 12 c86), pool 4 b9 c84]) 12 6 Z Z Z ⟨Z, Z, Z, Z, rowC_mv (fun _ => Z) Z, Z, Z, Y⟩ (eOk1 Z (eOk1 Z (eOk1 Z (eOk1 Z (eOk1 (V8 Z) (eOk1 Z (eOk1 Z Z))))))) ⟨(.one Z Z), (.vec Z), (EntR.mmap Z Z Z), (.one Z Z), (.one Z Z), (.one (i7 Z) (A5 Z Z (j6 fun _ => Z))), .dead, (.one Z Z), .dead, .dead, (.one Z Z), (.one (g8 Z) (A5 Z Z (e9 fun _ => Z))), (EntR.pool Z Z), Y⟩).trans (Sub.cut ⟨Z, Z, Z, Z, Z, Z, Z, Y⟩ Z ⟨.one Z, .vec, (.any (mm_ok Z)), .one Z, .one Z, (.one (i7 Z)), .dead, .one Z, .dead, .dead, .dead, (.one (g8 Z)), (.any j8), Y⟩ (eOk1 Z (eOk1 Z (eOk1 Z (eOk1 Z (eOk1 (V8 Z) (eOk1 Z (eOk1 Z Z))))))))))
     ·try dsimp only at h
      refine AWP.u (.add Z Z Z (by omega) (.j Z Z (.nil ?_)))
      obtain rfl := oi h
      refine b6 ((Sub.move (env' := [(5, .c (.ptr 3 0 0)), (6, .c (.map 4)), (7, .c (.ptr 7 0 0)), (12, .c (int a58.2.2.2.2.1)), (64, .c (rowC 2 c56 a58.2.2.2.1)), (65, .c (int ((rowM c56 a58.2.2.2.1).length : Int))), (66, .c (int (t87 + 1)))]) (σ' := [.one (.cells 3 [(wW start goal 1 l4.length)]), .one (vec 4 d4 l4), mmap 2 2 vU i4 c56, .one (.cells 1 [[.map 2]]), .one (mapB vU vI c88), .one (pmap 12 vU c89), .dead, .one (.cells 3 [[.own 9 0 c91.length, .map 5, int c90]]), .dead, .one (prow 12 c91), .dead, .dead, pool 4 b9 c92]) 9 11 Z Z Z ⟨Z, Z, Z, Z, rowC_mv (fun _ => Z) Z, Z, Z, Y⟩ (eOk1 Z (eOk1 Z (eOk1 Z (eOk1 Z (eOk1 (V8 Z) (eOk1 Z (eOk1 Z Z))))))) ⟨⟨Z, Z⟩, ⟨Blk.im_ok _ _ _, j5 Z⟩, (n9.mmap Z Z Z), ⟨Z, Z⟩, ⟨Z, Z⟩, ⟨i7 Z, s5 Z F5⟩, trivial, ⟨Z, Z⟩, trivial, ⟨g8 Z, s5 Z F4⟩, trivial, trivial, (n9.pool Z), Y⟩).trans ((Sub.moveM (env' := [(5, .c (.ptr 3 0 0)), (6, .c (.map 4)), (7, .c (.ptr 7 0 0)), (12, .c (int a58.2.2.2.2.1)), (64, .c (rowC 2 c56 a58.2.2.2.1)), (65, .c (int ((rowM c56 a58.2.2.2.1).length : Int))), (66, .c (int (t87 + 1)))]) (σ' := [.one (.cells 3 [(wW start goal 1 l4.length)]), .one (vec 4 d4 l4), mmap 2 2 vU i4 c56, .one (.cells 1 [[.map 2]]), .one (mapB vU vI c88), .one (pmap 6 vU c89), pool 4 b9 c92, .one (.cells 3 [[.own 9 0 c91.length, .map 5, int c90]]), .dead, .one (prow 6 c91), .dead, .dead]) 6 12 Z Z Z ⟨Z, Z, Z, Z, rowC_mv (fun _ => Z) Z, Z, Z, Y⟩ (eOk1 Z (eOk1 Z (eOk1 Z (eOk1 Z (eOk1 (V8 Z) (eOk1 Z (eOk1 Z Z))))))) ⟨(.one Z Z), (.vec Z), (EntR.mmap Z Z Z), (.one Z Z), (.one Z Z), (.one (i7 Z) (A5 Z Z (j6 fun _ => Z))), (EntR.pool Z Z), (.one Z Z), .dead, (.one (g8 Z) (A5 Z Z (e9 fun _ => Z))), .dead, .dead, Y⟩).trans (Sub.cut ⟨Z, Z, Z, Z, Z, Z, Z, Y⟩ Z ⟨.one Z, .vec, (.any (mm_ok Z)), .one Z, .one Z, (.one (i7 Z)), (.any j8), .one Z, .dead, (.one (g8 Z)), Y⟩ (eOk1 Z (eOk1 Z (eOk1 Z (eOk1 Z (eOk1 (V8 Z) (eOk1 Z (eOk1 Z Z))))))))))
    ·intro e s hq
     obtain ⟨rfl, hs⟩ := hq
     refine ⟨_, hs, ?_⟩
     refine m7 (g9 ?_)
     obtain rfl := oi h
     refine b6 ⟨_, Z, ?_⟩
     exact (Sub.move (env' := [(5, .c (.ptr 3 0 0)), (6, .c (.map 4)), (7, .c (.ptr 7 0 0))]) (σ' := [.one (.cells 3 [(wW start goal 1 l4.length)]), .one (vec 4 d4 l4), mmap 2 2 vU i4 c56, .one (.cells 1 [[.map 2]]), .one (mapB vU vI c82), .one (pmap 6 vU c83), pool 4 b9 c84, .one (.cells 3 [[.own 8 0 c86.length, .map 5, int c85]]), .one (prow 6 c86)]) 8 9 Z Z Z ⟨Z, Z, Z, Y⟩ Z ⟨⟨Z, Z⟩, ⟨Blk.im_ok _ _ _, j5 Z⟩, (n9.mmap Z Z Z), ⟨Z, Z⟩, ⟨Z, Z⟩, ⟨i7 Z, s5 Z F5⟩, (n9.pool Z), ⟨Z, Z⟩, ⟨g8 Z, s5 Z F4⟩, Y⟩).trans (Sub.env ⟨Z, Z, Z, Y⟩)
   ·refine AWP.exit (f5 ?_)
    obtain rfl := oi h
    refine f5 ⟨_, Z, Z, ?_⟩
    exact Sub.cut ⟨Z, Y⟩ Z ⟨.one Z, .vec, .dead, .dead, .one Z, Y⟩ Z
  ·intro e s hq
   obtain ⟨rfl, hs⟩ := hq
   refine ⟨_, hs, ?_⟩
   refine m7 (b6 (.q (.u (.j Z Z (.v Z Z (.nil (b6 (.ret ?_))))))))
   obtain rfl := oi h
   exact ⟨⟨[(4, .c (.map 4))], [.one (.cells 3 [(wW start goal 1 l4.length)]), .one (vec 4 d4 l4), .dead, .dead, .one (mapB vU vI c80)]⟩, Sub.env ⟨Z, Y⟩, Done.ret Z ⟨Z, Z⟩⟩
theorem J7 {t : d7} {r : Int × f4} (h : y4 t = some r) : e7 prog 19 [.agg (tT t)] (.tup [.c (int r.1), .agg [int r.2.code, int r.2.index]]) := by
 unfold e7
 refine FnOk.enter (rs := [.t 2, .cell 3 27 2]) func19 Z ntmps19 results19 Z ⟨trivial, rv _ Z, Y⟩ (by kernel_rfl) Z ?_
 unfold y4 at h
 refine AWP.q (.u (W.box Z Z Z Z Z Z (.v Z Z (W.alloc Z Z Z Z (.nil (b6 (.q ?_)))))))
 obtain ⟨fk2, hfk2, h⟩ := bind_some h
 rcases fk2 with fk2 | fk2
 ·try dsimp only at h
  refine AWP.u (W.loadAgg Z Z Z Z Z Z Z (.callF (r2 := .tup [.c (.imm (.val (.pointer none))), .c (row 1 eU32 []), .agg [int fk2.1, int fk2.2]]) (σ'' := [.one (.cells 4 [(tT t)]), .one (.cells 2 [[int 0, int 0]]), .dead, .one (.cells 2 [[int fk2.1, int fk2.2]])]) Z Z Z (FnOk.lend [] (FnOk.alt1 (X9 hfk2)) Z Z Z Z Z Z (by exact trivial) Z (by exact trivial) Z Z (by exact ⟨(.old Z Z Z), (.old Z Z Z), .dead, (.new 1 Z Z (.one Z)), Y⟩)) (.j Z Z (.ac Z Z Z (.ac Z Z Z (.ac Z Z Z (W.alloc Z Z Z Z (.v Z Z (.v Z Z (W.storeAgg Z Z Z Z Z Z Z (.nil (b6 (.q (.q (.u (W.loadAgg Z Z Z Z Z Z Z (W.build Z Z Z Z (.neqP Z Z Z Z Z Z Z (.nil (b6 (.ad Z h (fun hc3 h => ?_) (fun hc3 h => ?_))))))))))))))))))))))
  ·refine AWP.q (.drawEI [2] mixed Z Z Z ?_)
   refine d5.consN Z Z (fun E => W.loadAgg Z Z Z Z Z Z Z .N) Z (.consN Z Z (fun E => AOps.v Z Z .N) Z ?_)
   apply d5.consE (v := .undef); exact Z; exact Z; intro E
   refine W.storeAgg Z Z Z Z Z Z Z .N
   exact Z
   exact Z
   refine d5.done Z ?_ ?_
   ·refine c9.cons Z Z ?_ ?_
    refine b7.go Z Z (fun E => W.loadAgg Z Z Z Z Z Z Z .N) ?_
    refine b7.skip Z (b7.nil)
    refine c9.cons Z Z ?_ ?_
    refine b7.go Z Z (fun E => AOps.v Z Z .N) ?_
    refine b7.skip Z (b7.nil)
    refine c9.skip Z (c9.nil)
   dsimp only [i8]
   refine b6 (.ret (d9 ?_))
   obtain rfl := oi h
   exact Done.ret Z Z
  ·cases h
 ·try dsimp only at h
  refine AWP.u (W.loadAgg Z Z Z Z Z Z Z (.callF (r2 := .tup [.c (.ptr 6 0 0), .c (row 1 eU32 fk2.2.2.2), .agg [int 0, int 0]]) (σ'' := [.one (.cells 4 [(tT t)]), .one (.cells 2 [[int 0, int 0]]), .dead, .one (.cells 2 [[int 0, int 0]]), .dead, .dead, .one (.cells 3 [[.imm (.val (.int .u32 fk2.1)), .imm (.val (.int .u32 fk2.2.1)), .own 7 0 fk2.2.2.1.length]]), .one (vec 4 d4 fk2.2.2.1)]) Z Z Z (FnOk.lend [] (FnOk.alt2 (X9 hfk2)) Z Z Z Z Z Z (by exact trivial) Z (by exact trivial) Z Z (by exact ⟨(.old Z Z Z), (.old Z Z Z), .dead, (.new 1 Z Z (.one Z)), .dead, .dead, (.new 4 Z Z (.one Z)), (.new 5 Z Z .vec), Y⟩)) (.j Z Z (.ac Z Z Z (.ac Z Z Z (.ac Z Z Z (W.alloc Z Z Z Z (.v Z Z (.v Z Z (W.storeAgg Z Z Z Z Z Z Z (.nil (b6 (.q (.q (.u (W.loadAgg Z Z Z Z Z Z Z (W.build Z Z Z Z (.neqP Z Z Z Z Z Z Z (.nil (b6 (.ad Z h (fun hc3 h => ?_) (fun hc3 h => ?_))))))))))))))))))))))
  ·refine AWP.q (.drawEI [2] mixed Z Z Z ?_)
   refine d5.consN Z Z (fun E => W.loadAgg Z Z Z Z Z Z Z .N) Z (.consN Z Z (fun E => AOps.v Z Z .N) Z ?_)
   apply d5.consE (v := .undef); exact Z; exact Z; intro E
   refine W.storeAgg Z Z Z Z Z Z Z .N
   exact Z
   exact Z
   refine d5.done Z ?_ ?_
   ·refine c9.cons Z Z ?_ ?_
    refine b7.go Z Z (fun E => W.loadAgg Z Z Z Z Z Z Z .N) ?_
    refine b7.skip Z (b7.nil)
    refine c9.cons Z Z ?_ ?_
    refine b7.go Z Z (fun E => AOps.v Z Z .N) ?_
    refine b7.skip Z (b7.nil)
    refine c9.skip Z (c9.nil)
   dsimp only [i8]
   refine b6 (.ret (d9 ?_))
   obtain rfl := oi h
   exact Done.ret Z Z
  ·refine AWP.skip (b6 (.q ?_))
   obtain ⟨a19, ha19, a21, ha21, h⟩ := b2 h
   refine AWP.u (.j Z Z (.j Z Z (.callF (r2 := .c (.map 11)) (σ'' := [.one (.cells 4 [(tT t)]), .one (.cells 2 [[int 0, int 0]]), .dead, .one (.cells 2 [[int 0, int 0]]), .dead, .dead, .one (.cells 3 [[.imm (.val (.int .u32 fk2.1)), .imm (.val (.int .u32 fk2.2.1)), .own 7 0 fk2.2.2.1.length]]), .one (vec 4 d4 fk2.2.2.1), .one (.cells 2 [[int 0, int 0]]), .dead, .dead, .one (mapB vU vI a19)]) Z Z Z (FnOk.lend [6, 7] (aj1 ha19) Z Z Z Z Z Z (by exact ⟨(.one Z), .vec, Y⟩) Z (by exact ⟨(.live Z (.one Z)), (.live Z .vec), Y⟩) Z Z (by exact ⟨(.old Z Z Z), (.old Z Z Z), .dead, (.old Z Z Z), .dead, .dead, (.new 0 Z Z (.one Z)), (.new 1 Z Z .vec), (.old Z Z Z), .dead, .dead, (.new 4 Z Z (.one Z)), Y⟩)) (.j Z Z (.callF (r2 := .c (.imm (.val (.int .u32 fk2.1)))) (σ'' := [.one (.cells 4 [(tT t)]), .one (.cells 2 [[int 0, int 0]]), .dead, .one (.cells 2 [[int 0, int 0]]), .dead, .dead, .one (.cells 3 [[.imm (.val (.int .u32 fk2.1)), .imm (.val (.int .u32 fk2.2.1)), .own 7 0 fk2.2.2.1.length]]), .one (vec 4 d4 fk2.2.2.1), .one (.cells 2 [[int 0, int 0]]), .dead, .dead, .one (mapB vU vI a19)]) Z Z Z (FnOk.lend [6, 7] (I2 ha21) Z Z Z Z Z Z (by exact ⟨(.one Z), .vec, Y⟩) Z (by exact ⟨(.live Z (.one Z)), (.live Z .vec), Y⟩) Z Z (by exact ⟨(.old Z Z Z), (.old Z Z Z), .dead, (.old Z Z Z), .dead, .dead, (.new 0 Z Z (.one Z)), (.new 1 Z Z .vec), (.old Z Z Z), .dead, .dead, (.old Z Z Z), Y⟩)) (W.lookup (fk := vU) (fv := vI) (k := fk2.1) (z := 0) B0 Z (fun _ => Z) Z Z Z Z ?_))))))
   refine W.build Z Z Z Z (.v Z Z (W.storeAgg Z Z Z Z Z Z Z (.nil (b6 (.ret ?_)))))
   obtain rfl := oi h
   exact Done.ret Z Z
theorem ab7 {t : d7} {op : Int} {r : Int × f4} (h : D7 t op = some r) : e7 prog 9 [.agg (tT t), .c (int op)] (.tup [.c (int r.1), .agg [int r.2.code, int r.2.index]]) := by
 unfold e7
 refine FnOk.enter (rs := [.t 4, .cell 5 27 2]) func9 Z ntmps9 results9 Z ⟨trivial, rv _ Z, Y⟩ (by kernel_rfl) Z ?_
 unfold D7 at h
 refine AWP.q (.u (W.box Z Z Z Z Z Z (.v Z Z (W.alloc Z Z Z Z (.nil (b6 (.q (.q ?_))))))))
 obtain ⟨a11, ha11, h⟩ := bind_some h
 refine AWP.u (W.loadAgg Z Z Z Z Z Z Z (.j Z Z (.J Z Z Z Z (O9 ha11) Z (W.alloc Z Z Z Z (W.storeAgg Z Z Z Z Z Z Z (.nil (b6 (.q (.u (W.loadAgg Z Z Z Z Z Z Z (W.build Z Z Z Z (.neqP Z Z Z Z Z Z Z (.nil (b6 (.ad Z h (fun hc3 h => ?_) (fun hc3 h => ?_))))))))))))))))
 ·refine AWP.q (.drawEI [2] mixed Z Z Z ?_)
  refine d5.consN Z Z (fun E => W.loadAgg Z Z Z Z Z Z Z .N) Z (.consN Z Z (fun E => AOps.v Z Z .N) Z ?_)
  apply d5.consE (v := .undef); exact Z; exact Z; intro E
  refine W.storeAgg Z Z Z Z Z Z Z .N
  exact Z
  exact Z
  refine d5.done Z ?_ ?_
  ·refine c9.cons Z Z ?_ ?_
   refine b7.go Z Z (fun E => W.loadAgg Z Z Z Z Z Z Z .N) ?_
   refine b7.skip Z (b7.nil)
   refine c9.cons Z Z ?_ ?_
   refine b7.go Z Z (fun E => AOps.v Z Z .N) ?_
   refine b7.skip Z (b7.nil)
   refine c9.skip Z (c9.nil)
  dsimp only [i8]
  refine b6 (.ret (d9 ?_))
  obtain rfl := oi h
  exact Done.ret Z Z
 ·refine AWP.skip (b6 (.q ?_))
  obtain ⟨a19, ha19, h⟩ := bind_some h
  refine AWP.u (W.loadAgg Z Z Z Z Z Z Z (.j Z Z (.J Z Z Z Z (ah5 ha19) Z (.j Z Z (.ac Z Z Z (.ac Z Z Z (W.alloc Z Z Z Z (W.alloc Z Z Z Z (W.storeAgg Z Z Z Z Z Z Z (W.storeAgg Z Z Z Z Z Z Z (.nil (b6 (.q (.q (.u (W.loadAgg Z Z Z Z Z Z Z (W.build Z Z Z Z (.neqP Z Z Z Z Z Z Z (.nil (b6 (.ad Z h (fun hc4 h => ?_) (fun hc4 h => ?_))))))))))))))))))))))
  ·refine AWP.q (.drawEI [2] mixed Z Z Z ?_)
   refine d5.consN Z Z (fun E => W.loadAgg Z Z Z Z Z Z Z .N) Z (.consN Z Z (fun E => AOps.v Z Z .N) Z ?_)
   apply d5.consE (v := .undef); exact Z; exact Z; intro E
   refine W.storeAgg Z Z Z Z Z Z Z .N
   exact Z
   exact Z
   refine d5.done Z ?_ ?_
   ·refine c9.cons Z Z ?_ ?_
    refine b7.go Z Z (fun E => W.loadAgg Z Z Z Z Z Z Z .N) ?_
    refine b7.skip Z (b7.nil)
    refine c9.cons Z Z ?_ ?_
    refine b7.go Z Z (fun E => AOps.v Z Z .N) ?_
    refine b7.skip Z (b7.nil)
    refine c9.skip Z (c9.nil)
   dsimp only [i8]
   refine b6 (.ret (d9 ?_))
   obtain rfl := oi h
   exact Done.ret Z Z
  ·refine AWP.skip (b6 (.q ?_))
   obtain ⟨a27, ha27, h⟩ := bind_some h
   refine AWP.u (W.loadAgg Z Z Z Z Z Z Z (.J Z Z Z Z (J7 ha27) Z (.ac Z Z Z (.ac Z Z Z (.v Z Z (W.storeAgg Z Z Z Z Z Z Z (.nil (b6 (.ret ?_)))))))))
   obtain rfl := oi h
   exact Done.ret Z Z
theorem ah1 {t : d7} {r : (List Int) × (List Int) × (List e6)} (h : J8 t = some r) : FnOk prog 49 [.agg (tT t)] (V5 t) (fun tt ss => tt = .agg [int t.facts, .own 2 0 r.1.length, .own 3 0 r.2.1.length, .own 5 0 r.2.2.length] ∧ ss = [.dead, .one (.cells 4 [[int t.facts, .own 2 0 r.1.length, .own 3 0 r.2.1.length, .own 5 0 r.2.2.length]]), .one (vec 1 intI r.1), .one (vec 1 intI r.2.1), .dead, .one (vec 4 i6 r.2.2)]) := by
 refine FnOk.enter (rs := [.cell 2 25 4]) func49 Z ntmps49 results49 Z ⟨rv _ Z, Y⟩ (by kernel_rfl) Z ?_
 refine AWP.weak ?_
 unfold J8 at h
 refine AWP.q (.u (W.box Z Z Z Z Z Z (W.alloc Z Z Z Z (.nil (b6 (.q ?_))))))
 obtain ⟨a10, ha10, a13, ha13, h⟩ := b2 h
 refine AWP.sub (s' := ⟨[(0, .agg (tT t)), (1, .c (.ptr 0 0 0)), (2, .c (.ptr 1 0 0))], [.one (.cells 4 [(tT t)]), .one (.cells 4 [[int 0, .imm (.val nL), .imm (.val nL), .imm (.val nL)]]), .dead, .dead, .dead]⟩) (Sub.cut ⟨Z, Z, Z, Y⟩ Z ⟨.one Z, .one Z, .dead, .dead, .dead, Y⟩ Z) (.drawTI [.c (.ptr 0 0 0), .c (int t.facts), .c (.ptr 0 0 1), .c (row 1 intI t.init), .c (.own 2 0 a10.length), .c (.ptr 0 0 2), .c (row 1 intI t.goal), .c (.own 3 0 a13.length), .agg [int t.facts, .own 2 0 a10.length, .own 3 0 a13.length, .imm (.val nL)], .c (.ptr 4 0 0), .undef] [4, 7, 9, 10] [([], [.one (.cells 4 [(tT t)]), .one (.cells 4 [[int 0, .imm (.val nL), .imm (.val nL), .imm (.val nL)]]), .dead, .dead, .dead]), ([4], [.one (.cells 4 [(tT t)]), .one (.cells 4 [[int 0, .imm (.val nL), .imm (.val nL), .imm (.val nL)]]), .one (vec 1 intI a10), .dead, .dead]), ([4, 7], [.one (.cells 4 [(tT t)]), .one (.cells 4 [[int 0, .imm (.val nL), .imm (.val nL), .imm (.val nL)]]), .one (vec 1 intI a10), .one (vec 1 intI a13), .dead]), ([9], [.one (.cells 4 [(tT t)]), .one (.cells 4 [[int 0, .imm (.val nL), .imm (.val nL), .imm (.val nL)]]), .dead, .dead, .one (.cells 4 [[int 0, .imm (.val nL), .imm (.val nL), .imm (.val nL)]])]), ([4, 9], [.one (.cells 4 [(tT t)]), .one (.cells 4 [[int 0, .imm (.val nL), .imm (.val nL), .imm (.val nL)]]), .one (vec 1 intI a10), .dead, .one (.cells 4 [[int 0, .imm (.val nL), .imm (.val nL), .imm (.val nL)]])]), ([4, 7, 9], [.one (.cells 4 [(tT t)]), .one (.cells 4 [[int 0, .imm (.val nL), .imm (.val nL), .imm (.val nL)]]), .one (vec 1 intI a10), .one (vec 1 intI a13), .one (.cells 4 [[int 0, .imm (.val nL), .imm (.val nL), .imm (.val nL)]])]), ([4, 7, 9, 10], [.one (.cells 4 [(tT t)]), .one (.cells 4 [[int 0, .imm (.val nL), .imm (.val nL), .imm (.val nL)]]), .one (vec 1 intI a10), .one (vec 1 intI a13), .one (.cells 4 [[int t.facts, .own 2 0 a10.length, .own 3 0 a13.length, .imm (.val nL)]])])] [.one (.cells 4 [(tT t)]), .one (.cells 4 [[int 0, .imm (.val nL), .imm (.val nL), .imm (.val nL)]]), .one (vec 1 intI a10), .one (vec 1 intI a13), .one (.cells 4 [[int t.facts, .own 2 0 a10.length, .own 3 0 a13.length, .imm (.val nL)]])] mixed Z Z Z Z Z ?_ ?_)
 ·refine w5.cons ?_ ?_
  ·apply d6.go; exact Z; exact Z; exact Z; intro E hE; (refine W.fieldAddr Z Z Z Z ?_); exact AOps.nil ⟨Z, Z⟩
   apply d6.go; exact Z; exact Z; exact Z; intro E hE; (refine AOps.E Z Z Z Z Z Z ?_); exact AOps.nil ⟨Z, Z⟩
   apply d6.go; exact Z; exact Z; exact Z; intro E hE; (refine W.fieldAddr Z Z Z Z ?_); exact AOps.nil ⟨Z, Z⟩
   apply d6.go; exact Z; exact Z; exact Z; intro E hE; (refine AOps.E Z Z Z Z Z Z ?_); exact AOps.nil ⟨Z, Z⟩
   apply d6.eff; exact Z; exact Z; exact Z; exact Z; intro E hE; (refine AOps.newAt 2 (.c (.own 2 0 a10.length)) (vec 1 intI a10) (.inl Z) Z hE Z Z Z Z (.vec) (.vec) Z Z Z ⟨.one Z, .one Z, .dead, .dead, .dead, Y⟩ (fun hh => by (refine S.fresh Z Z Z Z (f7 ha10) Z Z ?_; exact hh)) ?_); exact AOps.nil ⟨Z, Z⟩
   apply d6.go; exact Z; exact Z; exact Z; intro E hE; (refine W.fieldAddr Z Z Z Z ?_); exact AOps.nil ⟨Z, Z⟩
   apply d6.go; exact Z; exact Z; exact Z; intro E hE; (refine AOps.E Z Z Z Z Z Z ?_); exact AOps.nil ⟨Z, Z⟩
   refine d6.no Z (d6.no Z ?_)
   apply d6.eff; exact Z; exact Z; exact Z; exact Z; intro E hE; (refine AOps.allocAt 4 hE Z Z Z Z Z Z Z ⟨.one Z, .one Z, .dead, .dead, .dead, Y⟩ Z ?_); exact AOps.nil ⟨Z, Z⟩
   refine d6.no Z (d6.nil)
  refine w5.cons ?_ ?_
  ·apply d6.go; exact Z; exact Z; exact Z; intro E hE; (refine W.fieldAddr Z Z Z Z ?_); exact AOps.nil ⟨Z, Z⟩
   apply d6.go; exact Z; exact Z; exact Z; intro E hE; (refine AOps.E Z Z Z Z Z Z ?_); exact AOps.nil ⟨Z, Z⟩
   refine d6.no Z (d6.no Z (d6.no Z ?_))
   apply d6.go; exact Z; exact Z; exact Z; intro E hE; (refine W.fieldAddr Z Z Z Z ?_); exact AOps.nil ⟨Z, Z⟩
   apply d6.go; exact Z; exact Z; exact Z; intro E hE; (refine AOps.E Z Z Z Z Z Z ?_); exact AOps.nil ⟨Z, Z⟩
   apply d6.eff; exact Z; exact Z; exact Z; exact Z; intro E hE; (refine AOps.newAt 3 (.c (.own 3 0 a13.length)) (vec 1 intI a13) (.inl Z) Z hE Z Z Z Z (.vec) (.vec) Z Z Z ⟨.one Z, .one Z, .vec, .dead, .dead, Y⟩ (fun hh => by (refine S.fresh Z Z Z Z (f7 ha13) Z Z ?_; exact hh)) ?_); exact AOps.nil ⟨Z, Z⟩
   refine d6.no Z ?_
   apply d6.eff; exact Z; exact Z; exact Z; exact Z; intro E hE; (refine AOps.allocAt 4 hE Z Z Z Z Z Z Z ⟨.one Z, .one Z, .vec, .dead, .dead, Y⟩ Z ?_); exact AOps.nil ⟨Z, Z⟩
   refine d6.no Z (d6.nil)
  refine w5.cons ?_ ?_
  ·apply d6.go; exact Z; exact Z; exact Z; intro E hE; (refine W.fieldAddr Z Z Z Z ?_); exact AOps.nil ⟨Z, Z⟩
   apply d6.go; exact Z; exact Z; exact Z; intro E hE; (refine AOps.E Z Z Z Z Z Z ?_); exact AOps.nil ⟨Z, Z⟩
   refine d6.no Z (d6.no Z (d6.no Z (d6.no Z (d6.no Z (d6.no Z ?_)))))
   apply d6.go; exact Z; exact Z; exact Z; intro E hE; (refine W.build Z Z Z Z ?_); exact AOps.nil ⟨Z, Z⟩
   apply d6.eff; exact Z; exact Z; exact Z; exact Z; intro E hE; (refine AOps.allocAt 4 hE Z Z Z Z Z Z Z ⟨.one Z, .one Z, .vec, .vec, .dead, Y⟩ Z ?_); exact AOps.nil ⟨Z, Z⟩
   refine d6.no Z (d6.nil)
  refine w5.cons ?_ ?_
  ·apply d6.go; exact Z; exact Z; exact Z; intro E hE; (refine W.fieldAddr Z Z Z Z ?_); exact AOps.nil ⟨Z, Z⟩
   apply d6.go; exact Z; exact Z; exact Z; intro E hE; (refine AOps.E Z Z Z Z Z Z ?_); exact AOps.nil ⟨Z, Z⟩
   apply d6.go; exact Z; exact Z; exact Z; intro E hE; (refine W.fieldAddr Z Z Z Z ?_); exact AOps.nil ⟨Z, Z⟩
   apply d6.go; exact Z; exact Z; exact Z; intro E hE; (refine AOps.E Z Z Z Z Z Z ?_); exact AOps.nil ⟨Z, Z⟩
   apply d6.eff; exact Z; exact Z; exact Z; exact Z; intro E hE; (refine AOps.newAt 2 (.c (.own 2 0 a10.length)) (vec 1 intI a10) (.inl Z) Z hE Z Z Z Z (.vec) (.vec) Z Z Z ⟨.one Z, .one Z, .dead, .dead, .one Z, Y⟩ (fun hh => by (refine S.fresh Z Z Z Z (f7 ha10) Z Z ?_; exact hh)) ?_); exact AOps.nil ⟨Z, Z⟩
   apply d6.go; exact Z; exact Z; exact Z; intro E hE; (refine W.fieldAddr Z Z Z Z ?_); exact AOps.nil ⟨Z, Z⟩
   apply d6.go; exact Z; exact Z; exact Z; intro E hE; (refine AOps.E Z Z Z Z Z Z ?_); exact AOps.nil ⟨Z, Z⟩
   refine d6.no Z (d6.no Z (d6.no Z (d6.no Z (d6.nil))))
  refine w5.cons ?_ ?_
  ·apply d6.go; exact Z; exact Z; exact Z; intro E hE; (refine W.fieldAddr Z Z Z Z ?_); exact AOps.nil ⟨Z, Z⟩
   apply d6.go; exact Z; exact Z; exact Z; intro E hE; (refine AOps.E Z Z Z Z Z Z ?_); exact AOps.nil ⟨Z, Z⟩
   refine d6.no Z (d6.no Z (d6.no Z ?_))
   apply d6.go; exact Z; exact Z; exact Z; intro E hE; (refine W.fieldAddr Z Z Z Z ?_); exact AOps.nil ⟨Z, Z⟩
   apply d6.go; exact Z; exact Z; exact Z; intro E hE; (refine AOps.E Z Z Z Z Z Z ?_); exact AOps.nil ⟨Z, Z⟩
   apply d6.eff; exact Z; exact Z; exact Z; exact Z; intro E hE; (refine AOps.newAt 3 (.c (.own 3 0 a13.length)) (vec 1 intI a13) (.inl Z) Z hE Z Z Z Z (.vec) (.vec) Z Z Z ⟨.one Z, .one Z, .vec, .dead, .one Z, Y⟩ (fun hh => by (refine S.fresh Z Z Z Z (f7 ha13) Z Z ?_; exact hh)) ?_); exact AOps.nil ⟨Z, Z⟩
   refine d6.no Z (d6.no Z (d6.no Z (d6.nil)))
  refine w5.cons ?_ ?_
  ·apply d6.go; exact Z; exact Z; exact Z; intro E hE; (refine W.fieldAddr Z Z Z Z ?_); exact AOps.nil ⟨Z, Z⟩
   apply d6.go; exact Z; exact Z; exact Z; intro E hE; (refine AOps.E Z Z Z Z Z Z ?_); exact AOps.nil ⟨Z, Z⟩
   refine d6.no Z (d6.no Z (d6.no Z (d6.no Z (d6.no Z (d6.no Z ?_)))))
   apply d6.go; exact Z; exact Z; exact Z; intro E hE; (refine W.build Z Z Z Z ?_); exact AOps.nil ⟨Z, Z⟩
   refine d6.no Z ?_
   apply d6.eff; exact Z; exact Z; exact Z; exact Z; intro E hE; (refine W.storeAgg Z Z Z Z Z Z Z ?_); exact AOps.nil ⟨Z, Z⟩
   exact d6.nil
  refine w5.cons ?_ ?_
  ·refine d6.no Z (d6.no Z (d6.no Z (d6.no Z (d6.no Z (d6.no Z (d6.no Z (d6.no Z (d6.no Z (d6.no Z (d6.no Z (d6.nil)))))))))))
  exact w5.nil
 dsimp only [i8]
 refine b6 (.q (.q (.u (W.fieldAddr Z Z Z Z (.E Z Z Z Z Z Z (S.len Z Z (fun hl17 => .j Z Z (.nil (b6 (.aa (.virtB 4 i6 (b := 4) (o := 3) Z Z Z Z Z Z ?_)))))))))))
 obtain ⟨c55, ho1, h⟩ := bind_some h
 refine AWP.forS ho1 (fun t56 c55 => ⟨[(2, .c (.ptr 1 0 0)), (3, .c (.ptr 4 0 0)), (16, .c (row 4 i6 t.operators)), (17, .c (int (t.operators.length : Int))), (18, .c (int t56))], [.dead, .one (.cells 4 [[int 0, .imm (.val nL), .imm (.val nL), .imm (.val nL)]]), .one (vec 1 intI a10), .one (vec 1 intI a13), .one (.cells 4 [[int t.facts, .own 2 0 a10.length, .own 3 0 a13.length, .own 5 0 c55.length]]), .one (vec 4 i6 c55)]⟩) (fun c55 e st => e = .exit 0 ∧ Sub (V5 t) st ⟨[(2, .c (.ptr 1 0 0)), (3, .c (.ptr 4 0 0))], [.dead, .one (.cells 4 [[int 0, .imm (.val nL), .imm (.val nL), .imm (.val nL)]]), .one (vec 1 intI a10), .one (vec 1 intI a13), .one (.cells 4 [[int t.facts, .own 2 0 a10.length, .own 3 0 a13.length, .own 5 0 c55.length]]), .one (vec 4 i6 c55)]⟩) ?_ ?_ ?_ ?_
 ·try dsimp only
  exact Sub.cut ⟨Z, Z, Z, Z, Z, Y⟩ Z ⟨.dead, .one Z, .vec, .vec, (.eq Z (by first | rfl | (simp only [List.length_set]; done))), .vec, Y⟩ Z
 ·intro t56 c55 hlot56 hltt56 _
  try dsimp only
  refine AWP.q (.u (.F Z Z Z (.nil (b6 (.q (.ah Z hltt56 (.exit (f5 (f5 ⟨Z, ?_⟩)))))))))
  exact Sub.env ⟨Z, Z, Y⟩
 ·intro t56 c55 o hlot56 hltt56 h
  unfold V4 at h
  try dsimp only at h ⊢
  refine AWP.q (.u (.F Z Z Z (.nil (b6 (.q (.ai Z hltt56 (.skip (b6 (.q (.aa (.q ?_)))))))))))
  obtain ⟨a20, ha20, h⟩ := bind_some h
  refine AWP.u (S.idx ha20 Z Z Z Z (W.loadIAgg Z Z Z Z Z (W.alloc Z Z Z Z (W.storeAgg Z Z Z Z Z Z Z (.nil (b6 ?_))))))
  obtain ⟨a26, ha26, a29, ha29, a32, ha32, h⟩ := b3 h
  obtain ⟨a37, ha37, h⟩ := bind_some h
  refine AWP.drawEI [14, 15, 17] mixed Z Z Z ?_
  refine d5.consN Z Z (fun E => W.fieldAddr Z Z Z Z .N) Z (.consN Z Z (fun E => AOps.E Z Z Z Z Z Z .N) Z (.consN Z Z (fun E => W.fieldAddr Z Z Z Z .N) Z (.consN Z Z (fun E => AOps.E Z Z Z Z Z Z .N) Z (.consN Z Z (fun E => AOps.J Z Z Z Z (m8.data (f7 ha26)) Z .N) Z (.consN Z Z (fun E => W.fieldAddr Z Z Z Z .N) Z (.consN Z Z (fun E => AOps.E Z Z Z Z Z Z .N) Z (.consN Z Z (fun E => AOps.J Z Z Z Z (m8.data (f7 ha29)) Z .N) Z (.consN Z Z (fun E => W.fieldAddr Z Z Z Z .N) Z (.consN Z Z (fun E => AOps.E Z Z Z Z Z Z .N) Z (.consN Z Z (fun E => AOps.J Z Z Z Z (m8.data (f7 ha32)) Z .N) Z (.consN Z Z (fun E => W.fieldAddr Z Z Z Z .N) Z (.consN Z Z (fun E => AOps.E Z Z Z Z Z Z .N) Z (.consN Z Z (fun E => W.build Z Z Z Z .N) Z ?_)))))))))))))
  apply d5.consE; exact Z; exact Z; intro E
  refine S.lit (f := i6) (l := [(⟨a26, a29, a32, a20.cost⟩ : e6)]) (ess := [[row 1 intI a26, row 1 intI a29, row 1 intI a32, int a20.cost]]) Z Z Z Z Z Z Z ⟨⟨.inl Z, .inl Z, .inl Z, .inl Z, Y⟩, Y⟩ Z Z Z .N
  exact Z
  exact Z
  apply d5.consE; exact Z; exact Z; intro E
  refine S.append (f := i6) ha37 Z Z Z Z Z Z (.own Z Z) Z Z Z Z .N
  exact Z
  exact Z
  refine d5.consN Z Z (fun E => W.fieldAddr Z Z Z Z .N) Z ?_
  apply d5.consE (v := .undef); exact Z; exact Z; intro E
  refine W.store Z Z Z Z Z .N
  exact Z
  exact Z
  refine d5.done Z ?_ ?_
  ·refine c9.cons Z Z ?_ ?_
   refine b7.go Z Z (fun E => W.fieldAddr Z Z Z Z .N) ?_
   refine b7.go Z Z (fun E => W.fieldAddr Z Z Z Z .N) ?_
   refine b7.skip Z (b7.skip Z (b7.nil))
   refine c9.cons Z Z ?_ ?_
   refine b7.go Z Z (fun E => AOps.E Z Z Z Z Z Z .N) ?_
   refine b7.go Z Z (fun E => AOps.E Z Z Z Z Z Z .N) ?_
   refine b7.skip Z (b7.skip Z (b7.nil))
   refine c9.cons Z Z ?_ ?_
   refine b7.go Z Z (fun E => W.fieldAddr Z Z Z Z .N) ?_
   refine b7.skip Z (b7.skip Z (b7.skip Z (b7.nil)))
   refine c9.cons Z Z ?_ ?_
   refine b7.go Z Z (fun E => AOps.E Z Z Z Z Z Z .N) ?_
   refine b7.skip Z (b7.skip Z (b7.skip Z (b7.nil)))
   refine c9.cons Z Z ?_ ?_
   refine b7.go Z Z (fun E => AOps.J Z Z Z Z (m8.data (f7 ha26)) Z .N) ?_
   refine b7.skip Z (b7.skip Z (b7.skip Z (b7.nil)))
   refine c9.cons Z Z ?_ ?_
   refine b7.go Z Z (fun E => W.fieldAddr Z Z Z Z .N) ?_
   refine b7.skip Z (b7.skip Z (b7.skip Z (b7.nil)))
   refine c9.cons Z Z ?_ ?_
   refine b7.go Z Z (fun E => AOps.E Z Z Z Z Z Z .N) ?_
   refine b7.skip Z (b7.skip Z (b7.skip Z (b7.nil)))
   refine c9.cons Z Z ?_ ?_
   refine b7.go Z Z (fun E => AOps.J Z Z Z Z (m8.data (f7 ha29)) Z .N) ?_
   refine b7.skip Z (b7.skip Z (b7.skip Z (b7.nil)))
   refine c9.cons Z Z ?_ ?_
   refine b7.go Z Z (fun E => W.fieldAddr Z Z Z Z .N) ?_
   refine b7.skip Z (b7.skip Z (b7.skip Z (b7.nil)))
   refine c9.cons Z Z ?_ ?_
   refine b7.go Z Z (fun E => AOps.E Z Z Z Z Z Z .N) ?_
   refine b7.skip Z (b7.skip Z (b7.skip Z (b7.nil)))
   refine c9.cons Z Z ?_ ?_
   refine b7.go Z Z (fun E => AOps.J Z Z Z Z (m8.data (f7 ha32)) Z .N) ?_
   refine b7.skip Z (b7.skip Z (b7.skip Z (b7.nil)))
   refine c9.cons Z Z ?_ ?_
   refine b7.go Z Z (fun E => W.fieldAddr Z Z Z Z .N) ?_
   refine b7.skip Z (b7.skip Z (b7.skip Z (b7.nil)))
   refine c9.cons Z Z ?_ ?_
   refine b7.go Z Z (fun E => AOps.E Z Z Z Z Z Z .N) ?_
   refine b7.skip Z (b7.skip Z (b7.skip Z (b7.nil)))
   refine c9.cons Z Z ?_ ?_
   refine b7.go Z Z (fun E => W.build Z Z Z Z .N) ?_
   refine b7.skip Z (b7.skip Z (b7.skip Z (b7.nil)))
   refine c9.skip Z (c9.skip Z ?_)
   refine c9.cons Z Z ?_ ?_
   refine b7.skip Z (b7.skip Z ?_)
   refine b7.go Z Z (fun E => W.fieldAddr Z Z Z Z .N) ?_
   refine b7.skip Z (b7.nil)
   refine c9.skip Z (c9.nil)
  dsimp only [i8]
  refine g9 (b6 (.j (env' := [(2, .c (.ptr 1 0 0)), (3, .c (.ptr 4 0 0)), (16, .c (row 4 i6 t.operators)), (17, .c (int (t.operators.length : Int))), (18, .c (int t56))]) (σ' := [.dead, .one (.cells 4 [[int 0, .imm (.val nL), .imm (.val nL), .imm (.val nL)]]), .one (vec 1 intI a10), .one (vec 1 intI a13), .one (.cells 4 [[int t.facts, .own 2 0 a10.length, .own 3 0 a13.length, .own 5 0 a37.length]]), .one (vec 4 i6 a37), .one (.cells 4 [[row 1 intI a20.pre, row 1 intI a20.add, row 1 intI a20.del, int a20.cost]]), .one (vec 4 i6 [(⟨a26, a29, a32, a20.cost⟩ : e6)])]) 5 8 Z Z Z ⟨Z, Z, Z, Z, Z, Y⟩ Z ⟨trivial, ⟨Z, Z⟩, ⟨Blk.im_ok _ _ _, j5 Z⟩, ⟨Blk.im_ok _ _ _, j5 Z⟩, ⟨Z, Z⟩, ⟨Blk.im_ok _ _ _, j5 Z⟩, ⟨Z, Z⟩, ⟨Blk.im_ok _ _ _, j5 Z⟩, Y⟩ (.u (.add Z Z Z (by omega) (.j Z Z (.nil ?_))))))
  obtain rfl := oi h
  refine b6 (Sub.cut ⟨Z, Z, Z, Z, Z, Y⟩ Z ⟨.dead, .one Z, .vec, .vec, .one Z, .vec, Y⟩ Z)
 ·intro e s hq
  obtain ⟨rfl, hs⟩ := hq
  refine ⟨_, hs, ?_⟩
  refine m7 (b6 (.q (.u (W.loadAgg Z Z Z Z Z Z Z (W.storeAgg Z Z Z Z Z Z Z (.nil (b6 (.ret ?_))))))))
  obtain rfl := oi h
  exact ⟨⟨[(2, .c (.ptr 1 0 0))], [.dead, .one (.cells 4 [[int t.facts, .own 2 0 a10.length, .own 3 0 a13.length, .own 5 0 c55.length]]), .one (vec 1 intI a10), .one (vec 1 intI a13), .dead, .one (vec 4 i6 c55)]⟩, Sub.cut ⟨Z, Y⟩ Z ⟨.dead, .one Z, .vec, .vec, .dead, .vec, Y⟩ Z, Done.ret Z ⟨Z, Z⟩⟩
theorem aj2 {t : d7} {op : Int} {r : d7 × f4} (h : I9 t op = some r) : e7 prog 30 [.agg (tT t), .c (int op)] (.tup [.agg (tT r.1), .agg [int r.2.code, int r.2.index]]) := by
 unfold e7
 refine FnOk.enter (rs := [.cell 4 25 4, .cell 5 27 2]) func30 Z ntmps30 results30 Z ⟨rv _ Z, rv _ Z, Y⟩ (by kernel_rfl) Z ?_
 unfold I9 at h
 refine AWP.q (.u (W.box Z Z Z Z Z Z (W.alloc Z Z Z Z (W.alloc Z Z Z Z (.nil (b6 (.q (.q ?_))))))))
 obtain ⟨a10, ha10, h⟩ := bind_some h
 refine AWP.u (W.loadAgg Z Z Z Z Z Z Z (.j Z Z (.J Z Z Z Z (O8 ha10) Z (W.alloc Z Z Z Z (W.storeAgg Z Z Z Z Z Z Z (.nil (b6 (.q (.u (W.loadAgg Z Z Z Z Z Z Z (W.build Z Z Z Z (.neqP Z Z Z Z Z Z Z (.nil (b6 (.ad Z h (fun hc3 h => ?_) (fun hc3 h => ?_))))))))))))))))
 ·refine AWP.q (.drawEI [2, 3] mixed Z Z Z ?_)
  refine d5.consN Z Z (fun E => W.build Z Z Z Z .N) Z (.consN Z Z (fun E => W.loadAgg Z Z Z Z Z Z Z .N) Z ?_)
  apply d5.consE (v := .undef); exact Z; exact Z; intro E
  refine W.storeAgg Z Z Z Z Z Z Z .N
  exact Z
  exact Z
  apply d5.consE (v := .undef); exact Z; exact Z; intro E
  refine W.storeAgg Z Z Z Z Z Z Z .N
  exact Z
  exact Z
  refine d5.done Z ?_ ?_
  ·refine c9.cons Z Z ?_ ?_
   refine b7.go Z Z (fun E => W.build Z Z Z Z .N) ?_
   refine b7.skip Z (b7.skip Z (b7.nil))
   refine c9.cons Z Z ?_ ?_
   refine b7.go Z Z (fun E => W.loadAgg Z Z Z Z Z Z Z .N) ?_
   refine b7.go Z Z (fun E => W.loadAgg Z Z Z Z Z Z Z .N) ?_
   refine b7.skip Z (b7.nil)
   refine c9.skip Z (c9.skip Z (c9.nil))
  dsimp only [i8]
  refine b6 (.nilB (b := 1) [int 0, row 1 intI [], row 1 intI [], row 4 i6 []] Z (by exact ⟨.inl Z, .inr ⟨Z, _, Z⟩, .inr ⟨Z, _, Z⟩, .inr ⟨Z, _, Z⟩, Y⟩) Z Z (.ret (d9 ?_)))
  obtain rfl := oi h
  exact Done.ret Z Z
 ·refine AWP.skip (b6 (.q ?_))
  obtain ⟨a17, ha17, h⟩ := bind_some h
  refine AWP.u (W.loadAgg Z Z Z Z Z Z Z (.callF (r2 := .agg [int t.facts, .own 6 0 a17.1.length, .own 7 0 a17.2.1.length, .own 9 0 a17.2.2.length]) (σ'' := [.one (.cells 4 [(tT t)]), .one (.cells 4 [[int 0, .imm (.val nL), .imm (.val nL), .imm (.val nL)]]), .one (.cells 2 [[int 0, int 0]]), .one (.cells 2 [[int a10.code, int a10.index]]), .dead, .one (.cells 4 [[int t.facts, .own 6 0 a17.1.length, .own 7 0 a17.2.1.length, .own 9 0 a17.2.2.length]]), .one (vec 1 intI a17.1), .one (vec 1 intI a17.2.1), .dead, .one (vec 4 i6 a17.2.2)]) Z Z Z (FnOk.lend [] (ah1 ha17) Z Z Z Z Z Z (by exact trivial) Z (by exact trivial) Z Z (by exact ⟨(.old Z Z Z), (.old Z Z Z), (.old Z Z Z), (.old Z Z Z), .dead, (.new 1 Z Z (.one Z)), (.new 2 Z Z .vec), (.new 3 Z Z .vec), .dead, (.new 5 Z Z .vec), Y⟩)) (W.alloc Z Z Z Z (W.storeAgg Z Z Z Z Z Z Z (.nil (b6 (.q ?_)))))))
  obtain ⟨a23, ha23, h⟩ := bind_some h
  refine AWP.u (W.fieldAddr Z Z Z Z (.E Z Z Z Z Z Z (.j Z Z (.j Z Z (S.add Z Z Z (S.delete (f := i6) ha23 Z Z Z Z Z Z Z Z (W.fieldAddr Z Z Z Z (W.store Z Z Z Z Z (.nil (b6 (.q (.j (env' := [(4, .c (.ptr 1 0 0)), (5, .c (.ptr 2 0 0)), (7, .c (.ptr 10 0 0))]) (σ' := [.one (.cells 4 [(tT t)]), .one (.cells 4 [[int 0, .imm (.val nL), .imm (.val nL), .imm (.val nL)]]), .one (.cells 2 [[int 0, int 0]]), .one (.cells 2 [[int a10.code, int a10.index]]), .dead, .dead, .one (vec 1 intI a17.1), .one (vec 1 intI a17.2.1), .dead, .one (vec 4 i6 a23), .one (.cells 4 [[int t.facts, .own 6 0 a17.1.length, .own 7 0 a17.2.1.length, .own 9 0 a23.length]])]) 9 11 Z Z Z ⟨Z, Z, Z, Y⟩ Z ⟨⟨Z, Z⟩, ⟨Z, Z⟩, ⟨Z, Z⟩, ⟨Z, Z⟩, trivial, trivial, ⟨Blk.im_ok _ _ _, j5 Z⟩, ⟨Blk.im_ok _ _ _, j5 Z⟩, trivial, ⟨Blk.im_ok _ _ _, j5 Z⟩, ⟨Z, Z⟩, Y⟩ (.u (W.loadAgg Z Z Z Z Z Z Z (W.build Z Z Z Z (W.storeAgg Z Z Z Z Z Z Z (W.storeAgg Z Z Z Z Z Z Z (.nil (b6 (.frzV (id := 6) (l := a17.1) (env2 := [(4, .c (.ptr 1 0 0)), (5, .c (.ptr 2 0 0))]) (σ2 := [.one (.cells 4 [(tT t)]), .one (.cells 4 [[int t.facts, row 1 intI a17.1, .own 7 0 a17.2.1.length, .own 9 0 a23.length]]), .one (.cells 2 [[int 0, int 0]]), .one (.cells 2 [[int a10.code, int a10.index]]), .dead, .dead, .dead, .one (vec 1 intI a17.2.1), .dead, .one (vec 4 i6 a23), .one (.cells 4 [[int t.facts, row 1 intI a17.1, .own 7 0 a17.2.1.length, .own 9 0 a23.length]])]) Z Z (by exact ⟨⟨_, Z, .inl ⟨Z, Z⟩⟩, ⟨_, Z, .inl ⟨Z, Z⟩⟩, Y⟩) Z (by exact ⟨⟨Z, .inl ⟨Z, Z⟩, .inl ⟨Z, Z⟩, .inl ⟨Z, Z⟩, .inl ⟨Z, Z⟩, Y⟩, ⟨Z, .inl ⟨Z, Z⟩, .inr ⟨_, Z, Z, Z⟩, .inl ⟨Z, Z⟩, .inl ⟨Z, Z⟩, Y⟩, ⟨Z, .inl ⟨Z, Z⟩, .inl ⟨Z, Z⟩, Y⟩, ⟨Z, .inl ⟨Z, Z⟩, .inl ⟨Z, Z⟩, Y⟩, trivial, trivial, trivial, FrzB.vec, trivial, FrzB.vec, ⟨Z, .inl ⟨Z, Z⟩, .inr ⟨_, Z, Z, Z⟩, .inl ⟨Z, Z⟩, .inl ⟨Z, Z⟩, Y⟩, Y⟩) (.frzV (id := 7) (l := a17.2.1) (env2 := [(4, .c (.ptr 1 0 0)), (5, .c (.ptr 2 0 0))]) (σ2 := [.one (.cells 4 [(tT t)]), .one (.cells 4 [[int t.facts, row 1 intI a17.1, row 1 intI a17.2.1, .own 9 0 a23.length]]), .one (.cells 2 [[int 0, int 0]]), .one (.cells 2 [[int a10.code, int a10.index]]), .dead, .dead, .dead, .dead, .dead, .one (vec 4 i6 a23), .one (.cells 4 [[int t.facts, row 1 intI a17.1, row 1 intI a17.2.1, .own 9 0 a23.length]])]) Z Z (by exact ⟨⟨_, Z, .inl ⟨Z, Z⟩⟩, ⟨_, Z, .inl ⟨Z, Z⟩⟩, Y⟩) Z (by exact ⟨⟨Z, .inl ⟨Z, Z⟩, .inl ⟨Z, Z⟩, .inl ⟨Z, Z⟩, .inl ⟨Z, Z⟩, Y⟩, ⟨Z, .inl ⟨Z, Z⟩, .inl ⟨Z, Z⟩, .inr ⟨_, Z, Z, Z⟩, .inl ⟨Z, Z⟩, Y⟩, ⟨Z, .inl ⟨Z, Z⟩, .inl ⟨Z, Z⟩, Y⟩, ⟨Z, .inl ⟨Z, Z⟩, .inl ⟨Z, Z⟩, Y⟩, trivial, trivial, trivial, trivial, trivial, FrzB.vec, ⟨Z, .inl ⟨Z, Z⟩, .inl ⟨Z, Z⟩, .inr ⟨_, Z, Z, Z⟩, .inl ⟨Z, Z⟩, Y⟩, Y⟩) (.frzV (id := 9) (l := a23) (env2 := [(4, .c (.ptr 1 0 0)), (5, .c (.ptr 2 0 0))]) (σ2 := [.one (.cells 4 [(tT t)]), .one (.cells 4 [[int t.facts, row 1 intI a17.1, row 1 intI a17.2.1, row 4 i6 a23]]), .one (.cells 2 [[int 0, int 0]]), .one (.cells 2 [[int a10.code, int a10.index]]), .dead, .dead, .dead, .dead, .dead, .dead, .one (.cells 4 [[int t.facts, row 1 intI a17.1, row 1 intI a17.2.1, row 4 i6 a23]])]) Z Z (by exact ⟨⟨_, Z, .inl ⟨Z, Z⟩⟩, ⟨_, Z, .inl ⟨Z, Z⟩⟩, Y⟩) Z (by exact ⟨⟨Z, .inl ⟨Z, Z⟩, .inl ⟨Z, Z⟩, .inl ⟨Z, Z⟩, .inl ⟨Z, Z⟩, Y⟩, ⟨Z, .inl ⟨Z, Z⟩, .inl ⟨Z, Z⟩, .inl ⟨Z, Z⟩, .inr ⟨_, Z, Z, Z⟩, Y⟩, ⟨Z, .inl ⟨Z, Z⟩, .inl ⟨Z, Z⟩, Y⟩, ⟨Z, .inl ⟨Z, Z⟩, .inl ⟨Z, Z⟩, Y⟩, trivial, trivial, trivial, trivial, trivial, trivial, ⟨Z, .inl ⟨Z, Z⟩, .inl ⟨Z, Z⟩, .inl ⟨Z, Z⟩, .inr ⟨_, Z, Z, Z⟩, Y⟩, Y⟩) (.ret ?_)))))))))))))))))))))))
  obtain rfl := oi h
  exact Done.ret Z Z
theorem L6 {t : d7} {op : Int} {r : Int × f4} (h : u9 t op = some r) : e7 prog 10 [.agg (tT t), .c (int op)] (.tup [.c (int r.1), .agg [int r.2.code, int r.2.index]]) := by
 unfold e7
 refine FnOk.enter (rs := [.t 4, .cell 5 27 2]) func10 Z ntmps10 results10 Z ⟨trivial, rv _ Z, Y⟩ (by kernel_rfl) Z ?_
 unfold u9 at h
 refine AWP.q (.u (W.box Z Z Z Z Z Z (.v Z Z (W.alloc Z Z Z Z (.nil (b6 (.q (.q ?_))))))))
 obtain ⟨a11, ha11, h⟩ := bind_some h
 refine AWP.u (W.loadAgg Z Z Z Z Z Z Z (.j Z Z (.J Z Z Z Z (O9 ha11) Z (W.alloc Z Z Z Z (W.storeAgg Z Z Z Z Z Z Z (.nil (b6 (.q (.u (W.loadAgg Z Z Z Z Z Z Z (W.build Z Z Z Z (.neqP Z Z Z Z Z Z Z (.nil (b6 (.ad Z h (fun hc3 h => ?_) (fun hc3 h => ?_))))))))))))))))
 ·refine AWP.q (.drawEI [2] mixed Z Z Z ?_)
  refine d5.consN Z Z (fun E => W.loadAgg Z Z Z Z Z Z Z .N) Z (.consN Z Z (fun E => AOps.v Z Z .N) Z ?_)
  apply d5.consE (v := .undef); exact Z; exact Z; intro E
  refine W.storeAgg Z Z Z Z Z Z Z .N
  exact Z
  exact Z
  refine d5.done Z ?_ ?_
  ·refine c9.cons Z Z ?_ ?_
   refine b7.go Z Z (fun E => W.loadAgg Z Z Z Z Z Z Z .N) ?_
   refine b7.skip Z (b7.nil)
   refine c9.cons Z Z ?_ ?_
   refine b7.go Z Z (fun E => AOps.v Z Z .N) ?_
   refine b7.skip Z (b7.nil)
   refine c9.skip Z (c9.nil)
  dsimp only [i8]
  refine b6 (.ret (d9 ?_))
  obtain rfl := oi h
  exact Done.ret Z Z
 ·refine AWP.skip (b6 (.q ?_))
  obtain ⟨a19, ha19, h⟩ := bind_some h
  refine AWP.u (W.loadAgg Z Z Z Z Z Z Z (.j Z Z (.J Z Z Z Z (aj2 ha19) Z (.j Z Z (.ac Z Z Z (.ac Z Z Z (W.alloc Z Z Z Z (W.alloc Z Z Z Z (W.storeAgg Z Z Z Z Z Z Z (W.storeAgg Z Z Z Z Z Z Z (.nil (b6 (.q (.q (.u (W.loadAgg Z Z Z Z Z Z Z (W.build Z Z Z Z (.neqP Z Z Z Z Z Z Z (.nil (b6 (.ad Z h (fun hc4 h => ?_) (fun hc4 h => ?_))))))))))))))))))))))
  ·refine AWP.q (.drawEI [2] mixed Z Z Z ?_)
   refine d5.consN Z Z (fun E => W.loadAgg Z Z Z Z Z Z Z .N) Z (.consN Z Z (fun E => AOps.v Z Z .N) Z ?_)
   apply d5.consE (v := .undef); exact Z; exact Z; intro E
   refine W.storeAgg Z Z Z Z Z Z Z .N
   exact Z
   exact Z
   refine d5.done Z ?_ ?_
   ·refine c9.cons Z Z ?_ ?_
    refine b7.go Z Z (fun E => W.loadAgg Z Z Z Z Z Z Z .N) ?_
    refine b7.skip Z (b7.nil)
    refine c9.cons Z Z ?_ ?_
    refine b7.go Z Z (fun E => AOps.v Z Z .N) ?_
    refine b7.skip Z (b7.nil)
    refine c9.skip Z (c9.nil)
   dsimp only [i8]
   refine b6 (.ret (d9 ?_))
   obtain rfl := oi h
   exact Done.ret Z Z
  ·refine AWP.skip (b6 (.q ?_))
   obtain ⟨a27, ha27, h⟩ := bind_some h
   refine AWP.u (W.loadAgg Z Z Z Z Z Z Z (.J Z Z Z Z (J7 ha27) Z (.ac Z Z Z (.ac Z Z Z (.v Z Z (W.storeAgg Z Z Z Z Z Z Z (.nil (b6 (.ret ?_)))))))))
   obtain rfl := oi h
   exact Done.ret Z Z
theorem ref1_Has_ok {l : List Int} {nv : Int} {r : Bool} (h : V7 l nv = some r) : e7 prog 26 [.c (row 1 intI l), .c (int nv)] (.c (bool r)) := by
 unfold e7
 refine FnOk.enter (rs := [.t 4]) func26 Z ntmps26 results26 Z ⟨trivial, Y⟩ (by kernel_rfl) Z ?_
 unfold V7 at h
 refine AWP.q (.u (.v Z Z (.nil (b6 (.q (.q (.u (.v Z Z (.nil (b6 (.aa ?_)))))))))))
 obtain ⟨oo, ho1, h⟩ := bind_some h
 refine AWP.rngS ho1 (fun iv3 _ => ⟨[(0, .c (row 1 intI l)), (1, .c (int nv)), (5, .c (int iv3))], []⟩) (fun o e st => match o with | .inl _ => e = .exit 0 ∧ Sub [] st ⟨[], []⟩ | .inr x => e = .ret ∧ Done [.t 4] (fun t _ => t = .c (bool x)) .ret st) ?_ ?_ ?_ ?_
 ·try dsimp only
  exact Sub.env ⟨Z, Z, Z, Y⟩
 ·intro iv3 s hloiv3 hltiv3 _
  try dsimp only
  refine AWP.q (.q (.u (.j Z Z (.j Z Z (S.len Z Z (fun hl8 => .F Z Z Z (.nil (b6 (.ah Z hltiv3 (.exit (f5 (f5 ⟨Z, ?_⟩))))))))))))
  exact Sub.env trivial
 ·intro iv3 s o hloiv3 hltiv3 h
  unfold ae0 at h
  try dsimp only at h ⊢
  refine AWP.q (.q (.u (.j Z Z (.j Z Z (S.len Z Z (fun hl8 => .F Z Z Z (.nil (b6 (.ai Z hltiv3 (.skip (b6 (.q (.aa (.q ?_))))))))))))))
  obtain ⟨a14, ha14, h⟩ := bind_some h
  refine AWP.u (.j Z Z (.j Z Z (S.idx ha14 Z Z Z Z (.ag Z Z Z Z (.j Z Z (.ab Z Z Z (.nil (b6 (.ite Z h (fun hc4 h => ?_) (fun hc4 h => ?_))))))))))
  ·refine AWP.q (.u (.v Z Z (.nil (b6 (.ret (n2 (d9 ?_)))))))
   obtain rfl := oi h
   refine d9 ⟨_, Z, Z, ?_⟩
   exact Done.ret Z Z
  ·refine AWP.skip (g9 (b6 (.u (.j Z Z (.add Z Z Z (by omega) (.v Z Z (.nil ?_)))))))
   obtain rfl := oi h
   refine b6 ⟨_, Z, ?_⟩
   exact Sub.env ⟨Z, Z, Z, Y⟩
 ·intro e s hq
  rcases oo with u | x
  ·try dsimp only at h hq
   obtain ⟨rfl, hs⟩ := hq
   refine ⟨_, hs, ?_⟩
   refine m7 (b6 (.q (.u (.v Z Z (.nil (b6 (.ret ?_)))))))
   obtain rfl := oi h
   exact Done.ret Z Z
  ·try dsimp only at h hq
   obtain ⟨rfl, hs⟩ := hq
   refine ⟨_, Sub.refl _ _, ?_⟩
   refine n2 (d9 ?_)
   obtain rfl := oi h
   exact hs
theorem ab5 {r : d7} (h : S3 = some r) : e7 prog 32 [] (.agg (tT r)) := by
 unfold e7
 refine FnOk.enter (rs := [.cell 0 25 4]) func32 Z ntmps32 results32 Z ⟨rv _ Z, Y⟩ (by kernel_rfl) Z ?_
 unfold S3 at h
 refine AWP.q (.u (W.alloc Z Z Z Z (.nil (b6 (.q (.u (S.lit (f := intI) (l := [0]) (ess := [[int 0]]) Z Z Z Z Z Z Z ⟨⟨.inl Z, Y⟩, Y⟩ Z Z Z (S.lit (f := intI) (l := [1]) (ess := [[int 1]]) Z Z Z Z Z Z Z ⟨⟨.inl Z, Y⟩, Y⟩ Z Z Z (S.lit (f := intI) (l := [0]) (ess := [[int 0]]) Z Z Z Z Z Z Z ⟨⟨.inl Z, Y⟩, Y⟩ Z Z Z (S.lit (f := intI) (l := [1]) (ess := [[int 1]]) Z Z Z Z Z Z Z ⟨⟨.inl Z, Y⟩, Y⟩ Z Z Z (S.lit (f := intI) (l := [0]) (ess := [[int 0]]) Z Z Z Z Z Z Z ⟨⟨.inl Z, Y⟩, Y⟩ Z Z Z (W.build Z Z Z Z (S.lit (f := intI) (l := [1]) (ess := [[int 1]]) Z Z Z Z Z Z Z ⟨⟨.inl Z, Y⟩, Y⟩ Z Z Z (W.build Z Z Z Z ?_))))))))))))))
 refine AOps.frzV (id := 3) (l := [0]) (env2 := [(0, .c (.ptr 0 0 0)), (1, .c (.own 1 0 ([0].length))), (2, .c (.own 2 0 ([1].length))), (6, .agg [row 1 intI [0], .own 4 0 ([1].length), .own 5 0 ([0].length), int 1]), (8, .agg [.imm (.val nL), .own 6 0 ([1].length), .imm (.val nL), int 3])]) (σ2 := [.one (.cells 4 [[int 0, .imm (.val nL), .imm (.val nL), .imm (.val nL)]]), .one (vec 1 intI [0]), .one (vec 1 intI [1]), .dead, .one (vec 1 intI [1]), .one (vec 1 intI [0]), .one (vec 1 intI [1])]) Z Z (by exact ⟨⟨_, Z, .inl ⟨Z, Z⟩⟩, ⟨_, Z, .inl ⟨Z, Z⟩⟩, ⟨_, Z, .inl ⟨Z, Z⟩⟩, ⟨_, Z, ⟨.inr ⟨_, Z, Z, Z⟩, .inl ⟨Z, Z⟩, .inl ⟨Z, Z⟩, .inl ⟨Z, Z⟩, Y⟩⟩, ⟨_, Z, ⟨.inl ⟨Z, Z⟩, .inl ⟨Z, Z⟩, .inl ⟨Z, Z⟩, .inl ⟨Z, Z⟩, Y⟩⟩, Y⟩) Z (by exact ⟨⟨Z, .inl ⟨Z, Z⟩, .inl ⟨Z, Z⟩, .inl ⟨Z, Z⟩, .inl ⟨Z, Z⟩, Y⟩, FrzB.vec, FrzB.vec, trivial, FrzB.vec, FrzB.vec, FrzB.vec, Y⟩) ?_; refine AOps.frzV (id := 4) (l := [1]) (env2 := [(0, .c (.ptr 0 0 0)), (1, .c (.own 1 0 ([0].length))), (2, .c (.own 2 0 ([1].length))), (6, .agg [row 1 intI [0], row 1 intI [1], .own 5 0 ([0].length), int 1]), (8, .agg [.imm (.val nL), .own 6 0 ([1].length), .imm (.val nL), int 3])]) (σ2 := [.one (.cells 4 [[int 0, .imm (.val nL), .imm (.val nL), .imm (.val nL)]]), .one (vec 1 intI [0]), .one (vec 1 intI [1]), .dead, .dead, .one (vec 1 intI [0]), .one (vec 1 intI [1])]) Z Z (by exact ⟨⟨_, Z, .inl ⟨Z, Z⟩⟩, ⟨_, Z, .inl ⟨Z, Z⟩⟩, ⟨_, Z, .inl ⟨Z, Z⟩⟩, ⟨_, Z, ⟨.inl ⟨Z, Z⟩, .inr ⟨_, Z, Z, Z⟩, .inl ⟨Z, Z⟩, .inl ⟨Z, Z⟩, Y⟩⟩, ⟨_, Z, ⟨.inl ⟨Z, Z⟩, .inl ⟨Z, Z⟩, .inl ⟨Z, Z⟩, .inl ⟨Z, Z⟩, Y⟩⟩, Y⟩) Z (by exact ⟨⟨Z, .inl ⟨Z, Z⟩, .inl ⟨Z, Z⟩, .inl ⟨Z, Z⟩, .inl ⟨Z, Z⟩, Y⟩, FrzB.vec, FrzB.vec, trivial, trivial, FrzB.vec, FrzB.vec, Y⟩) ?_; refine AOps.frzV (id := 5) (l := [0]) (env2 := [(0, .c (.ptr 0 0 0)), (1, .c (.own 1 0 ([0].length))), (2, .c (.own 2 0 ([1].length))), (6, .agg [row 1 intI [0], row 1 intI [1], row 1 intI [0], int 1]), (8, .agg [.imm (.val nL), .own 6 0 ([1].length), .imm (.val nL), int 3])]) (σ2 := [.one (.cells 4 [[int 0, .imm (.val nL), .imm (.val nL), .imm (.val nL)]]), .one (vec 1 intI [0]), .one (vec 1 intI [1]), .dead, .dead, .dead, .one (vec 1 intI [1])]) Z Z (by exact ⟨⟨_, Z, .inl ⟨Z, Z⟩⟩, ⟨_, Z, .inl ⟨Z, Z⟩⟩, ⟨_, Z, .inl ⟨Z, Z⟩⟩, ⟨_, Z, ⟨.inl ⟨Z, Z⟩, .inl ⟨Z, Z⟩, .inr ⟨_, Z, Z, Z⟩, .inl ⟨Z, Z⟩, Y⟩⟩, ⟨_, Z, ⟨.inl ⟨Z, Z⟩, .inl ⟨Z, Z⟩, .inl ⟨Z, Z⟩, .inl ⟨Z, Z⟩, Y⟩⟩, Y⟩) Z (by exact ⟨⟨Z, .inl ⟨Z, Z⟩, .inl ⟨Z, Z⟩, .inl ⟨Z, Z⟩, .inl ⟨Z, Z⟩, Y⟩, FrzB.vec, FrzB.vec, trivial, trivial, trivial, FrzB.vec, Y⟩) ?_; refine AOps.frzV (id := 6) (l := [1]) (env2 := [(0, .c (.ptr 0 0 0)), (1, .c (.own 1 0 ([0].length))), (2, .c (.own 2 0 ([1].length))), (6, .agg [row 1 intI [0], row 1 intI [1], row 1 intI [0], int 1]), (8, .agg [.imm (.val nL), row 1 intI [1], .imm (.val nL), int 3])]) (σ2 := [.one (.cells 4 [[int 0, .imm (.val nL), .imm (.val nL), .imm (.val nL)]]), .one (vec 1 intI [0]), .one (vec 1 intI [1]), .dead, .dead, .dead, .dead]) Z Z (by exact ⟨⟨_, Z, .inl ⟨Z, Z⟩⟩, ⟨_, Z, .inl ⟨Z, Z⟩⟩, ⟨_, Z, .inl ⟨Z, Z⟩⟩, ⟨_, Z, ⟨.inl ⟨Z, Z⟩, .inl ⟨Z, Z⟩, .inl ⟨Z, Z⟩, .inl ⟨Z, Z⟩, Y⟩⟩, ⟨_, Z, ⟨.inl ⟨Z, Z⟩, .inr ⟨_, Z, Z, Z⟩, .inl ⟨Z, Z⟩, .inl ⟨Z, Z⟩, Y⟩⟩, Y⟩) Z (by exact ⟨⟨Z, .inl ⟨Z, Z⟩, .inl ⟨Z, Z⟩, .inl ⟨Z, Z⟩, .inl ⟨Z, Z⟩, Y⟩, FrzB.vec, FrzB.vec, trivial, trivial, trivial, trivial, Y⟩) ?_; refine S.lit (f := i6) (l := [(⟨[0], [1], [0], 1⟩ : e6), (⟨[], [1], [], 3⟩ : e6)]) (ess := [[row 1 intI [0], row 1 intI [1], row 1 intI [0], int 1], [.imm (.val nL), row 1 intI [1], .imm (.val nL), int 3]]) Z Z Z Z Z Z Z ⟨⟨.inl Z, .inl Z, .inl Z, .inl Z, Y⟩, ⟨.inr ⟨Z, _, Z⟩, .inl Z, .inr ⟨Z, _, Z⟩, .inl Z, Y⟩, Y⟩ Z Z Z ?_
 refine W.build Z Z Z Z (W.storeAgg Z Z Z Z Z Z Z (.nil (b6 (.frzV (id := 1) (l := [0]) (env2 := [(0, .c (.ptr 0 0 0))]) (σ2 := [.one (.cells 4 [[int 2, row 1 intI [0], .own 2 0 ([1].length), .own 7 0 (([(⟨[0], [1], [0], 1⟩ : e6), (⟨[], [1], [], 3⟩ : e6)]).length)]]), .dead, .one (vec 1 intI [1]), .dead, .dead, .dead, .dead, .one (vec 4 i6 ([(⟨[0], [1], [0], 1⟩ : e6), (⟨[], [1], [], 3⟩ : e6)]))]) Z Z (by exact ⟨⟨_, Z, .inl ⟨Z, Z⟩⟩, Y⟩) Z (by exact ⟨⟨Z, .inl ⟨Z, Z⟩, .inr ⟨_, Z, Z, Z⟩, .inl ⟨Z, Z⟩, .inl ⟨Z, Z⟩, Y⟩, trivial, FrzB.vec, trivial, trivial, trivial, trivial, FrzB.vec, Y⟩) (.frzV (id := 2) (l := [1]) (env2 := [(0, .c (.ptr 0 0 0))]) (σ2 := [.one (.cells 4 [[int 2, row 1 intI [0], row 1 intI [1], .own 7 0 (([(⟨[0], [1], [0], 1⟩ : e6), (⟨[], [1], [], 3⟩ : e6)]).length)]]), .dead, .dead, .dead, .dead, .dead, .dead, .one (vec 4 i6 ([(⟨[0], [1], [0], 1⟩ : e6), (⟨[], [1], [], 3⟩ : e6)]))]) Z Z (by exact ⟨⟨_, Z, .inl ⟨Z, Z⟩⟩, Y⟩) Z (by exact ⟨⟨Z, .inl ⟨Z, Z⟩, .inl ⟨Z, Z⟩, .inr ⟨_, Z, Z, Z⟩, .inl ⟨Z, Z⟩, Y⟩, trivial, trivial, trivial, trivial, trivial, trivial, FrzB.vec, Y⟩) (.frzV (id := 7) (l := [(⟨[0], [1], [0], 1⟩ : e6), (⟨[], [1], [], 3⟩ : e6)]) (env2 := [(0, .c (.ptr 0 0 0))]) (σ2 := [.one (.cells 4 [[int 2, row 1 intI [0], row 1 intI [1], row 4 i6 ([(⟨[0], [1], [0], 1⟩ : e6), (⟨[], [1], [], 3⟩ : e6)])]]), .dead, .dead, .dead, .dead, .dead, .dead, .dead]) Z Z (by exact ⟨⟨_, Z, .inl ⟨Z, Z⟩⟩, Y⟩) Z (by exact ⟨⟨Z, .inl ⟨Z, Z⟩, .inl ⟨Z, Z⟩, .inl ⟨Z, Z⟩, .inr ⟨_, Z, Z, Z⟩, Y⟩, trivial, trivial, trivial, trivial, trivial, trivial, trivial, Y⟩) (.ret ?_)))))))
 obtain rfl := oi h
 exact Done.ret Z Z
theorem J9 {cost : Int} {least : Int} {r : Int} (h : Q4 cost least = some r) : e7 prog 39 [.c (int cost), .c (int least)] (.c (int r)) := by
 unfold e7
 refine FnOk.enter (rs := [.t 4]) func39 Z ntmps39 results39 Z ⟨trivial, Y⟩ (by kernel_rfl) Z ?_
 unfold Q4 at h
 refine AWP.q (.u (.v Z Z (.nil (b6 (.q (.q (.u (.j Z Z (.ab Z Z Z (.nil (b6 (.ite Z h (fun hc3 h => ?_) (fun hc3 h => ?_)))))))))))))
 ·refine AWP.q (.u (.v Z Z (.nil (b6 (.ret (d9 ?_))))))
  obtain rfl := oi h
  exact Done.ret Z Z
 ·refine AWP.skip (b6 (.q (.u (.j Z Z (.j Z Z (S.sub Z Z Z (.v Z Z (.nil (b6 (.ret ?_))))))))))
  obtain rfl := oi h
  exact Done.ret Z Z
theorem ai9 {t : d7} {op : Int} {r : Int × Int × f4} (h : O0 t op = some r) : e7 prog 18 [.agg (tT t), .c (int op)] (.tup [.c (int r.1), .c (int r.2.1), .agg [int r.2.2.code, int r.2.2.index]]) := by
 unfold e7
 refine FnOk.enter (rs := [.t 4, .t 5, .cell 6 27 2]) func18 Z ntmps18 results18 Z ⟨trivial, trivial, rv _ Z, Y⟩ (by kernel_rfl) Z ?_
 unfold O0 at h
 refine AWP.q (.u (W.box Z Z Z Z Z Z (.v Z Z (.v Z Z (W.alloc Z Z Z Z (.nil (b6 (.q (.q ?_)))))))))
 obtain ⟨a13, ha13, h⟩ := bind_some h
 refine AWP.u (W.loadAgg Z Z Z Z Z Z Z (.j Z Z (.J Z Z Z Z (O9 ha13) Z (W.alloc Z Z Z Z (W.storeAgg Z Z Z Z Z Z Z (.nil (b6 (.q (.u (W.loadAgg Z Z Z Z Z Z Z (W.build Z Z Z Z (.neqP Z Z Z Z Z Z Z (.nil (b6 (.ad Z h (fun hc3 h => ?_) (fun hc3 h => ?_))))))))))))))))
 ·refine AWP.q (.drawEI [3] mixed Z Z Z ?_)
  refine d5.consN Z Z (fun E => W.loadAgg Z Z Z Z Z Z Z .N) Z (.consN Z Z (fun E => AOps.v Z Z .N) Z (.consN Z Z (fun E => AOps.v Z Z .N) Z ?_))
  apply d5.consE (v := .undef); exact Z; exact Z; intro E
  refine W.storeAgg Z Z Z Z Z Z Z .N
  exact Z
  exact Z
  refine d5.done Z ?_ ?_
  ·refine c9.cons Z Z ?_ ?_
   refine b7.go Z Z (fun E => W.loadAgg Z Z Z Z Z Z Z .N) ?_
   refine b7.skip Z (b7.nil)
   refine c9.cons Z Z ?_ ?_
   refine b7.go Z Z (fun E => AOps.v Z Z .N) ?_
   refine b7.skip Z (b7.nil)
   refine c9.cons Z Z ?_ ?_
   refine b7.go Z Z (fun E => AOps.v Z Z .N) ?_
   refine b7.skip Z (b7.nil)
   refine c9.skip Z (c9.nil)
  dsimp only [i8]
  refine b6 (.ret (d9 ?_))
  obtain rfl := oi h
  exact Done.ret Z Z
 ·refine AWP.skip (b6 (.q ?_))
  obtain ⟨a20, ha20, h⟩ := bind_some h
  refine AWP.u (W.loadAgg Z Z Z Z Z Z Z (.J Z Z Z Z (J7 ha20) Z (.j Z Z (.ac Z Z Z (.ac Z Z Z (.v Z Z (W.storeAgg Z Z Z Z Z Z Z (.nil (b6 (.q (.q (.u (W.loadAgg Z Z Z Z Z Z Z (W.build Z Z Z Z (.neqP Z Z Z Z Z Z Z (.nil (b6 (.ad Z h (fun hc4 h => ?_) (fun hc4 h => ?_)))))))))))))))))))
  ·refine AWP.q (.drawEI [3] mixed Z Z Z ?_)
   refine d5.consN Z Z (fun E => W.loadAgg Z Z Z Z Z Z Z .N) Z (.consN Z Z (fun E => AOps.v Z Z .N) Z (.consN Z Z (fun E => AOps.v Z Z .N) Z ?_))
   apply d5.consE (v := .undef); exact Z; exact Z; intro E
   refine W.storeAgg Z Z Z Z Z Z Z .N
   exact Z
   exact Z
   refine d5.done Z ?_ ?_
   ·refine c9.cons Z Z ?_ ?_
    refine b7.go Z Z (fun E => W.loadAgg Z Z Z Z Z Z Z .N) ?_
    refine b7.skip Z (b7.nil)
    refine c9.cons Z Z ?_ ?_
    refine b7.go Z Z (fun E => AOps.v Z Z .N) ?_
    refine b7.skip Z (b7.nil)
    refine c9.cons Z Z ?_ ?_
    refine b7.go Z Z (fun E => AOps.v Z Z .N) ?_
    refine b7.skip Z (b7.nil)
    refine c9.skip Z (c9.nil)
   dsimp only [i8]
   refine b6 (.ret (d9 ?_))
   obtain rfl := oi h
   exact Done.ret Z Z
  ·refine AWP.skip (b6 (.q ?_))
   obtain ⟨a30, ha30, h⟩ := bind_some h
   refine AWP.u (W.loadAgg Z Z Z Z Z Z Z (.j Z Z (.J Z Z Z Z (ab7 ha30) Z (.j Z Z (.ac Z Z Z (.ac Z Z Z (.v Z Z (W.storeAgg Z Z Z Z Z Z Z (.nil (b6 (.q (.q (.u (W.loadAgg Z Z Z Z Z Z Z (W.build Z Z Z Z (.neqP Z Z Z Z Z Z Z (.nil (b6 (.ad Z h (fun hc5 h => ?_) (fun hc5 h => ?_))))))))))))))))))))
   ·refine AWP.q (.drawEI [3] mixed Z Z Z ?_)
    refine d5.consN Z Z (fun E => W.loadAgg Z Z Z Z Z Z Z .N) Z (.consN Z Z (fun E => AOps.v Z Z .N) Z (.consN Z Z (fun E => AOps.v Z Z .N) Z ?_))
    apply d5.consE (v := .undef); exact Z; exact Z; intro E
    refine W.storeAgg Z Z Z Z Z Z Z .N
    exact Z
    exact Z
    refine d5.done Z ?_ ?_
    ·refine c9.cons Z Z ?_ ?_
     refine b7.go Z Z (fun E => W.loadAgg Z Z Z Z Z Z Z .N) ?_
     refine b7.skip Z (b7.nil)
     refine c9.cons Z Z ?_ ?_
     refine b7.go Z Z (fun E => AOps.v Z Z .N) ?_
     refine b7.skip Z (b7.nil)
     refine c9.cons Z Z ?_ ?_
     refine b7.go Z Z (fun E => AOps.v Z Z .N) ?_
     refine b7.skip Z (b7.nil)
     refine c9.skip Z (c9.nil)
    dsimp only [i8]
    refine b6 (.ret (d9 ?_))
    obtain rfl := oi h
    exact Done.ret Z Z
   ·refine AWP.skip (b6 (.q ?_))
    obtain ⟨a40, ha40, h⟩ := bind_some h
    refine AWP.u (W.loadAgg Z Z Z Z Z Z Z (.j Z Z (.J Z Z Z Z (L6 ha40) Z (.j Z Z (.ac Z Z Z (.ac Z Z Z (.v Z Z (W.storeAgg Z Z Z Z Z Z Z (.nil (b6 (.q (.aa (.q (.u (W.loadAgg Z Z Z Z Z Z Z (W.build Z Z Z Z (.neqP Z Z Z Z Z Z Z (.v Z Z (.nil (b6 (.ad Z h (fun hc6 h => ?_) (fun hc6 h => ?_))))))))))))))))))))))
    ·refine AWP.q (.drawEI [3] mixed Z Z Z ?_)
     refine d5.consN Z Z (fun E => W.loadAgg Z Z Z Z Z Z Z .N) Z (.consN Z Z (fun E => AOps.v Z Z .N) Z (.consN Z Z (fun E => AOps.v Z Z .N) Z ?_))
     apply d5.consE (v := .undef); exact Z; exact Z; intro E
     refine W.storeAgg Z Z Z Z Z Z Z .N
     exact Z
     exact Z
     refine d5.done Z ?_ ?_
     ·refine c9.cons Z Z ?_ ?_
      refine b7.go Z Z (fun E => W.loadAgg Z Z Z Z Z Z Z .N) ?_
      refine b7.skip Z (b7.nil)
      refine c9.cons Z Z ?_ ?_
      refine b7.go Z Z (fun E => AOps.v Z Z .N) ?_
      refine b7.skip Z (b7.nil)
      refine c9.cons Z Z ?_ ?_
      refine b7.go Z Z (fun E => AOps.v Z Z .N) ?_
      refine b7.skip Z (b7.nil)
      refine c9.skip Z (c9.nil)
     dsimp only [i8]
     refine b6 (.ret (n2 (d9 ?_)))
     obtain rfl := oi h
     exact Done.ret Z Z
    ·refine AWP.q (.u (.j Z Z (.ab Z Z Z (.v Z Z (.nil (b6 (.ite Z h (fun hc7 h => ?_) (fun hc7 h => ?_))))))))
     ·refine AWP.q (.u (W.build Z Z Z Z (.v Z Z (.v Z Z (W.storeAgg Z Z Z Z Z Z Z (.nil (b6 (.ret (n2 (d9 ?_))))))))))
      obtain rfl := oi h
      exact Done.ret Z Z
     ·refine AWP.skip (g9 (b6 (.q ?_)))
      obtain ⟨a54, ha54, a57, ha57, h⟩ := b2 h
      refine AWP.drawEI [9] mixed Z Z Z ?_
      refine d5.consN Z Z (fun E => AOps.j Z Z .N) Z (.consN Z Z (fun E => AOps.j Z Z .N) Z (.consN Z Z (fun E => AOps.J Z Z Z Z (J9 ha54) Z .N) Z (.consN Z Z (fun E => AOps.j Z Z .N) Z (.consN Z Z (fun E => AOps.j Z Z .N) Z (.consN Z Z (fun E => AOps.J Z Z Z Z (J9 ha57) Z .N) Z (.consN Z Z (fun E => W.loadAgg Z Z Z Z Z Z Z .N) Z (.consN Z Z (fun E => AOps.v Z Z .N) Z (.consN Z Z (fun E => AOps.v Z Z .N) Z ?_))))))))
      apply d5.consE (v := .undef); exact Z; exact Z; intro E
      refine W.storeAgg Z Z Z Z Z Z Z .N
      exact Z
      exact Z
      refine d5.done Z ?_ ?_
      ·refine c9.cons Z Z ?_ ?_
       refine b7.go Z Z (fun E => AOps.j Z Z .N) ?_
       refine b7.skip Z (b7.nil)
       refine c9.cons Z Z ?_ ?_
       refine b7.go Z Z (fun E => AOps.j Z Z .N) ?_
       refine b7.skip Z (b7.nil)
       refine c9.cons Z Z ?_ ?_
       refine b7.go Z Z (fun E => AOps.J Z Z Z Z (J9 ha54) Z .N) ?_
       refine b7.skip Z (b7.nil)
       refine c9.cons Z Z ?_ ?_
       refine b7.go Z Z (fun E => AOps.j Z Z .N) ?_
       refine b7.skip Z (b7.nil)
       refine c9.cons Z Z ?_ ?_
       refine b7.go Z Z (fun E => AOps.j Z Z .N) ?_
       refine b7.skip Z (b7.nil)
       refine c9.cons Z Z ?_ ?_
       refine b7.go Z Z (fun E => AOps.J Z Z Z Z (J9 ha57) Z .N) ?_
       refine b7.skip Z (b7.nil)
       refine c9.cons Z Z ?_ ?_
       refine b7.go Z Z (fun E => W.loadAgg Z Z Z Z Z Z Z .N) ?_
       refine b7.skip Z (b7.nil)
       refine c9.cons Z Z ?_ ?_
       refine b7.go Z Z (fun E => AOps.v Z Z .N) ?_
       refine b7.skip Z (b7.nil)
       refine c9.cons Z Z ?_ ?_
       refine b7.go Z Z (fun E => AOps.v Z Z .N) ?_
       refine b7.skip Z (b7.nil)
       refine c9.skip Z (c9.nil)
      dsimp only [i8]
      refine b6 (.ret ?_)
      obtain rfl := oi h
      exact Done.ret Z Z
theorem V6 {r : Bool} (h : I3 = some r) : e7 prog 12 [] (.c (bool r)) := by
 unfold e7
 refine FnOk.enter (rs := [.t 0]) func12 Z ntmps12 results12 Z ⟨trivial, Y⟩ (by kernel_rfl) Z ?_
 unfold I3 at h
 refine AWP.q (.u (.v Z Z (.nil (b6 (.q ?_)))))
 obtain ⟨a9, ha9, a10, ha10, h⟩ := b2 h
 refine AWP.u (.J Z Z Z Z (ab5 ha9) Z (.J Z Z Z Z (ab7 ha10) Z (.j Z Z (.ac Z Z Z (.ac Z Z Z (W.alloc Z Z Z Z (.v Z Z (W.storeAgg Z Z Z Z Z Z Z (.nil (b6 (.q ?_)))))))))))
 obtain ⟨a14, ha14, a15, ha15, h⟩ := b2 h
 refine AWP.u (.J Z Z Z Z (ab5 ha14) Z (.J Z Z Z Z (L6 ha15) Z (.j Z Z (.ac Z Z Z (.ac Z Z Z (W.alloc Z Z Z Z (.v Z Z (W.storeAgg Z Z Z Z Z Z Z (.nil (b6 (.q ?_)))))))))))
 obtain ⟨a19, ha19, a20, ha20, h⟩ := b2 h
 refine AWP.u (.J Z Z Z Z (ab5 ha19) Z (.J Z Z Z Z (ai9 ha20) Z (.j Z Z (.ac Z Z Z (.ac Z Z Z (.ac Z Z Z (W.alloc Z Z Z Z (.v Z Z (.v Z Z (W.storeAgg Z Z Z Z Z Z Z (.nil (b6 (.seqJ (⟨[(0, .c (bool (((((((decide (a10.2.code = 0)) && (decide (a15.2.code = 0))) && (decide (a20.2.2.code = 0))) && (decide (a10.1 = 3))) && (decide (a15.1 = 3))) && (decide (a20.1 = 0))) && (decide (a20.2.1 = 2)))))], [.one (.cells 2 [[int a10.2.code, int a10.2.index]]), .one (.cells 2 [[int a15.2.code, int a15.2.index]]), .one (.cells 2 [[int a20.2.2.code, int a20.2.2.index]])]⟩) ?_ ?_)))))))))))))
 ·rcases bft (decide (a10.2.code = 0)) with hb1 | hb1
  ·rcases bft (decide (a15.2.code = 0)) with hb2 | hb2
   ·rcases bft (decide (a20.2.2.code = 0)) with hb3 | hb3
    ·rcases bft (decide (a10.1 = 3)) with hb4 | hb4
     ·rcases bft (decide (a15.1 = 3)) with hb5 | hb5
      ·rcases bft (decide (a20.1 = 0)) with hb6 | hb6
       ·refine AWP.u (W.fieldAddr Z Z Z Z (.E Z Z Z Z Z Z (.ab Z Z Z (.j Z Z (.z Z Z Z hb1 (W.fieldAddr Z Z Z Z (.z Z Z Z hb1 (.E Z Z Z Z Z Z (.z Z Z Z hb1 (.ab Z Z Z (.O Z hb1 Z Z (.j Z Z (.z Z Z Z hb2 (W.fieldAddr Z Z Z Z (.z Z Z Z hb2 (.E Z Z Z Z Z Z (.z Z Z Z hb2 (.ab Z Z Z (.O Z hb2 Z Z (.j Z Z (.z Z Z Z hb3 (.j Z Z (.z Z Z Z hb3 (.ab Z Z Z (.O Z hb3 Z Z (.j Z Z (.z Z Z Z hb4 (.j Z Z (.z Z Z Z hb4 (.ab Z Z Z (.O Z hb4 Z Z (.j Z Z (.z Z Z Z hb5 (.j Z Z (.z Z Z Z hb5 (.ab Z Z Z (.O Z hb5 Z Z (.j Z Z (.z Z Z Z hb6 (.j Z Z (.z Z Z Z hb6 (.ab Z Z Z (.O Z hb6 Z Z (.v Z Z (.nil (b6 ?_))))))))))))))))))))))))))))))))))))))))))))))
        simp only [q8 hb1, or_t hb1, q8 hb2, or_t hb2, q8 hb3, or_t hb3, q8 hb4, or_t hb4, q8 hb5, or_t hb5, q8 hb6, or_t hb6, Bool.false_or, Bool.true_or, Bool.false_and, Bool.true_and]
        exact Sub.env ⟨Z, Y⟩
       ·refine AWP.u (W.fieldAddr Z Z Z Z (.E Z Z Z Z Z Z (.ab Z Z Z (.j Z Z (.z Z Z Z hb1 (W.fieldAddr Z Z Z Z (.z Z Z Z hb1 (.E Z Z Z Z Z Z (.z Z Z Z hb1 (.ab Z Z Z (.O Z hb1 Z Z (.j Z Z (.z Z Z Z hb2 (W.fieldAddr Z Z Z Z (.z Z Z Z hb2 (.E Z Z Z Z Z Z (.z Z Z Z hb2 (.ab Z Z Z (.O Z hb2 Z Z (.j Z Z (.z Z Z Z hb3 (.j Z Z (.z Z Z Z hb3 (.ab Z Z Z (.O Z hb3 Z Z (.j Z Z (.z Z Z Z hb4 (.j Z Z (.z Z Z Z hb4 (.ab Z Z Z (.O Z hb4 Z Z (.j Z Z (.z Z Z Z hb5 (.j Z Z (.z Z Z Z hb5 (.ab Z Z Z (.O Z hb5 Z Z (.j Z Z (.B Z Z Z hb6 (.B Z Z Z hb6 (.U Z hb6 Z Z (.v Z Z (.nil (b6 ?_))))))))))))))))))))))))))))))))))))))))))))
        simp only [q8 hb1, or_t hb1, q8 hb2, or_t hb2, q8 hb3, or_t hb3, q8 hb4, or_t hb4, q8 hb5, or_t hb5, C5 hb6, or_f hb6, Bool.false_or, Bool.true_or, Bool.false_and, Bool.true_and]
        exact Sub.env ⟨Z, Y⟩
      ·refine AWP.u (W.fieldAddr Z Z Z Z (.E Z Z Z Z Z Z (.ab Z Z Z (.j Z Z (.z Z Z Z hb1 (W.fieldAddr Z Z Z Z (.z Z Z Z hb1 (.E Z Z Z Z Z Z (.z Z Z Z hb1 (.ab Z Z Z (.O Z hb1 Z Z (.j Z Z (.z Z Z Z hb2 (W.fieldAddr Z Z Z Z (.z Z Z Z hb2 (.E Z Z Z Z Z Z (.z Z Z Z hb2 (.ab Z Z Z (.O Z hb2 Z Z (.j Z Z (.z Z Z Z hb3 (.j Z Z (.z Z Z Z hb3 (.ab Z Z Z (.O Z hb3 Z Z (.j Z Z (.z Z Z Z hb4 (.j Z Z (.z Z Z Z hb4 (.ab Z Z Z (.O Z hb4 Z Z (.j Z Z (.B Z Z Z hb5 (.B Z Z Z hb5 (.U Z hb5 Z Z (.j Z Z (.B Z Z Z Z (.B Z Z Z Z (.U Z Z Z Z (.v Z Z (.nil (b6 ?_))))))))))))))))))))))))))))))))))))))))))
       simp only [q8 hb1, or_t hb1, q8 hb2, or_t hb2, q8 hb3, or_t hb3, q8 hb4, or_t hb4, C5 hb5, or_f hb5, Bool.false_or, Bool.true_or, Bool.false_and, Bool.true_and]
       exact Sub.env ⟨Z, Y⟩
     ·refine AWP.u (W.fieldAddr Z Z Z Z (.E Z Z Z Z Z Z (.ab Z Z Z (.j Z Z (.z Z Z Z hb1 (W.fieldAddr Z Z Z Z (.z Z Z Z hb1 (.E Z Z Z Z Z Z (.z Z Z Z hb1 (.ab Z Z Z (.O Z hb1 Z Z (.j Z Z (.z Z Z Z hb2 (W.fieldAddr Z Z Z Z (.z Z Z Z hb2 (.E Z Z Z Z Z Z (.z Z Z Z hb2 (.ab Z Z Z (.O Z hb2 Z Z (.j Z Z (.z Z Z Z hb3 (.j Z Z (.z Z Z Z hb3 (.ab Z Z Z (.O Z hb3 Z Z (.j Z Z (.B Z Z Z hb4 (.B Z Z Z hb4 (.U Z hb4 Z Z (.j Z Z (.B Z Z Z Z (.B Z Z Z Z (.U Z Z Z Z (.j Z Z (.B Z Z Z Z (.B Z Z Z Z (.U Z Z Z Z (.v Z Z (.nil (b6 ?_))))))))))))))))))))))))))))))))))))))))
      simp only [q8 hb1, or_t hb1, q8 hb2, or_t hb2, q8 hb3, or_t hb3, C5 hb4, or_f hb4, Bool.false_or, Bool.true_or, Bool.false_and, Bool.true_and]
      exact Sub.env ⟨Z, Y⟩
    ·refine AWP.u (W.fieldAddr Z Z Z Z (.E Z Z Z Z Z Z (.ab Z Z Z (.j Z Z (.z Z Z Z hb1 (W.fieldAddr Z Z Z Z (.z Z Z Z hb1 (.E Z Z Z Z Z Z (.z Z Z Z hb1 (.ab Z Z Z (.O Z hb1 Z Z (.j Z Z (.z Z Z Z hb2 (W.fieldAddr Z Z Z Z (.z Z Z Z hb2 (.E Z Z Z Z Z Z (.z Z Z Z hb2 (.ab Z Z Z (.O Z hb2 Z Z (.j Z Z (.B Z Z Z hb3 (.B Z Z Z hb3 (.U Z hb3 Z Z (.j Z Z (.B Z Z Z Z (.B Z Z Z Z (.U Z Z Z Z (.j Z Z (.B Z Z Z Z (.B Z Z Z Z (.U Z Z Z Z (.j Z Z (.B Z Z Z Z (.B Z Z Z Z (.U Z Z Z Z (.v Z Z (.nil (b6 ?_))))))))))))))))))))))))))))))))))))))
     simp only [q8 hb1, or_t hb1, q8 hb2, or_t hb2, C5 hb3, or_f hb3, Bool.false_or, Bool.true_or, Bool.false_and, Bool.true_and]
     exact Sub.env ⟨Z, Y⟩
   ·refine AWP.u (W.fieldAddr Z Z Z Z (.E Z Z Z Z Z Z (.ab Z Z Z (.j Z Z (.z Z Z Z hb1 (W.fieldAddr Z Z Z Z (.z Z Z Z hb1 (.E Z Z Z Z Z Z (.z Z Z Z hb1 (.ab Z Z Z (.O Z hb1 Z Z (.j Z Z (.B Z Z Z hb2 (.B Z Z Z hb2 (.B Z Z Z hb2 (.U Z hb2 Z Z (.j Z Z (.B Z Z Z Z (.B Z Z Z Z (.U Z Z Z Z (.j Z Z (.B Z Z Z Z (.B Z Z Z Z (.U Z Z Z Z (.j Z Z (.B Z Z Z Z (.B Z Z Z Z (.U Z Z Z Z (.j Z Z (.B Z Z Z Z (.B Z Z Z Z (.U Z Z Z Z (.v Z Z (.nil (b6 ?_)))))))))))))))))))))))))))))))))))
    simp only [q8 hb1, or_t hb1, C5 hb2, or_f hb2, Bool.false_or, Bool.true_or, Bool.false_and, Bool.true_and]
    exact Sub.env ⟨Z, Y⟩
  ·refine AWP.u (W.fieldAddr Z Z Z Z (.E Z Z Z Z Z Z (.ab Z Z Z (.j Z Z (.B Z Z Z hb1 (.B Z Z Z hb1 (.B Z Z Z hb1 (.U Z hb1 Z Z (.j Z Z (.B Z Z Z Z (.B Z Z Z Z (.B Z Z Z Z (.U Z Z Z Z (.j Z Z (.B Z Z Z Z (.B Z Z Z Z (.U Z Z Z Z (.j Z Z (.B Z Z Z Z (.B Z Z Z Z (.U Z Z Z Z (.j Z Z (.B Z Z Z Z (.B Z Z Z Z (.U Z Z Z Z (.j Z Z (.B Z Z Z Z (.B Z Z Z Z (.U Z Z Z Z (.v Z Z (.nil (b6 ?_))))))))))))))))))))))))))))))))
   simp only [C5 hb1, or_f hb1, Bool.false_or, Bool.true_or, Bool.false_and, Bool.true_and]
   exact Sub.env ⟨Z, Y⟩
 ·refine AWP.ret ?_
  obtain rfl := oi h
  exact Done.ret Z Z
theorem ae6 {part : List Int} {l : List Int} {r : Bool} (h : P7 part l = some r) : e7 prog 27 [.c (row 1 intI part), .c (row 1 intI l)] (.c (bool r)) := by
 unfold e7
 refine FnOk.enter (rs := [.t 4]) func27 Z ntmps27 results27 Z ⟨trivial, Y⟩ (by kernel_rfl) Z ?_
 unfold P7 at h
 refine AWP.q (.u (.v Z Z (.nil (b6 (.q (.q (.u (.v Z Z (.nil (b6 (.aa ?_)))))))))))
 obtain ⟨oo, ho1, h⟩ := bind_some h
 refine AWP.rngS ho1 (fun iv3 _ => ⟨[(0, .c (row 1 intI part)), (1, .c (row 1 intI l)), (5, .c (int iv3))], []⟩) (fun o e st => match o with | .inl _ => e = .exit 0 ∧ Sub [] st ⟨[], []⟩ | .inr x => e = .ret ∧ Done [.t 4] (fun t _ => t = .c (bool x)) .ret st) ?_ ?_ ?_ ?_
 ·try dsimp only
  exact Sub.env ⟨Z, Z, Z, Y⟩
 ·intro iv3 s hloiv3 hltiv3 _
  try dsimp only
  refine AWP.q (.q (.u (.j Z Z (.j Z Z (S.len Z Z (fun hl8 => .F Z Z Z (.nil (b6 (.ah Z hltiv3 (.exit (f5 (f5 ⟨Z, ?_⟩))))))))))))
  exact Sub.env trivial
 ·intro iv3 s o hloiv3 hltiv3 h
  unfold W3 at h
  try dsimp only at h ⊢
  refine AWP.q (.q (.u (.j Z Z (.j Z Z (S.len Z Z (fun hl8 => .F Z Z Z (.nil (b6 (.ai Z hltiv3 (.skip (b6 (.q (.aa (.q ?_))))))))))))))
  obtain ⟨a15, ha15, a17, ha17, h⟩ := b2 h
  refine AWP.u (.j Z Z (.j Z Z (.j Z Z (S.idx ha15 Z Z Z Z (.ag Z Z Z Z (.J Z Z Z Z (ref1_Has_ok ha17) Z (.not Z Z (.nil (b6 (.ad Z h (fun hc4 h => ?_) (fun hc4 h => ?_)))))))))))
  ·refine AWP.q (.u (.v Z Z (.nil (b6 (.ret (n2 (d9 ?_)))))))
   obtain rfl := oi h
   refine d9 ⟨_, Z, Z, ?_⟩
   exact Done.ret Z Z
  ·refine AWP.skip (g9 (b6 (.u (.j Z Z (.add Z Z Z (by omega) (.v Z Z (.nil ?_)))))))
   obtain rfl := oi h
   refine b6 ⟨_, Z, ?_⟩
   exact Sub.env ⟨Z, Z, Z, Y⟩
 ·intro e s hq
  rcases oo with u | x
  ·try dsimp only at h hq
   obtain ⟨rfl, hs⟩ := hq
   refine ⟨_, hs, ?_⟩
   refine m7 (b6 (.q (.u (.v Z Z (.nil (b6 (.ret ?_)))))))
   obtain rfl := oi h
   exact Done.ret Z Z
  ·try dsimp only at h hq
   obtain ⟨rfl, hs⟩ := hq
   refine ⟨_, Sub.refl _ _, ?_⟩
   refine n2 (d9 ?_)
   obtain rfl := oi h
   exact hs
end Ab
end
section
namespace Ab
open Go Go.Proofs
open Try
set_option maxHeartbeats 4000000
set_option linter.all false
attribute [local irreducible] AWP AOps thn inB Done e7 m8 Sub
theorem ae5 {t : d7} {r : (List Int) × f4} (h : C4 t = some r) : e7 prog 21 [.agg (tT t)] (.tup [.c (row 1 intI r.1), .agg [int r.2.code, int r.2.index]]) := by
 unfold e7
 refine FnOk.enter (rs := [.t 2, .cell 3 27 2]) func21 Z ntmps21 results21 Z ⟨trivial, rv _ Z, Y⟩ (by kernel_rfl) Z ?_
 unfold C4 at h
 refine AWP.q (.u (W.box Z Z Z Z Z Z (.v Z Z (W.alloc Z Z Z Z (.nil (b6 (.q (.q ?_))))))))
 obtain ⟨a12, ha12, h⟩ := bind_some h
 refine AWP.u (W.loadAgg Z Z Z Z Z Z Z (.J Z Z Z Z (C0 ha12) Z (W.alloc Z Z Z Z (W.storeAgg Z Z Z Z Z Z Z (.nil (b6 (.q (.u (W.loadAgg Z Z Z Z Z Z Z (W.build Z Z Z Z (.neqP Z Z Z Z Z Z Z (.nil (b6 (.ad Z h (fun hc2 h => ?_) (fun hc2 h => ?_)))))))))))))))
 ·refine AWP.q (.drawEI [2] mixed Z Z Z ?_)
  refine d5.consN Z Z (fun E => W.loadAgg Z Z Z Z Z Z Z .N) Z (.consN Z Z (fun E => AOps.v Z Z .N) Z ?_)
  apply d5.consE (v := .undef); exact Z; exact Z; intro E
  refine W.storeAgg Z Z Z Z Z Z Z .N
  exact Z
  exact Z
  refine d5.done Z ?_ ?_
  ·refine c9.cons Z Z ?_ ?_
   refine b7.go Z Z (fun E => W.loadAgg Z Z Z Z Z Z Z .N) ?_
   refine b7.skip Z (b7.nil)
   refine c9.cons Z Z ?_ ?_
   refine b7.go Z Z (fun E => AOps.v Z Z .N) ?_
   refine b7.skip Z (b7.nil)
   refine c9.skip Z (c9.nil)
  dsimp only [i8]
  refine b6 (.nilrow 1 2 Z (.ret (d9 ?_)))
  obtain rfl := oi h
  exact Done.ret Z Z
 ·refine AWP.skip (b6 (.q ?_))
  obtain ⟨a19, ha19, h⟩ := bind_some h
  refine AWP.u (W.loadAgg Z Z Z Z Z Z Z (.J Z Z Z Z (J7 ha19) Z (.j Z Z (.ac Z Z Z (.ac Z Z Z (W.alloc Z Z Z Z (.v Z Z (W.storeAgg Z Z Z Z Z Z Z (.nil (b6 (.q (.aa (.q (.u (W.loadAgg Z Z Z Z Z Z Z (W.build Z Z Z Z (.neqP Z Z Z Z Z Z Z (.v Z Z (.nil (b6 (.ad Z h (fun hc3 h => ?_) (fun hc3 h => ?_))))))))))))))))))))))
  ·refine AWP.q (.drawEI [2] mixed Z Z Z ?_)
   refine d5.consN Z Z (fun E => W.loadAgg Z Z Z Z Z Z Z .N) Z (.consN Z Z (fun E => AOps.v Z Z .N) Z ?_)
   apply d5.consE (v := .undef); exact Z; exact Z; intro E
   refine W.storeAgg Z Z Z Z Z Z Z .N
   exact Z
   exact Z
   refine d5.done Z ?_ ?_
   ·refine c9.cons Z Z ?_ ?_
    refine b7.go Z Z (fun E => W.loadAgg Z Z Z Z Z Z Z .N) ?_
    refine b7.skip Z (b7.nil)
    refine c9.cons Z Z ?_ ?_
    refine b7.go Z Z (fun E => AOps.v Z Z .N) ?_
    refine b7.skip Z (b7.nil)
    refine c9.skip Z (c9.nil)
   dsimp only [i8]
   refine b6 (.nilrow 1 2 Z (.ret (n2 (d9 ?_))))
   obtain rfl := oi h
   exact Done.ret Z Z
  ·refine AWP.q (.u (.j Z Z (.ab Z Z Z (.v Z Z (.nil (b6 (.ite Z h (fun hc4 h => ?_) (fun hc4 h => ?_))))))))
   ·refine AWP.q (.u (W.build Z Z Z Z (.v Z Z (W.storeAgg Z Z Z Z Z Z Z (.nil (b6 (.nilrow 1 2 Z (.ret (n2 (d9 ?_))))))))))
    obtain rfl := oi h
    exact Done.ret Z Z
   ·refine AWP.skip (g9 (b6 (.q (.u (.v Z Z (.nil (b6 (.q (.q (.u (W.fieldAddr Z Z Z Z (.E Z Z Z Z Z Z (S.len Z Z (fun hl33 => .j Z Z (.nil (b6 (.aa (.virtV 1 intI 7 Z Z Z ?_))))))))))))))))))
    obtain ⟨oo, ho1, h⟩ := bind_some h
    refine AWP.rngS ho1 (fun t6 c5 => ⟨[(1, .c (.ptr 0 0 0)), (3, .c (.ptr 1 0 0)), (7, .c (.own 4 0 c5.length)), (33, .c (int (t.operators.length : Int))), (34, .c (int t6))], [.one (.cells 4 [(tT t)]), .one (.cells 2 [[int 0, int 0]]), .dead, .dead, .one (vec 1 intI c5)]⟩) (fun o e st => match o with | .inl c5 => e = .exit 1 ∧ Sub [] st ⟨[(3, .c (.ptr 1 0 0)), (7, .c (.own 4 0 c5.length))], [.one (.cells 4 [(tT t)]), .one (.cells 2 [[int 0, int 0]]), .dead, .dead, .one (vec 1 intI c5)]⟩ | .inr x => e = .ret ∧ Done [.t 2, .cell 3 27 2] (fun t _ => t = .tup [.c (row 1 intI x.1), .agg [int x.2.code, int x.2.index]]) .ret st) ?_ ?_ ?_ ?_
    ·try dsimp only
     exact Sub.cut ⟨Z, Z, (own_len (by first | rfl | simp only [List.length_set])), Z, Z, Y⟩ Z ⟨.one Z, .one Z, .dead, .dead, .vec, Y⟩ Z
    ·intro t6 c5 hlot6 hltt6 _
     try dsimp only
     refine AWP.q (.u (.F Z Z Z (.nil (b6 (.q (.ah Z hltt6 (.exit (f5 (f5 ⟨Z, ?_⟩)))))))))
     exact Sub.env ⟨Z, Z, Y⟩
    ·intro t6 c5 o hlot6 hltt6 h
     unfold C8 at h
     try dsimp only at h ⊢
     refine AWP.q (.u (.F Z Z Z (.nil (b6 (.q (.ai Z hltt6 (.skip (b6 (.seqF (D1) o (fun c7 => ⟨[(1, .c (.ptr 0 0 0)), (3, .c (.ptr 1 0 0)), (7, .c (.own 7 0 c7.length)), (33, .c (int (t.operators.length : Int))), (34, .c (int t6))], [.one (.cells 4 [(tT t)]), .one (.cells 2 [[int 0, int 0]]), .dead, .dead, .dead, .dead, .dead, .one (vec 1 intI c7)]⟩) (fun c7 h => ?_) ?_)))))))))
     ·unfold D1 at h
      try dsimp only at h ⊢
      refine AWP.u (.add Z Z Z (by omega) (.j Z Z (.nil ?_)))
      obtain rfl := oi h
      refine b6 ⟨_, Z, ?_⟩
      exact (Sub.move (env' := [(1, .c (.ptr 0 0 0)), (3, .c (.ptr 1 0 0)), (7, .c (.own 4 0 c7.length)), (33, .c (int (t.operators.length : Int))), (34, .c (int (t6 + 1)))]) (σ' := [.one (.cells 4 [(tT t)]), .one (.cells 2 [[int 0, int 0]]), .dead, .dead, .one (vec 1 intI c7), .dead, .dead]) 4 7 Z Z Z ⟨Z, Z, Z, Z, Z, Y⟩ Z ⟨⟨Z, Z⟩, ⟨Z, Z⟩, trivial, trivial, ⟨Blk.im_ok _ _ _, j5 Z⟩, trivial, trivial, Y⟩).trans (Sub.cut ⟨Z, Z, Z, Z, Z, Y⟩ Z ⟨.one Z, .one Z, .dead, .dead, .vec, Y⟩ Z)
     ·refine AWP.aa (.q (.u (.j Z Z (.v Z Z (.nil (b6 (.q ?_)))))))
      obtain ⟨a40, ha40, h⟩ := bind_some h
      refine AWP.u (W.loadAgg Z Z Z Z Z Z Z (.j Z Z (.J Z Z Z Z (L6 ha40) Z (.j Z Z (.ac Z Z Z (.ac Z Z Z (W.alloc Z Z Z Z (.v Z Z (W.storeAgg Z Z Z Z Z Z Z (.nil (b6 (.q (.q (.u (W.loadAgg Z Z Z Z Z Z Z (W.build Z Z Z Z (.neqP Z Z Z Z Z Z Z (.nil (b6 (.ad Z h (fun hc8 h => ?_) (fun hc8 h => ?_)))))))))))))))))))))
      ·refine AWP.q (.drawEI [2] mixed Z Z Z ?_)
       refine d5.consN Z Z (fun E => W.loadAgg Z Z Z Z Z Z Z .N) Z (.consN Z Z (fun E => AOps.v Z Z .N) Z ?_)
       apply d5.consE (v := .undef); exact Z; exact Z; intro E
       refine W.storeAgg Z Z Z Z Z Z Z .N
       exact Z
       exact Z
       refine d5.done Z ?_ ?_
       ·refine c9.cons Z Z ?_ ?_
        refine b7.go Z Z (fun E => W.loadAgg Z Z Z Z Z Z Z .N) ?_
        refine b7.skip Z (b7.nil)
        refine c9.cons Z Z ?_ ?_
        refine b7.go Z Z (fun E => AOps.v Z Z .N) ?_
        refine b7.skip Z (b7.nil)
        refine c9.skip Z (c9.nil)
       dsimp only [i8]
       refine b6 (.nilrow 1 2 Z (.ret (d9 (n2 (d9 ?_)))))
       obtain rfl := oi h
       refine d9 ⟨_, Z, Z, ?_⟩
       exact Done.ret Z Z
      ·refine AWP.skip (b6 (.q (.u (.j Z Z (.ab Z Z Z (.nil (b6 (.ite Z h (fun hc9 h => ?_) (fun hc9 h => ?_)))))))))
       ·obtain ⟨a52, ha52, h⟩ := bind_some h
        refine AWP.u (.j Z Z (.j Z Z (S.lit (f := intI) (l := [t6]) (ess := [[int t6]]) Z Z Z Z Z Z Z ⟨⟨.inl Z, Y⟩, Y⟩ Z Z Z (S.append (f := intI) ha52 Z Z Z Z Z Z (.own Z Z) Z Z Z Z (.v Z Z (.nil (g9 (b6 ⟨_, h, ?_⟩))))))))
        exact Sub.cut ⟨Z, Z, Z, Z, Z, Y⟩ Z ⟨.one Z, .one Z, .dead, .dead, .dead, .dead, .dead, .vec, Y⟩ Z
       ·refine AWP.skip (g9 (b6 ⟨_, h, ?_⟩))
        exact (Sub.move (env' := [(1, .c (.ptr 0 0 0)), (3, .c (.ptr 1 0 0)), (7, .c (.own 7 0 c5.length)), (33, .c (int (t.operators.length : Int))), (34, .c (int t6))]) (σ' := [.one (.cells 4 [(tT t)]), .one (.cells 2 [[int 0, int 0]]), .dead, .dead, .dead, .one (.cells 2 [[int a40.2.code, int a40.2.index]]), .dead, .one (vec 1 intI c5)]) 7 4 Z Z Z ⟨Z, Z, Z, Z, Z, Y⟩ Z ⟨⟨Z, Z⟩, ⟨Z, Z⟩, trivial, trivial, trivial, ⟨Z, Z⟩, trivial, ⟨Blk.im_ok _ _ _, j5 Z⟩, Y⟩).trans (Sub.cut ⟨Z, Z, Z, Z, Z, Y⟩ Z ⟨.one Z, .one Z, .dead, .dead, .dead, .dead, .dead, .vec, Y⟩ Z)
    ·intro e s hq
     rcases oo with c5 | x
     ·try dsimp only at h hq
      obtain ⟨rfl, hs⟩ := hq
      refine ⟨_, hs, ?_⟩
      refine m7 (b6 (.q (.u (.j Z Z (W.build Z Z Z Z (.v Z Z (W.storeAgg Z Z Z Z Z Z Z (.nil (b6 (.frzV (id := 4) (l := c5) (env2 := [(2, .c (row 1 intI c5)), (3, .c (.ptr 1 0 0))]) (σ2 := [.one (.cells 4 [(tT t)]), .one (.cells 2 [[int 0, int 0]]), .dead, .dead, .dead]) Z Z (by exact ⟨⟨_, Z, .inr ⟨_, Z, Z, Z⟩⟩, ⟨_, Z, .inl ⟨Z, Z⟩⟩, Y⟩) Z (by exact ⟨⟨Z, .inl ⟨Z, Z⟩, .inl ⟨Z, Z⟩, .inl ⟨Z, Z⟩, .inl ⟨Z, Z⟩, Y⟩, ⟨Z, .inl ⟨Z, Z⟩, .inl ⟨Z, Z⟩, Y⟩, trivial, trivial, trivial, Y⟩) (.ret ?_)))))))))))
      obtain rfl := oi h
      exact Done.ret Z Z
     ·try dsimp only at h hq
      obtain ⟨rfl, hs⟩ := hq
      refine ⟨_, Sub.refl _ _, ?_⟩
      refine n2 (d9 ?_)
      obtain rfl := oi h
      exact hs
theorem strips_Steps_ok {operators : Int} {plan : List Int} {r : f4} (h : N3 operators plan = some r) : e7 prog 67 [.c (int operators), .c (row 1 intI plan)] (.agg [int r.code, int r.index]) := by
 unfold e7
 refine FnOk.enter (rs := [.cell 4 27 2]) func67 Z ntmps67 results67 Z ⟨rv _ Z, Y⟩ (by kernel_rfl) Z ?_
 unfold N3 at h
 refine AWP.q (.u (W.alloc Z Z Z Z (.nil (b6 (.q (.q (.u (.j Z Z (S.len Z Z (fun hl8 => .gtr Z Z Z (.nil (b6 (.ite Z h (fun hc3 h => ?_) (fun hc3 h => ?_))))))))))))))
 ·refine AWP.q (.u (W.build Z Z Z Z (W.storeAgg Z Z Z Z Z Z Z (.nil (b6 (.ret (d9 ?_)))))))
  obtain rfl := oi h
  exact Done.ret Z Z
 ·refine AWP.skip (b6 (.q (.q (.u (.j Z Z (S.len Z Z (fun hl12 => .j Z Z (.nil (b6 (.aa ?_))))))))))
  obtain ⟨oo, ho1, h⟩ := bind_some h
  refine AWP.rngS ho1 (fun t4 _ => ⟨[(0, .c (int operators)), (4, .c (.ptr 0 0 0)), (11, .c (row 1 intI plan)), (12, .c (int (plan.length : Int))), (13, .c (int t4))], [.one (.cells 2 [[int 0, int 0]])]⟩) (fun o e st => match o with | .inl _ => e = .exit 0 ∧ Sub [] st ⟨[(4, .c (.ptr 0 0 0))], [.one (.cells 2 [[int 0, int 0]])]⟩ | .inr x => e = .ret ∧ Done [.cell 4 27 2] (fun t _ => t = .agg [int x.code, int x.index]) .ret st) ?_ ?_ ?_ ?_
  ·try dsimp only
   exact Sub.env ⟨Z, Z, Z, Z, Z, Y⟩
  ·intro t4 s hlot4 hltt4 _
   try dsimp only
   refine AWP.q (.u (.F Z Z Z (.nil (b6 (.q (.ah Z hltt4 (.exit (f5 (f5 ⟨Z, ?_⟩)))))))))
   exact Sub.env ⟨Z, Y⟩
  ·intro t4 s o hlot4 hltt4 h
   unfold T7 at h
   try dsimp only at h ⊢
   refine AWP.q (.u (.F Z Z Z (.nil (b6 (.q (.ai Z hltt4 (.skip (b6 (.q (.aa (.q ?_)))))))))))
   obtain ⟨a15, ha15, h⟩ := bind_some h
   refine AWP.u (S.idx ha15 Z Z Z Z (.ag Z Z Z Z (.v Z Z (.nil (b6 (.seqJ (⟨[(0, .c (int operators)), (4, .c (.ptr 0 0 0)), (11, .c (row 1 intI plan)), (12, .c (int (plan.length : Int))), (13, .c (int t4)), (23, .c (bool ((decide (a15 < 0)) || (decide (operators ≤ a15)))))], [.one (.cells 2 [[int 0, int 0]])]⟩) ?_ ?_))))))
   ·rcases bft (decide (a15 < 0)) with hb1 | hb1
    ·refine AWP.u (.j Z Z (.F Z Z Z (.j Z Z (.B Z Z Z hb1 (.B Z Z Z hb1 (.B Z Z Z hb1 (.O Z hb1 Z Z (.nil (b6 ?_)))))))))
     simp only [q8 hb1, or_t hb1, Bool.false_or, Bool.true_or, Bool.false_and, Bool.true_and]
     exact Sub.env ⟨Z, Z, Z, Z, Z, Z, Y⟩
    ·refine AWP.u (.j Z Z (.F Z Z Z (.j Z Z (.z Z Z Z hb1 (.j Z Z (.z Z Z Z hb1 (.j Z Z (.z Z Z Z hb1 (.geq Z Z Z (.U Z hb1 Z Z (.nil (b6 ?_))))))))))))
     simp only [C5 hb1, or_f hb1, Bool.false_or, Bool.true_or, Bool.false_and, Bool.true_and]
     exact Sub.env ⟨Z, Z, Z, Z, Z, Z, Y⟩
   ·refine AWP.ad Z h (fun hc5 h => ?_) (fun hc5 h => ?_)
    ·refine AWP.q (.u (W.build Z Z Z Z (W.storeAgg Z Z Z Z Z Z Z (.nil (b6 (.ret (n2 (d9 ?_))))))))
     obtain rfl := oi h
     refine d9 ⟨_, Z, Z, ?_⟩
     exact Done.ret Z Z
    ·refine AWP.skip (g9 (b6 (.u (.add Z Z Z (by omega) (.j Z Z (.nil ?_))))))
     obtain rfl := oi h
     refine b6 ⟨_, Z, ?_⟩
     exact Sub.env ⟨Z, Z, Z, Z, Z, Y⟩
  ·intro e s hq
   rcases oo with u | x
   ·try dsimp only at h hq
    obtain ⟨rfl, hs⟩ := hq
    refine ⟨_, hs, ?_⟩
    refine m7 (b6 (.q (.u (W.build Z Z Z Z (W.storeAgg Z Z Z Z Z Z Z (.nil (b6 (.ret ?_))))))))
    obtain rfl := oi h
    exact Done.ret Z Z
   ·try dsimp only at h hq
    obtain ⟨rfl, hs⟩ := hq
    refine ⟨_, Sub.refl _ _, ?_⟩
    refine n2 (d9 ?_)
    obtain rfl := oi h
    exact hs
theorem ah2 {t : d7} {plan : List Int} {r : f4} (h : F7 t plan = some r) : e7 prog 46 [.agg (tT t), .c (row 1 intI plan)] (.agg [int r.code, int r.index]) := by
 unfold e7
 refine FnOk.enter (rs := [.cell 4 27 2]) func46 Z ntmps46 results46 Z ⟨rv _ Z, Y⟩ (by kernel_rfl) Z ?_
 unfold F7 at h
 refine AWP.q (.u (W.box Z Z Z Z Z Z (W.alloc Z Z Z Z (.nil (b6 (.q (.q ?_)))))))
 obtain ⟨a7, ha7, h⟩ := bind_some h
 refine AWP.u (W.loadAgg Z Z Z Z Z Z Z (.J Z Z Z Z (C0 ha7) Z (W.alloc Z Z Z Z (W.storeAgg Z Z Z Z Z Z Z (.nil (b6 (.q (.u (W.loadAgg Z Z Z Z Z Z Z (W.build Z Z Z Z (.neqP Z Z Z Z Z Z Z (.nil (b6 (.ad Z h (fun hc3 h => ?_) (fun hc3 h => ?_)))))))))))))))
 ·refine AWP.q (.u (W.loadAgg Z Z Z Z Z Z Z (W.storeAgg Z Z Z Z Z Z Z (.nil (b6 (.ret (d9 ?_)))))))
  obtain rfl := oi h
  exact Done.ret Z Z
 ·refine AWP.skip (b6 (.q ?_))
  obtain ⟨a16, ha16, h⟩ := bind_some h
  refine AWP.u (W.fieldAddr Z Z Z Z (.E Z Z Z Z Z Z (S.len Z Z (fun hl14 => .j Z Z (.J Z Z Z Z (strips_Steps_ok ha16) Z (W.storeAgg Z Z Z Z Z Z Z (.nil (b6 (.ret ?_)))))))))
  obtain rfl := oi h
  exact Done.ret Z Z
theorem X3 {sv : List Int} {part : List Int} {r : Bool} (h : D6 sv part = some r) : e7 prog 69 [.c (row 1 intI sv), .c (row 1 intI part)] (.c (bool r)) := by
 unfold e7
 refine FnOk.enter (rs := [.t 4]) func69 Z ntmps69 results69 Z ⟨trivial, Y⟩ (by kernel_rfl) Z ?_
 unfold D6 at h
 refine AWP.q (.u (.v Z Z (.nil (b6 (.q (.u (.v Z Z (.nil (b6 (.q (.q (.u (.j Z Z (S.len Z Z (fun hl9 => .j Z Z (.nil (b6 (.aa ?_))))))))))))))))))
 obtain ⟨oo, ho1, h⟩ := bind_some h
 refine AWP.rngS ho1 (fun t4 iv3 => ⟨[(0, .c (row 1 intI sv)), (5, .c (int iv3)), (8, .c (row 1 intI part)), (9, .c (int (part.length : Int))), (10, .c (int t4))], []⟩) (fun o e st => match o with | .inl iv3 => e = .exit 0 ∧ Sub [] st ⟨[], []⟩ | .inr x => e = .ret ∧ Done [.t 4] (fun t _ => t = .c (bool x)) .ret st) ?_ ?_ ?_ ?_
 ·try dsimp only
  exact Sub.env ⟨Z, Z, Z, Z, Z, Y⟩
 ·intro t4 iv3 hlot4 hltt4 _
  try dsimp only
  refine AWP.q (.u (.F Z Z Z (.nil (b6 (.q (.ah Z hltt4 (.exit (f5 (f5 ⟨Z, ?_⟩)))))))))
  exact Sub.env trivial
 ·intro t4 iv3 o hlot4 hltt4 h
  unfold I0 at h
  try dsimp only at h ⊢
  refine AWP.q (.u (.F Z Z Z (.nil (b6 (.q (.ai Z hltt4 (.skip (b6 (.q (.aa (.q ?_)))))))))))
  obtain ⟨a12, ha12, h⟩ := bind_some h
  refine AWP.u (S.idx ha12 Z Z Z Z (.ag Z Z Z Z (.v Z Z (.nil (b6 (.q (.aa ?_)))))))
  obtain ⟨iv6, ho2, h⟩ := bind_some h
  refine AWP.loopS ho2 (fun iv5 => ⟨[(0, .c (row 1 intI sv)), (5, .c (int iv5)), (7, .c (int a12)), (8, .c (row 1 intI part)), (9, .c (int (part.length : Int))), (10, .c (int t4))], []⟩) (fun iv6 e st => e = .exit 2 ∧ Sub [] st ⟨[(0, .c (row 1 intI sv)), (5, .c (int iv6)), (7, .c (int a12)), (8, .c (row 1 intI part)), (9, .c (int (part.length : Int))), (10, .c (int t4))], []⟩) ?_ ?_ ?_
  ·try dsimp only
   exact Sub.env ⟨Z, Z, Z, Z, Z, Z, Y⟩
  ·intro iv5 o h
   unfold C3 at h
   try dsimp only at h ⊢
   refine AWP.q ?_
   obtain ⟨t7, hx8, h⟩ := bind_some h
   refine AWP.seqJ (⟨[(0, .c (row 1 intI sv)), (5, .c (int iv5)), (7, .c (int a12)), (8, .c (row 1 intI part)), (9, .c (int (part.length : Int))), (10, .c (int t4)), (25, .c (bool t7))], []⟩) ?_ ?_
   ·rcases bft (decide (iv5 < (sv.length : Int))) with hb9 | hb9
    ·replace hx8 := L8 hb9 hx8
     obtain ⟨a21, ha21, hx8⟩ := bind_some hx8
     refine AWP.u (.j Z Z (.j Z Z (S.len Z Z (fun hl16 => .F Z Z Z (.j Z Z (.z Z Z Z hb9 (.j Z Z (.z Z Z Z hb9 (.j Z Z (.z Z Z Z hb9 (S.idx ha21 Z Z Z Z (.z Z Z Z hb9 (.ag Z Z Z Z (.z Z Z Z hb9 (.j Z Z (.z Z Z Z hb9 (.F Z Z Z (.O Z hb9 Z Z (.nil ?_)))))))))))))))))))
     obtain rfl := oi hx8
     refine b6 (Sub.env ⟨Z, Z, Z, Z, Z, Z, Z, Y⟩)
    ·replace hx8 := M3 hb9 hx8
     refine AWP.u (.j Z Z (.j Z Z (S.len Z Z (fun hl16 => .F Z Z Z (.j Z Z (.B Z Z Z hb9 (.B Z Z Z hb9 (.B Z Z Z hb9 (.B Z Z Z hb9 (.B Z Z Z hb9 (.B Z Z Z hb9 (.U Z hb9 Z Z (.nil ?_)))))))))))))
     obtain rfl := oi hx8
     refine b6 (Sub.env ⟨Z, Z, Z, Z, Z, Z, Z, Y⟩)
   ·refine AWP.ad Z h (fun hc10 h => ?_) (fun hc10 h => ?_)
    ·refine AWP.skip (b6 (.aa (.u (.j Z Z (S.add Z Z Z (.v Z Z (.nil (g9 ?_))))))))
     obtain rfl := oi h
     refine b6 ⟨_, Z, ?_⟩
     exact Sub.env ⟨Z, Z, Z, Z, Z, Z, Y⟩
    ·refine AWP.exit (f5 ?_)
     obtain rfl := oi h
     refine f5 ⟨_, Z, Z, ?_⟩
     exact Sub.env ⟨Z, Z, Z, Z, Z, Z, Y⟩
  ·intro e s hq
   obtain ⟨rfl, hs⟩ := hq
   refine ⟨_, hs, ?_⟩
   refine m7 (b6 ?_)
   obtain ⟨t11, hx12, h⟩ := bind_some h
   refine AWP.seqJ (⟨[(0, .c (row 1 intI sv)), (5, .c (int iv6)), (8, .c (row 1 intI part)), (9, .c (int (part.length : Int))), (10, .c (int t4)), (39, .c (bool t11))], []⟩) ?_ ?_
   ·rcases bft (decide (iv6 = (sv.length : Int))) with hb13 | hb13
    ·replace hx12 := L8 hb13 hx12
     refine AWP.u (.j Z Z (.j Z Z (S.len Z Z (fun hl30 => .ab Z Z Z (.j Z Z (.B Z Z Z hb13 (.B Z Z Z hb13 (.B Z Z Z hb13 (.B Z Z Z hb13 (.B Z Z Z hb13 (.B Z Z Z hb13 (.O Z hb13 Z Z (.nil ?_)))))))))))))
     obtain rfl := oi hx12
     refine b6 (Sub.env ⟨Z, Z, Z, Z, Z, Z, Y⟩)
    ·replace hx12 := M3 hb13 hx12
     obtain ⟨a35, ha35, hx12⟩ := bind_some hx12
     refine AWP.u (.j Z Z (.j Z Z (S.len Z Z (fun hl30 => .ab Z Z Z (.j Z Z (.z Z Z Z hb13 (.j Z Z (.z Z Z Z hb13 (.j Z Z (.z Z Z Z hb13 (S.idx ha35 Z Z Z Z (.z Z Z Z hb13 (.ag Z Z Z Z (.z Z Z Z hb13 (.j Z Z (.z Z Z Z hb13 (.neq Z Z Z (.U Z hb13 Z Z (.nil ?_)))))))))))))))))))
     obtain rfl := oi hx12
     refine b6 (Sub.env ⟨Z, Z, Z, Z, Z, Z, Y⟩)
   ·refine AWP.ad Z h (fun hc14 h => ?_) (fun hc14 h => ?_)
    ·refine AWP.q (.u (.v Z Z (.nil (b6 (.ret (n2 (d9 ?_)))))))
     obtain rfl := oi h
     refine d9 ⟨_, Z, Z, ?_⟩
     exact Done.ret Z Z
    ·refine AWP.skip (g9 (b6 (.u (.add Z Z Z (by omega) (.j Z Z (.nil ?_))))))
     obtain rfl := oi h
     refine b6 ⟨_, Z, ?_⟩
     exact Sub.env ⟨Z, Z, Z, Z, Z, Y⟩
 ·intro e s hq
  rcases oo with iv3 | x
  ·try dsimp only at h hq
   obtain ⟨rfl, hs⟩ := hq
   refine ⟨_, hs, ?_⟩
   refine m7 (b6 (.q (.u (.v Z Z (.nil (b6 (.ret ?_)))))))
   obtain rfl := oi h
   exact Done.ret Z Z
  ·try dsimp only at h hq
   obtain ⟨rfl, hs⟩ := hq
   refine ⟨_, Sub.refl _ _, ?_⟩
   refine n2 (d9 ?_)
   obtain rfl := oi h
   exact hs
theorem strips_Can_ok {t : d7} {sv : List Int} {op : Int} {r : Bool} (h : U7 t sv op = some r) : e7 prog 80 [.agg (tT t), .c (row 1 intI sv), .c (int op)] (.c (bool r)) := by
 unfold e7
 refine FnOk.enter (rs := [.t 6]) func80 Z ntmps80 results80 Z ⟨trivial, Y⟩ (by kernel_rfl) Z ?_
 unfold U7 at h
 refine AWP.q (.u (W.box Z Z Z Z Z Z (.v Z Z (.nil (b6 (.q ?_))))))
 obtain ⟨a11, ha11, a14, ha14, h⟩ := b2 h
 refine AWP.u (.j Z Z (W.fieldAddr Z Z Z Z (.E Z Z Z Z Z Z (.j Z Z (S.idx ha11 Z Z Z Z (W.fieldAddrI Z Z Z Z (.ag Z Z Z Z (.J Z Z Z Z (X3 ha14) Z (.v Z Z (.nil (b6 (.ret ?_))))))))))))
 obtain rfl := oi h
 exact Done.ret Z Z
theorem aj4 {sv : List Int} {add : List Int} {del : List Int} {r : (List Int)} (h : G6 sv add del = some r) : m8 prog 98 [.c (row 1 intI sv), .c (row 1 intI add), .c (row 1 intI del)] 1 (List.map intI r) := by
 unfold m8
 refine FnOk.enter (rs := [.t 6]) func98 Z ntmps98 results98 Z ⟨trivial, Y⟩ (by kernel_rfl) Z ?_
 unfold G6 at h
 refine AWP.q (.u (.v Z Z (.nil (b6 (.q (.u (.v Z Z (.nil (b6 (.q (.q (.u (.j Z Z (S.len Z Z (fun hl13 => .j Z Z (.nil (b6 (.aa (.virtV 1 intI 7 Z Z Z ?_)))))))))))))))))))
 obtain ⟨c4, ho1, h⟩ := bind_some h
 refine AWP.forS ho1 (fun t5 c4 => ⟨[(1, .c (row 1 intI add)), (2, .c (row 1 intI del)), (7, .c (.own 0 0 c4.length)), (12, .c (row 1 intI sv)), (13, .c (int (sv.length : Int))), (14, .c (int t5))], [.one (vec 1 intI c4)]⟩) (fun c4 e st => e = .exit 0 ∧ Sub [] st ⟨[(1, .c (row 1 intI add)), (7, .c (.own 0 0 c4.length))], [.one (vec 1 intI c4)]⟩) ?_ ?_ ?_ ?_
 ·try dsimp only
  exact Sub.env ⟨Z, Z, (own_len (by first | rfl | simp only [List.length_set])), Z, Z, Z, Y⟩
 ·intro t5 c4 hlot5 hltt5 _
  try dsimp only
  refine AWP.q (.u (.F Z Z Z (.nil (b6 (.q (.ah Z hltt5 (.exit (f5 (f5 ⟨Z, ?_⟩)))))))))
  exact Sub.env ⟨Z, Z, Y⟩
 ·intro t5 c4 o hlot5 hltt5 h
  unfold R1 at h
  try dsimp only at h ⊢
  refine AWP.q (.u (.F Z Z Z (.nil (b6 (.q (.ai Z hltt5 (.skip (b6 ?_))))))))
  obtain ⟨c6, hx7, h⟩ := bind_some h
  refine AWP.seqJ (⟨[(1, .c (row 1 intI add)), (2, .c (row 1 intI del)), (7, .c (.own 2 0 c6.length)), (12, .c (row 1 intI sv)), (13, .c (int (sv.length : Int))), (14, .c (int t5))], [.dead, .dead, .one (vec 1 intI c6)]⟩) ?_ ?_
  ·refine AWP.aa (.q ?_)
   obtain ⟨a16, ha16, hx7⟩ := bind_some hx7
   refine AWP.u (S.idx ha16 Z Z Z Z (.ag Z Z Z Z (.v Z Z (.nil (b6 (.q ?_))))))
   obtain ⟨a21, ha21, hx7⟩ := bind_some hx7
   refine AWP.u (.j Z Z (.j Z Z (.J Z Z Z Z (H1 ha21) Z (.j Z Z (.ac Z Z Z (.ac Z Z Z (.v Z Z (.v Z Z (.nil (b6 (.q (.u (.j Z Z (.not Z Z (.nil (b6 (.ad Z hx7 (fun hc8 hx7 => ?_) (fun hc8 hx7 => ?_))))))))))))))))))
   ·obtain ⟨a29, ha29, hx7⟩ := bind_some hx7
    refine AWP.u (.j Z Z (.j Z Z (S.lit (f := intI) (l := [a16]) (ess := [[int a16]]) Z Z Z Z Z Z Z ⟨⟨.inl Z, Y⟩, Y⟩ Z Z Z (S.append (f := intI) ha29 Z Z Z Z Z Z (.own Z Z) Z Z Z Z (.v Z Z (.nil (g9 ?_)))))))
    obtain rfl := oi hx7
    refine b6 (Sub.cut ⟨Z, Z, Z, Z, Z, Z, Y⟩ Z ⟨.dead, .dead, .vec, Y⟩ Z)
   ·refine AWP.skip (g9 ?_)
    obtain rfl := oi hx7
    refine b6 ((Sub.move (env' := [(1, .c (row 1 intI add)), (2, .c (row 1 intI del)), (7, .c (.own 2 0 c4.length)), (12, .c (row 1 intI sv)), (13, .c (int (sv.length : Int))), (14, .c (int t5))]) (σ' := [.dead, .dead, .one (vec 1 intI c4)]) 2 0 Z Z Z ⟨Z, Z, Z, Z, Z, Z, Y⟩ Z ⟨trivial, trivial, ⟨Blk.im_ok _ _ _, j5 Z⟩, Y⟩).trans (Sub.env ⟨Z, Z, Z, Z, Z, Z, Y⟩))
  ·refine AWP.u (.add Z Z Z (by omega) (.j Z Z (.nil ?_)))
   obtain rfl := oi h
   refine b6 ((Sub.move (env' := [(1, .c (row 1 intI add)), (2, .c (row 1 intI del)), (7, .c (.own 0 0 c6.length)), (12, .c (row 1 intI sv)), (13, .c (int (sv.length : Int))), (14, .c (int (t5 + 1)))]) (σ' := [.one (vec 1 intI c6), .dead]) 0 2 Z Z Z ⟨Z, Z, Z, Z, Z, Z, Y⟩ Z ⟨⟨Blk.im_ok _ _ _, j5 Z⟩, trivial, Y⟩).trans (Sub.cut ⟨Z, Z, Z, Z, Z, Z, Y⟩ Z ⟨.vec, Y⟩ Z))
 ·intro e s hq
  obtain ⟨rfl, hs⟩ := hq
  refine ⟨_, hs, ?_⟩
  refine m7 (b6 (.q ?_))
  obtain ⟨a33, ha33, h⟩ := bind_some h
  refine AWP.u (.j Z Z (.j Z Z (S.append (f := intI) ha33 Z Z Z Z Z Z .row Z Z Z Z (.v Z Z (.nil (b6 (.q (.j (env' := [(7, .c (.own 0 0 a33.length))]) (σ' := [.one (vec 1 intI a33)]) 0 1 Z Z Z ⟨Z, Y⟩ Z ⟨⟨Blk.im_ok _ _ _, j5 Z⟩, Y⟩ ?_))))))))
  obtain ⟨a35, ha35, h⟩ := bind_some h
  refine AWP.u (.j Z Z (S.sort ha35 sortL_ok Z Z Z Z Z Z (.nil (b6 (.q (.u (.j Z Z (S.compact compactL_ok Z Z (sortL_len ha35) Z Z Z Z Z (.v Z Z (.nil (b6 (.ret ?_))))))))))))
  obtain rfl := oi h
  exact Done.ret Z (Fresh.mk Z Z)
theorem strips_Next_ok {t : d7} {sv : List Int} {op : Int} {r : (List Int)} (h : Q0 t sv op = some r) : m8 prog 81 [.agg (tT t), .c (row 1 intI sv), .c (int op)] 1 (List.map intI r) := by
 unfold m8
 refine FnOk.enter (rs := [.t 6]) func81 Z ntmps81 results81 Z ⟨trivial, Y⟩ (by kernel_rfl) Z ?_
 unfold Q0 at h
 refine AWP.q (.u (W.box Z Z Z Z Z Z (.v Z Z (.nil (b6 (.q ?_))))))
 obtain ⟨a11, ha11, h⟩ := bind_some h
 refine AWP.u (W.fieldAddr Z Z Z Z (.E Z Z Z Z Z Z (.j Z Z (S.idx ha11 Z Z Z Z (W.loadIAgg Z Z Z Z Z (W.alloc Z Z Z Z (W.storeAgg Z Z Z Z Z Z Z (.nil (b6 (.q ?_))))))))))
 obtain ⟨a18, ha18, h⟩ := bind_some h
 refine AWP.u (.j Z Z (W.fieldAddr Z Z Z Z (.E Z Z Z Z Z Z (W.fieldAddr Z Z Z Z (.E Z Z Z Z Z Z (S.fresh Z Z Z Z (aj4 ha18) Z Z (.v Z Z (.nil (b6 (.ret ?_))))))))))
 obtain rfl := oi h
 exact Done.ret Z (Fresh.mk Z Z)
theorem strips_Run_ok {t : d7} {sv : List Int} {plan : List Int} {r : (List (List Int))} (h : U9 t sv plan = some r) : m8 prog 68 [.agg (tT t), .c (row 1 intI sv), .c (row 1 intI plan)] 1 (List.map eLi64 r) := by
 unfold m8
 refine FnOk.enter (rs := [.t 6]) func68 Z ntmps68 results68 Z ⟨trivial, Y⟩ (by kernel_rfl) Z ?_
 unfold U9 at h
 refine AWP.q (.u (W.box Z Z Z Z Z Z (.v Z Z (.nil (b6 (.q ?_))))))
 obtain ⟨a11, ha11, h⟩ := bind_some h
 refine AWP.u (.j Z Z (S.fresh Z Z Z Z (f7 ha11) Z Z (.frzV (id := 1) (l := a11) (env2 := [(1, .c (row 1 intI sv)), (2, .c (row 1 intI plan)), (3, .c (.ptr 0 0 0)), (11, .c (row 1 intI a11))]) (σ2 := [.one (.cells 4 [(tT t)]), .dead]) Z Z (by exact ⟨⟨_, Z, .inl ⟨Z, Z⟩⟩, ⟨_, Z, .inl ⟨Z, Z⟩⟩, ⟨_, Z, .inl ⟨Z, Z⟩⟩, ⟨_, Z, .inr ⟨_, Z, Z, Z⟩⟩, Y⟩) Z (by exact ⟨⟨Z, .inl ⟨Z, Z⟩, .inl ⟨Z, Z⟩, .inl ⟨Z, Z⟩, .inl ⟨Z, Z⟩, Y⟩, trivial, Y⟩) (S.lit (f := eLi64) (l := [a11]) (ess := [[row 1 intI a11]]) Z Z Z Z Z Z Z ⟨⟨.inl Z, Y⟩, Y⟩ Z Z Z (.v Z Z (.nil (b6 (.q (.q (.u (.j Z Z (S.len Z Z (fun hl14 => .j Z Z (.nil (b6 (.aa ?_))))))))))))))))
 obtain ⟨c7, ho1, h⟩ := bind_some h
 refine AWP.loopS ho1 (fun (c4, sv5, t6) => ⟨[(1, .c (row 1 intI sv5)), (3, .c (.ptr 0 0 0)), (7, .c (.own 2 0 c4.length)), (13, .c (row 1 intI plan)), (14, .c (int (plan.length : Int))), (15, .c (int t6))], [.one (.cells 4 [(tT t)]), .dead, .one (vec 1 eLi64 c4)]⟩) (fun c7 e st => e = .exit 0 ∧ Sub [] st ⟨[(7, .c (.own 2 0 c7.length))], [.dead, .dead, .one (vec 1 eLi64 c7)]⟩) ?_ ?_ ?_
 ·try dsimp only
  exact Sub.env ⟨Z, Z, Z, Z, Z, Z, Y⟩
 ·intro s o h
  obtain ⟨c4, sv5, t6⟩ := s
  unfold Q5 at h
  try dsimp only at h ⊢
  refine AWP.q (.u (.F Z Z Z (.nil (b6 (.q (.ite Z h (fun hc8 h => ?_) (fun hc8 h => ?_)))))))
  ·refine AWP.skip (b6 (.q (.aa (.q ?_))))
   obtain ⟨a17, ha17, h⟩ := bind_some h
   refine AWP.u (S.idx ha17 Z Z Z Z (.ag Z Z Z Z (.v Z Z (.nil (b6 (.q (.q ?_)))))))
   obtain ⟨a22, ha22, h⟩ := bind_some h
   refine AWP.u (W.loadAgg Z Z Z Z Z Z Z (.j Z Z (.j Z Z (.J Z Z Z Z (strips_Can_ok ha22) Z (.not Z Z (.nil (b6 (.ad Z h (fun hc9 h => ?_) (fun hc9 h => ?_)))))))))
   ·refine AWP.exit (f5 (K9 Z (f5 ?_)))
    obtain rfl := oi h
    refine f5 ⟨_, Z, Z, ?_⟩
    exact Sub.cut ⟨Z, Y⟩ Z ⟨.dead, .dead, .vec, Y⟩ Z
   ·refine AWP.skip (b6 (.q ?_))
    obtain ⟨a27, ha27, h⟩ := bind_some h
    refine AWP.u (W.loadAgg Z Z Z Z Z Z Z (.j Z Z (.j Z Z (S.fresh Z Z Z Z (strips_Next_ok ha27) Z Z (.v Z Z (.nil (b6 ?_)))))))
    obtain ⟨a31, ha31, h⟩ := bind_some h
    refine AWP.u (.j Z Z (.j Z Z (.frzV (id := 3) (l := a27) (env2 := [(1, .c (row 1 intI a27)), (3, .c (.ptr 0 0 0)), (13, .c (row 1 intI plan)), (14, .c (int (plan.length : Int))), (15, .c (int t6)), (28, .c (.own 2 0 c4.length)), (29, .c (row 1 intI a27))]) (σ2 := [.one (.cells 4 [(tT t)]), .dead, .one (vec 1 eLi64 c4), .dead]) Z Z (by exact ⟨⟨_, Z, .inr ⟨_, Z, Z, Z⟩⟩, ⟨_, Z, .inl ⟨Z, Z⟩⟩, ⟨_, Z, .inl ⟨Z, Z⟩⟩, ⟨_, Z, .inl ⟨Z, Z⟩⟩, ⟨_, Z, .inl ⟨Z, Z⟩⟩, ⟨_, Z, .inl ⟨Z, Z⟩⟩, ⟨_, Z, .inr ⟨_, Z, Z, Z⟩⟩, Y⟩) Z (by exact ⟨⟨Z, .inl ⟨Z, Z⟩, .inl ⟨Z, Z⟩, .inl ⟨Z, Z⟩, .inl ⟨Z, Z⟩, Y⟩, trivial, FrzB.vec, trivial, Y⟩) (S.lit (f := eLi64) (l := [a27]) (ess := [[row 1 intI a27]]) Z Z Z Z Z Z Z ⟨⟨.inl Z, Y⟩, Y⟩ Z Z Z (S.append (f := eLi64) ha31 Z Z Z Z Z Z (.own Z Z) Z Z Z Z (.v Z Z (.nil (g9 (b6 (.j (env' := [(1, .c (row 1 intI a27)), (3, .c (.ptr 0 0 0)), (7, .c (.own 2 0 a31.length)), (13, .c (row 1 intI plan)), (14, .c (int (plan.length : Int))), (15, .c (int t6))]) (σ' := [.one (.cells 4 [(tT t)]), .dead, .one (vec 1 eLi64 a31), .dead, .one (vec 1 eLi64 [a27])]) 2 5 Z Z Z ⟨Z, Z, Z, Z, Z, Z, Y⟩ Z ⟨⟨Z, Z⟩, trivial, ⟨Blk.im_ok _ _ _, j5 Z⟩, trivial, ⟨Blk.im_ok _ _ _, j5 Z⟩, Y⟩ (.u (S.add Z Z Z (.j Z Z (.nil ?_))))))))))))))
    obtain rfl := oi h
    refine b6 ⟨_, Z, ?_⟩
    exact Sub.cut ⟨Z, Z, Z, Z, Z, Z, Y⟩ Z ⟨.one Z, .dead, .vec, Y⟩ Z
  ·refine AWP.exit (f5 ?_)
   obtain rfl := oi h
   refine f5 ⟨_, Z, Z, ?_⟩
   exact Sub.cut ⟨Z, Y⟩ Z ⟨.dead, .dead, .vec, Y⟩ Z
 ·intro e s hq
  obtain ⟨rfl, hs⟩ := hq
  refine ⟨_, hs, ?_⟩
  refine m7 (b6 (.q (.u (.j Z Z (.v Z Z (.nil (b6 (.ret ?_))))))))
  obtain rfl := oi h
  exact Done.ret Z (Fresh.mk Z Z)
theorem strips_Works_ok {t : d7} {sv : List Int} {plan : List Int} {r : Bool} (h : M4 t sv plan = some r) : e7 prog 47 [.agg (tT t), .c (row 1 intI sv), .c (row 1 intI plan)] (.c (bool r)) := by
 unfold e7
 refine FnOk.enter (rs := [.t 6]) func47 Z ntmps47 results47 Z ⟨trivial, Y⟩ (by kernel_rfl) Z ?_
 unfold M4 at h
 refine AWP.q (.u (W.box Z Z Z Z Z Z (.v Z Z (.nil (b6 (.q ?_))))))
 obtain ⟨a11, ha11, h⟩ := bind_some h
 refine AWP.u (W.loadAgg Z Z Z Z Z Z Z (.j Z Z (.j Z Z (S.fresh Z Z Z Z (strips_Run_ok ha11) Z Z (.v Z Z (.nil (b6 ?_)))))))
 obtain ⟨t4, hx5, h⟩ := bind_some h
 refine AWP.seqJ (⟨[(6, .c (bool t4))], []⟩) ?_ ?_
 ·rcases bft (decide ((a11.length : Int) = w64 ((plan.length : Int) + 1))) with hb6 | hb6
  ·replace hx5 := L8 hb6 hx5
   obtain ⟨a22, ha22, a26, ha26, hx5⟩ := b2 hx5
   refine AWP.drawI mixed Z ?_
   refine k8.consF Z (fun E => AOps.j Z Z .N) Z (.consF Z (fun E => S.lenO Z Z Z (fun hl13 => .nil ⟨Z, Z⟩)) Z (.consF Z (fun E => AOps.j Z Z .N) Z (.consF Z (fun E => S.len Z Z (fun hl15 => .nil ⟨Z, Z⟩)) Z (.consF Z (fun E => S.add Z Z Z .N) Z (.consF Z (fun E => AOps.ab Z Z Z .N) Z (.consF Z (fun E => AOps.j Z Z .N) Z (.consF Z (fun E => AOps.z Z Z Z hb6 (.j Z Z .N)) Z (.consF Z (fun E => AOps.z Z Z Z hb6 (.j Z Z .N)) Z ?_))))))))
   apply k8.consF; exact Z; intro E
   refine AOps.z Z Z Z hb6 ?_; refine S.len Z Z (fun hl21 => ?_)
   exact AOps.nil ⟨Z, Z⟩
   exact Z
   refine k8.consF Z (fun E => AOps.z Z Z Z hb6 (S.idxO ha22 Z Z Z Z Z .N)) Z (.consF Z (fun E => AOps.z Z Z Z hb6 (S.loadO ha22 Z Z Z Z Z .N)) Z (.consF Z (fun E => AOps.z Z Z Z hb6 (W.fieldAddr Z Z Z Z .N)) Z (.consF Z (fun E => AOps.z Z Z Z hb6 (.E Z Z Z Z Z Z .N)) Z (.consF Z (fun E => AOps.z Z Z Z hb6 (.J Z Z Z Z (X3 ha26) Z .N)) Z (.consF Z (fun E => AOps.O Z hb6 Z Z .N) Z (.consF Z (fun E => AOps.v Z Z .N) Z ?_))))))
   refine k8.done ?_
   dsimp only [i8]
   obtain rfl := oi hx5
   refine b6 (Sub.cut ⟨Z, Y⟩ Z trivial Z)
  ·replace hx5 := M3 hb6 hx5
   refine AWP.drawI mixed Z ?_
   refine k8.consF Z (fun E => AOps.j Z Z .N) Z (.consF Z (fun E => S.lenO Z Z Z (fun hl13 => .nil ⟨Z, Z⟩)) Z (.consF Z (fun E => AOps.j Z Z .N) Z (.consF Z (fun E => S.len Z Z (fun hl15 => .nil ⟨Z, Z⟩)) Z (.consF Z (fun E => S.add Z Z Z .N) Z (.consF Z (fun E => AOps.ab Z Z Z .N) Z (.consF Z (fun E => AOps.j Z Z .N) Z (.consF Z (fun E => AOps.B Z Z Z hb6 .N) Z (.consF Z (fun E => AOps.B Z Z Z hb6 .N) Z (.consF Z (fun E => AOps.B Z Z Z hb6 .N) Z (.consF Z (fun E => AOps.B Z Z Z hb6 .N) Z (.consF Z (fun E => AOps.B Z Z Z hb6 .N) Z (.consF Z (fun E => AOps.B Z Z Z hb6 .N) Z (.consF Z (fun E => AOps.B Z Z Z hb6 .N) Z (.consF Z (fun E => AOps.B Z Z Z hb6 .N) Z (.consF Z (fun E => AOps.U Z hb6 Z Z .N) Z (.consF Z (fun E => AOps.v Z Z .N) Z ?_))))))))))))))))
   refine k8.done ?_
   dsimp only [i8]
   obtain rfl := oi hx5
   refine b6 (Sub.cut ⟨Z, Y⟩ Z trivial Z)
 ·refine AWP.ret ?_
  obtain rfl := oi h
  exact Done.ret Z Z
theorem aj6 {t : d7} {plan : List Int} {r : Bool × f4} (h : K2 t plan = some r) : e7 prog 24 [.agg (tT t), .c (row 1 intI plan)] (.tup [.c (bool r.1), .agg [int r.2.code, int r.2.index]]) := by
 unfold e7
 refine FnOk.enter (rs := [.t 4, .cell 5 27 2]) func24 Z ntmps24 results24 Z ⟨trivial, rv _ Z, Y⟩ (by kernel_rfl) Z ?_
 unfold K2 at h
 refine AWP.q (.u (W.box Z Z Z Z Z Z (.v Z Z (W.alloc Z Z Z Z (.nil (b6 (.q (.q ?_))))))))
 obtain ⟨a9, ha9, h⟩ := bind_some h
 refine AWP.u (W.loadAgg Z Z Z Z Z Z Z (.j Z Z (.J Z Z Z Z (ah2 ha9) Z (W.alloc Z Z Z Z (W.storeAgg Z Z Z Z Z Z Z (.nil (b6 (.q (.u (W.loadAgg Z Z Z Z Z Z Z (W.build Z Z Z Z (.neqP Z Z Z Z Z Z Z (.nil (b6 (.ad Z h (fun hc3 h => ?_) (fun hc3 h => ?_))))))))))))))))
 ·refine AWP.q (.drawEI [2] mixed Z Z Z ?_)
  refine d5.consN Z Z (fun E => W.loadAgg Z Z Z Z Z Z Z .N) Z (.consN Z Z (fun E => AOps.v Z Z .N) Z ?_)
  apply d5.consE (v := .undef); exact Z; exact Z; intro E
  refine W.storeAgg Z Z Z Z Z Z Z .N
  exact Z
  exact Z
  refine d5.done Z ?_ ?_
  ·refine c9.cons Z Z ?_ ?_
   refine b7.go Z Z (fun E => W.loadAgg Z Z Z Z Z Z Z .N) ?_
   refine b7.skip Z (b7.nil)
   refine c9.cons Z Z ?_ ?_
   refine b7.go Z Z (fun E => AOps.v Z Z .N) ?_
   refine b7.skip Z (b7.nil)
   refine c9.skip Z (c9.nil)
  dsimp only [i8]
  refine b6 (.ret (d9 ?_))
  obtain rfl := oi h
  exact Done.ret Z Z
 ·refine AWP.skip (b6 (.q ?_))
  obtain ⟨a18, ha18, h⟩ := bind_some h
  refine AWP.u (W.loadAgg Z Z Z Z Z Z Z (W.fieldAddr Z Z Z Z (.E Z Z Z Z Z Z (.j Z Z (.J Z Z Z Z (strips_Works_ok ha18) Z (W.build Z Z Z Z (.v Z Z (W.storeAgg Z Z Z Z Z Z Z (.nil (b6 (.ret ?_)))))))))))
  obtain rfl := oi h
  exact Done.ret Z Z
theorem T1 {t : d7} {plan : List Int} {r : Bool} (h : w7 t plan = some r) : e7 prog 8 [.agg (tT t), .c (row 1 intI plan)] (.c (bool r)) := by
 unfold e7
 refine FnOk.enter (rs := [.t 4]) func8 Z ntmps8 results8 Z ⟨trivial, Y⟩ (by kernel_rfl) Z ?_
 unfold w7 at h
 refine AWP.q (.u (W.box Z Z Z Z Z Z (.v Z Z (.nil (b6 (.q ?_))))))
 obtain ⟨a12, ha12, h⟩ := bind_some h
 refine AWP.u (W.loadAgg Z Z Z Z Z Z Z (.j Z Z (.J Z Z Z Z (aj6 ha12) Z (.j Z Z (.ac Z Z Z (.ac Z Z Z (W.alloc Z Z Z Z (.v Z Z (W.storeAgg Z Z Z Z Z Z Z (.nil (b6 (.q ?_))))))))))))
 obtain ⟨a17, ha17, h⟩ := bind_some h
 refine AWP.u (W.loadAgg Z Z Z Z Z Z Z (.J Z Z Z Z (ae5 ha17) Z (.j Z Z (.ac Z Z Z (.ac Z Z Z (W.alloc Z Z Z Z (.v Z Z (W.storeAgg Z Z Z Z Z Z Z (.nil (b6 (.q (.seqJ (⟨[(1, .c (row 1 intI plan)), (7, .c (row 1 intI a17.1)), (8, .c (.ptr 2 0 0)), (26, .c (bool ((!(decide (a12.2.code = 0))) || (!a12.1))))], [.one (.cells 4 [(tT t)]), .one (.cells 2 [[int a12.2.code, int a12.2.index]]), .one (.cells 2 [[int a17.2.code, int a17.2.index]])]⟩) ?_ ?_))))))))))))
 ·rcases bft (!(decide (a12.2.code = 0))) with hb1 | hb1
  ·refine AWP.u (W.fieldAddr Z Z Z Z (.E Z Z Z Z Z Z (.neq Z Z Z (.j Z Z (.B Z Z Z hb1 (.B Z Z Z hb1 (.O Z hb1 Z Z (.nil (b6 ?_)))))))))
   simp only [q8 hb1, or_t hb1, Bool.false_or, Bool.true_or, Bool.false_and, Bool.true_and]
   exact Sub.env ⟨Z, Z, Z, Z, Y⟩
  ·refine AWP.u (W.fieldAddr Z Z Z Z (.E Z Z Z Z Z Z (.neq Z Z Z (.j Z Z (.z Z Z Z hb1 (.j Z Z (.z Z Z Z hb1 (.not Z Z (.U Z hb1 Z Z (.nil (b6 ?_)))))))))))
   simp only [C5 hb1, or_f hb1, Bool.false_or, Bool.true_or, Bool.false_and, Bool.true_and]
   exact Sub.env ⟨Z, Z, Z, Z, Y⟩
 ·refine AWP.ad Z h (fun hc3 h => ?_) (fun hc3 h => ?_)
  ·refine AWP.q ?_
   obtain ⟨a27, ha27, h⟩ := bind_some h
   refine AWP.u (.J Z Z Z Z (V6 ha27) Z (.v Z Z (.nil (b6 (.ret (d9 ?_))))))
   obtain rfl := oi h
   exact Done.ret Z Z
  ·refine AWP.skip (b6 (.q (.q (.u (W.fieldAddr Z Z Z Z (.E Z Z Z Z Z Z (.neq Z Z Z (.nil (b6 (.iteN Z h (fun hc4 h => ?_) (fun hc4 h => ?_)))))))))))
   ·obtain ⟨t5, hx6, h⟩ := bind_some h
    refine AWP.seqJ (⟨[(4, .c (bool t5))], []⟩) ?_ ?_
    ·rcases bft (decide (a17.2.code = 10)) with hb7 | hb7
     ·replace hx6 := L8 hb7 hx6
      obtain ⟨a35, ha35, hx6⟩ := bind_some hx6
      refine AWP.u (W.fieldAddr Z Z Z Z (.E Z Z Z Z Z Z (.ab Z Z Z (.j Z Z (.z Z Z Z hb7 (.J Z Z Z Z (V6 ha35) Z (.O Z hb7 Z Z (.v Z Z (.nil ?_)))))))))
      obtain rfl := oi hx6
      refine b6 (Sub.cut ⟨Z, Y⟩ Z trivial Z)
     ·replace hx6 := M3 hb7 hx6
      refine AWP.u (W.fieldAddr Z Z Z Z (.E Z Z Z Z Z Z (.ab Z Z Z (.j Z Z (.B Z Z Z hb7 (.U Z hb7 Z Z (.v Z Z (.nil ?_))))))))
      obtain rfl := oi hx6
      refine b6 (Sub.cut ⟨Z, Y⟩ Z trivial Z)
    ·refine AWP.ret (d9 ?_)
     obtain rfl := oi h
     exact Done.ret Z Z
   ·refine AWP.skip (b6 ?_)
    obtain ⟨t8, hx9, h⟩ := bind_some h
    refine AWP.seqJ (⟨[(4, .c (bool t8))], []⟩) ?_ ?_
    ·obtain ⟨a39, ha39, hx9⟩ := bind_some hx9
     rcases bft (a39) with hb10 | hb10
     ·replace hx9 := iteBT hb10 hx9
      obtain ⟨a41, ha41, hx9⟩ := bind_some hx9
      refine AWP.u (.j Z Z (.j Z Z (.J Z Z Z Z (ae6 ha39) Z (.j Z Z (.z Z Z Z hb10 (.J Z Z Z Z (V6 ha41) Z (.O Z hb10 Z Z (.v Z Z (.nil ?_)))))))))
      obtain rfl := oi hx9
      refine b6 (Sub.cut ⟨Z, Y⟩ Z trivial Z)
     ·replace hx9 := iteBF hb10 hx9
      refine AWP.u (.j Z Z (.j Z Z (.J Z Z Z Z (ae6 ha39) Z (.j Z Z (.B Z Z Z hb10 (.U Z hb10 Z Z (.v Z Z (.nil ?_))))))))
      obtain rfl := oi hx9
      refine b6 (Sub.cut ⟨Z, Y⟩ Z trivial Z)
    ·refine AWP.ret ?_
     obtain rfl := oi h
     exact Done.ret Z Z
end Ab
end
section
namespace Ab
open Go
theorem X5 {α : Type} {l : List α} {k : Nat} : ix l (k : Int) = l[k]? := by simp [ix]
theorem p8 {α : Type} {l : List α} {i : Int} (h0 : 0 ≤ i) (h1 : i < l.length) : ∃ a, ix l i = some a ∧ l[i.toNat]? = some a := by
 have h : i.toNat < l.length := by omega
 exact ⟨l[i.toNat], by simp [ix, h0, h], by simp [h]⟩
theorem x6 {α : Type} {l : List α} {i : Int} {a : α} (h : ix l i = some a) : 0 ≤ i ∧ i < l.length ∧ l[i.toNat]? = some a := by
 unfold ix at h
 split at h
 ·have := (List.getElem?_eq_some_iff.1 h).1
  exact ⟨by assumption, by omega, h⟩
 ·cases h
theorem A8 {n : Int} (h1 : -9223372036854775808 ≤ n) (h2 : n ≤ 9223372036854775807) : w64 n = n := w64_eq ⟨h1, h2⟩
theorem forN_inv {S : Type} {body : Int → S → Option S} (P : Int → S → Prop) : ∀ (k : Nat) (i : Int) (s : S), P i s →
  (∀ j s, i ≤ j → j < i + k → P j s → ∃ s', body j s = some s' ∧ P (j + 1) s') → ∃ s', forN body k i s = some s' ∧ P (i + k) s'
 | 0, i, s, h, _ => ⟨s, rfl, by simpa using h⟩
 | k + 1, i, s, h, hb => by
  obtain ⟨s1, h1, h2⟩ := hb i s (Int.le_refl _) (by omega) h
  obtain ⟨s2, h3, h4⟩ := forN_inv P k (i + 1) s1 h2 (fun j s g1 g2 => hb j s (by omega) (by omega))
  exact ⟨s2, by simp only [forN, h1]; exact h3, by rw [show i + ((k + 1 : Nat) : Int) = i + 1 + k by omega]; exact h4⟩
theorem J6 {S : Type} {body : Int → S → Option S} {n : Int} (P : Int → S → Prop) {s : S} (hn : 0 ≤ n) (h0 : P 0 s)
  (hb : ∀ j s, 0 ≤ j → j < n → P j s → ∃ s', body j s = some s' ∧ P (j + 1) s') : ∃ s', forR 0 n body s = some s' ∧ P n s' := by
 obtain ⟨s', h1, h2⟩ := forN_inv P (n - 0).toNat 0 s h0 (fun j s g1 g2 => hb j s g1 (by omega))
 exact ⟨s', h1, by rwa [show (0 : Int) + ((n - 0).toNat : Int) = n by omega] at h2⟩
theorem rngN_inv {S O : Type} {body : Int → S → Option (S ⊕ O)} (P : Int → S → Prop) (Q : O → Prop) : ∀ (k : Nat) (i : Int) (s : S), P i s →
  (∀ j s, i ≤ j → j < i + k → P j s → (∃ s', body j s = some (.inl s') ∧ P (j + 1) s') ∨ ∃ o, body j s = some (.inr o) ∧ Q o) →
  (∃ s', rngN body k i s = some (.inl s') ∧ P (i + k) s') ∨ ∃ o, rngN body k i s = some (.inr o) ∧ Q o
 | 0, i, s, h, _ => .inl ⟨s, rfl, by simpa using h⟩
 | k + 1, i, s, h, hb => by
  rcases hb i s (Int.le_refl _) (by omega) h with ⟨s1, h1, h2⟩ | ⟨o, h1, h2⟩
  ·rcases rngN_inv P Q k (i + 1) s1 h2 (fun j s g1 g2 => hb j s (by omega) (by omega)) with ⟨s2, h3, h4⟩ | ⟨o, h3, h4⟩
   ·exact .inl ⟨s2, by simp only [rngN, h1]; exact h3, by rw [show i + ((k + 1 : Nat) : Int) = i + 1 + k by omega]; exact h4⟩
   ·exact .inr ⟨o, by simp only [rngN, h1]; exact h3, h4⟩
  ·exact .inr ⟨o, by simp only [rngN, h1], h2⟩
theorem af3 {S O : Type} {body : Int → S → Option (S ⊕ O)} {n : Int} (P : Int → S → Prop) (Q : O → Prop) {s : S} (hn : 0 ≤ n) (h0 : P 0 s)
  (hb : ∀ j s, 0 ≤ j → j < n → P j s → (∃ s', body j s = some (.inl s') ∧ P (j + 1) s') ∨ ∃ o, body j s = some (.inr o) ∧ Q o) :
  (∃ s', rngX 0 n body s = some (.inl s') ∧ P n s') ∨ ∃ o, rngX 0 n body s = some (.inr o) ∧ Q o := by
 rcases rngN_inv P Q (n - 0).toNat 0 s h0 (fun j s g1 g2 => hb j s g1 (by omega)) with ⟨s', h1, h2⟩ | h
 ·exact .inl ⟨s', h1, by rwa [show (0 : Int) + ((n - 0).toNat : Int) = n by omega] at h2⟩
 ·exact .inr h
theorem LoopN_inv {S O : Type} {body : S → Option (S ⊕ O)} (P : S → Prop) (Q : O → Prop) (μ : S → Nat) (hb : ∀ s, P s → (∃ s', body s = some (.inl s') ∧ P s' ∧ μ s' < μ s) ∨ ∃ o, body s = some (.inr o) ∧ Q o) :
  ∀ (k : Nat) (s : S), μ s < k → P s → ∃ o, L9 body k s = some o ∧ Q o
 | 0, s, h, _ => by omega
 | k + 1, s, h, hs => by
  rcases hb s hs with ⟨s', h1, h2, h3⟩ | ⟨o, h1, h2⟩
  ·obtain ⟨o, g1, g2⟩ := LoopN_inv P Q μ hb k s' (by omega) h2
   exact ⟨o, by simp only [L9, h1]; exact g1, g2⟩
  ·exact ⟨o, by simp only [L9, h1], h2⟩
theorem Q8 {S O : Type} {body : S → Option (S ⊕ O)} (P : S → Prop) (Q : O → Prop) (μ : S → Nat) {s : S} (hs : P s)
  (hb : ∀ s, P s → (∃ s', body s = some (.inl s') ∧ P s' ∧ μ s' < μ s) ∨ ∃ o, body s = some (.inr o) ∧ Q o) : ∃ o, Loop body s = some o ∧ Q o := by
 obtain ⟨o, h1, h2⟩ := LoopN_inv P Q μ hb (μ s + 1) s (by omega) hs
 exact ⟨o, Loop_iff.2 ⟨_, h1⟩, h2⟩
/-! ### Two loops that do the same -/
theorem rngN_eq {S O : Type} {b1 b2 : Int → S → Option (S ⊕ O)} (P : Int → S → Prop) : ∀ (k : Nat) (i : Int) (s : S), P i s →
  (∀ j s, i ≤ j → j < i + k → P j s → b1 j s = b2 j s ∧ b1 j s ≠ none ∧ ∀ s', b1 j s = some (.inl s') → P (j + 1) s') →
  rngN b1 k i s = rngN b2 k i s ∧ rngN b1 k i s ≠ none ∧ ∀ s', rngN b1 k i s = some (.inl s') → P (i + k) s'
 | 0, i, s, h, _ => ⟨rfl, by simp [rngN], fun s' hs => by simp only [rngN, Option.some.injEq, Sum.inl.injEq] at hs; subst hs; simpa using h⟩
 | k + 1, i, s, h, hb => by
  obtain ⟨h1, h2, h3⟩ := hb i s (Int.le_refl _) (by omega) h
  simp only [rngN]
  rw [← h1]
  cases hc : b1 i s with
  | none => exact absurd hc h2
  | some x =>
   cases x with
   | inr o => exact ⟨rfl, by simp, fun s' hs => by simp at hs⟩
   | inl s1 =>
    dsimp only
    have := rngN_eq (b1 := b1) (b2 := b2) P k (i + 1) s1 (h3 s1 hc) (fun j s g1 g2 => hb j s (by omega) (by omega))
    rwa [show i + 1 + (k : Int) = i + ((k + 1 : Nat) : Int) by omega] at this
theorem rngX_eq {S O : Type} {b1 b2 : Int → S → Option (S ⊕ O)} {n : Int} (P : Int → S → Prop) {s : S} (hn : 0 ≤ n) (h0 : P 0 s)
  (hb : ∀ j s, 0 ≤ j → j < n → P j s → b1 j s = b2 j s ∧ b1 j s ≠ none ∧ ∀ s', b1 j s = some (.inl s') → P (j + 1) s') :
  rngX 0 n b1 s = rngX 0 n b2 s ∧ rngX 0 n b1 s ≠ none ∧ ∀ s', rngX 0 n b1 s = some (.inl s') → P n s' := by
 have := rngN_eq P (n - 0).toNat 0 s h0 (fun j s g1 g2 => hb j s g1 (by omega))
 rwa [show (0 : Int) + ((n - 0).toNat : Int) = n by omega] at this
end Ab
end
section
namespace Ab
open Go
noncomputable def dec (p : Prop) : Bool := @decide p (Classical.propDecidable p)
@[simp] theorem k7 {p : Prop} : dec p = true ↔ p := by simp [dec]
@[simp] theorem dec_false {p : Prop} : dec p = false ↔ ¬ p := by simp [dec]
@[simp] theorem O5 {p : Prop} : (!dec p) = dec (¬ p) := by by_cases h : p <;> simp [dec, h]
theorem decide_dec {p : Prop} [Decidable p] : decide p = dec p := by by_cases h : p <;> simp [dec, h]
theorem l8 {p : Prop} (h : p) : dec p = true := k7.2 h
theorem x9 {p : Prop} (h : ¬ p) : dec p = false := dec_false.2 h
theorem H6 {p q : Prop} (h : p ↔ q) : dec p = dec q := by rw [propext h]
theorem dec_and {p q : Prop} : (dec p && dec q) = dec (p ∧ q) := by by_cases h : p <;> by_cases g : q <;> simp [dec, h, g]
theorem dec_or {p q : Prop} : (dec p || dec q) = dec (p ∨ q) := by by_cases h : p <;> by_cases g : q <;> simp [dec, h, g]
theorem ifP {α : Type} {p : Prop} {a b : α} (h : p) : (if dec p = true then a else b) = a := if_pos (l8 h)
theorem ifN {α : Type} {p : Prop} {a b : α} (h : ¬ p) : (if dec p = true then a else b) = b := if_neg fun g => h (k7.1 g)
theorem ifNN {α : Type} {p : Prop} {a b : α} (h : p) : (if dec (¬ p) = true then a else b) = b := ifN (not_not_intro h)
theorem ix_ltN {α : Type} {l : List α} {k : Nat} (h : k < l.length) : ix l (k : Int) = some l[k] := by rw [X5]; simp [h]
theorem y6 {α : Type} {l : List α} {i : Int} {a : α} (h : ix l i = some a) : a ∈ l := List.mem_of_getElem? (x6 h).2.2
theorem A9 {α : Type} {l : List α} {a : α} (h : a ∈ l) : ∃ i : Int, 0 ≤ i ∧ i < l.length ∧ ix l i = some a := by
 obtain ⟨k, hk⟩ := List.getElem?_of_mem h
 exact ⟨k, by omega, by have := (List.getElem?_eq_some_iff.1 hk).1; omega, by rw [X5, hk]⟩
theorem Y0 {α : Type} {l : List α} {i j : Int} {x : α} (h0 : 0 ≤ i) (h1 : i < l.length) (hj : 0 ≤ j) : ix (l.set i.toNat x) j = if j = i then some x else ix l j := by
 simp only [ix, hj, if_true, List.getElem?_set]
 by_cases h : j = i
 ·subst h; rw [if_pos rfl, if_pos rfl, if_pos (by omega)]
 ·rw [if_neg h, if_neg (by omega)]
theorem X4 {O : Type} {body : Int → Unit → Option (Unit ⊕ O)} {n : Int} (g : Int → Option O) (hn : 0 ≤ n)
  (hb : ∀ j, 0 ≤ j → j < n → (∀ i, 0 ≤ i → i < j → g i = none) → body j () = some (match g j with | none => .inl () | some o => .inr o)) :
  (rngX 0 n body () = some (.inl ()) ∧ ∀ j, 0 ≤ j → j < n → g j = none) ∨ ∃ j o, 0 ≤ j ∧ j < n ∧ g j = some o ∧ (∀ i, 0 ≤ i → i < j → g i = none) ∧ rngX 0 n body () = some (.inr o) := by
 rcases af3 (body := body) (n := n) (fun j _ => ∀ i, 0 ≤ i → i < j → g i = none) (fun o => ∃ j, 0 ≤ j ∧ j < n ∧ g j = some o ∧ ∀ i, 0 ≤ i → i < j → g i = none) (s := ()) hn (fun i h1 h2 => by omega) (fun j s h0 h1 hP => by
  have := hb j h0 h1 hP
  cases hg : g j with
  | none => rw [hg] at this; exact .inl ⟨(), this, fun i h2 h3 => by
    rcases Int.lt_or_eq_of_le (Int.le_of_lt_add_one h3) with h | h
    ·exact hP i h2 h
    ·rw [h, hg]⟩
  | some o => rw [hg] at this; exact .inr ⟨o, this, j, h0, h1, hg, hP⟩) with ⟨s', h1, h2⟩ | ⟨o, h1, j, h2, h3, h4, h5⟩
 ·exact .inl ⟨h1, h2⟩
 ·exact .inr ⟨j, o, h2, h3, h4, h5, h1⟩
theorem ac5 {α O : Type} {l : List α} {body : Int → Unit → Option (Unit ⊕ O)} (q : α → Prop) (b : O)
  (hb : ∀ j a, ix l j = some a → (q a ∧ body j () = some (.inl ())) ∨ (¬ q a ∧ body j () = some (.inr b))) :
  rngX 0 (l.length : Int) body () = some (if dec (∀ a ∈ l, q a) = true then .inl () else .inr b) := by
 rcases X4 (body := body) (n := (l.length : Int)) (fun j => match ix l j with | some a => if dec (q a) = true then none else some b | none => none) (by omega) (fun j h0 h1 _ => by
  obtain ⟨a, h2, _⟩ := p8 h0 h1
  rw [h2]
  rcases hb j a h2 with ⟨h3, h4⟩ | ⟨h3, h4⟩
  ·rw [h4]; simp [h3]
  ·rw [h4]; simp [h3]) with ⟨h1, h2⟩ | ⟨j, o, h0, h1, h2, _, h4⟩
 ·rw [h1, if_pos]
  rw [k7]
  intro a ha
  obtain ⟨i, g1, g2, g3⟩ := A9 ha
  have := h2 i g1 g2
  rw [g3] at this
  simpa using this
 ·rw [h4]
  obtain ⟨a, g1, _⟩ := p8 h0 h1
  rw [g1] at h2
  simp only [k7] at h2
  split at h2
  ·cases h2
  ·rename_i hq
   cases h2
   rw [if_neg]
   rw [k7]
   exact fun h => hq (l8 (h a (y6 g1)))
abbrev Inc (l : List Int) : Prop := l.Pairwise (· < ·)
theorem inc_of_adj : ∀ {l : List Int}, (∀ (k : Nat) a b, l[k]? = some a → l[k + 1]? = some b → a < b) → Inc l
 | [], _ => .nil
 | [_], _ => by simp
 | a :: b :: l, h => by
  have ih : Inc (b :: l) := inc_of_adj fun k x y h1 h2 => h (k + 1) x y (by simpa using h1) (by simpa using h2)
  have hab : a < b := h 0 a b rfl rfl
  refine List.pairwise_cons.2 ⟨fun c hc => ?_, ih⟩
  rcases List.mem_cons.1 hc with rfl | hc
  ·exact hab
  ·exact Int.lt_trans hab ((List.pairwise_cons.1 ih).1 c hc)
theorem Inc.get {l : List Int} (h : Inc l) {i j : Nat} {a b : Int} (hi : l[i]? = some a) (hj : l[j]? = some b) (hij : i < j) : a < b := by
 obtain ⟨h1, rfl⟩ := List.getElem?_eq_some_iff.1 hi
 obtain ⟨h2, rfl⟩ := List.getElem?_eq_some_iff.1 hj
 exact List.pairwise_iff_getElem.1 h i j h1 h2 hij
theorem Inc.ext : ∀ {l m : List Int}, Inc l → Inc m → (∀ x, x ∈ l ↔ x ∈ m) → l = m
 | [], [], _, _, _ => rfl
 | [], b :: m, _, _, h => absurd ((h b).2 (by simp)) (by simp)
 | a :: l, [], _, _, h => absurd ((h a).1 (by simp)) (by simp)
 | a :: l, b :: m, hl, hm, h => by
  obtain ⟨l1, l2⟩ := List.pairwise_cons.1 hl
  obtain ⟨m1, m2⟩ := List.pairwise_cons.1 hm
  have hab : a = b := by
   rcases List.mem_cons.1 ((h a).1 (by simp)) with e | e
   ·exact e
   ·rcases List.mem_cons.1 ((h b).2 (by simp)) with e' | e'
    ·exact e'.symm
    ·have := l1 b e'; have := m1 a e; omega
  subst hab
  rw [Inc.ext l2 m2 fun x => ⟨fun hx => ?_, fun hx => ?_⟩]
  ·rcases List.mem_cons.1 ((h x).1 (by simp [hx])) with e | e
   ·have := l1 x hx; omega
   ·exact e
  ·rcases List.mem_cons.1 ((h x).2 (by simp [hx])) with e | e
   ·have := m1 x hx; omega
   ·exact e
theorem Inc.filter {l : List Int} (h : Inc l) (p : Int → Bool) : Inc (l.filter p) := List.Pairwise.filter p h
def nums (lo : Int) : Nat → List Int
 | 0 => []
 | k + 1 => lo :: nums (lo + 1) k
theorem M9 {x : Int} : ∀ {k : Nat} {lo : Int}, x ∈ nums lo k ↔ lo ≤ x ∧ x < lo + k
 | 0, lo => by simp [nums]
 | k + 1, lo => by
  rw [nums, List.mem_cons, M9 (k := k)]
  omega
theorem af7 : ∀ (k : Nat) (lo : Int), Inc (nums lo k)
 | 0, _ => .nil
 | k + 1, lo => List.pairwise_cons.2 ⟨fun x hx => by have := M9.1 hx; omega, af7 k (lo + 1)⟩
theorem len_nums : ∀ (k : Nat) (lo : Int), (nums lo k).length = k
 | 0, _ => rfl
 | k + 1, lo => by simp [nums, len_nums k]
noncomputable def D3 (p : Int → Prop) (n : Int) : List Int := (nums 0 n.toNat).filter fun x => dec (p x)
theorem F1 {p : Int → Prop} {n x : Int} : x ∈ D3 p n ↔ 0 ≤ x ∧ x < n ∧ p x := by
 rw [D3, List.mem_filter, M9, k7]
 constructor
 ·rintro ⟨⟨h1, h2⟩, h3⟩; exact ⟨h1, by omega, h3⟩
 ·rintro ⟨h1, h2, h3⟩; exact ⟨⟨h1, by omega⟩, h3⟩
theorem ad5 (p : Int → Prop) (n : Int) : Inc (D3 p n) := (af7 _ _).filter _
theorem setOf_congr {p q : Int → Prop} {n : Int} (h : ∀ x, 0 ≤ x → x < n → (p x ↔ q x)) : D3 p n = D3 q n := by
 refine List.filter_congr fun x hx => H6 ?_
 have := M9.1 hx
 exact h x (by omega) (by omega)
def SetN (l : List Int) (n : Int) : Prop := Inc l ∧ ∀ x ∈ l, 0 ≤ x ∧ x < n
theorem ag6 (p : Int → Prop) (n : Int) : SetN (D3 p n) n := ⟨ad5 p n, fun x hx => by have := F1.1 hx; exact ⟨this.1, this.2.1⟩⟩
theorem SetN.eq {l : List Int} {n : Int} (h : SetN l n) : l = D3 (· ∈ l) n :=
 h.1.ext (ad5 _ _) fun x => ⟨fun hx => F1.2 ⟨(h.2 x hx).1, (h.2 x hx).2, hx⟩, fun hx => (F1.1 hx).2.2⟩
theorem SetN.eq_of {l : List Int} {n : Int} (h : SetN l n) {p : Int → Prop} (hp : ∀ x, 0 ≤ x → x < n → (x ∈ l ↔ p x)) : l = D3 p n :=
 h.eq.trans (setOf_congr hp)
theorem SetN.len {l : List Int} {n : Int} (h : SetN l n) : l.length ≤ n.toNat := by
 rw [h.eq, D3]
 exact Nat.le_trans (List.length_filter_le _ _) (Nat.le_of_eq (len_nums _ _))
theorem setN_nil (n : Int) : SetN [] n := ⟨.nil, by simp⟩
theorem forR_filter {α : Type} {l : List α} {b : Nat} {body : Int → List α → Option (List α)} (q : α → Prop)
  (hb : ∀ j a c, ix l j = some a → (q a → body j c = app b c [a]) ∧ (¬ q a → body j c = some c)) (c0 : List α) (hl : (c0.length + l.length) * b ≤ 140737488355328) :
  forR 0 (l.length : Int) body c0 = some (c0 ++ l.filter fun a => dec (q a)) := by
 obtain ⟨s', h1, h2⟩ := J6 (body := body) (n := (l.length : Int)) (s := c0) (fun j c => c = c0 ++ (l.take j.toNat).filter fun a => dec (q a)) (by omega) (by simp) (fun j c h0 h1 hP => by
  obtain ⟨a, g1, g2⟩ := p8 h0 h1
  have e : (j + 1).toNat = j.toNat + 1 := by omega
  have ht : l.take (j + 1).toNat = l.take j.toNat ++ [a] := by rw [e, List.take_add_one, g2]; rfl
  by_cases hq : q a
  ·have happ : app b c [a] = some (c ++ [a]) := by
    rw [app, if_pos]
    have h3 : ((l.take j.toNat).filter fun a => dec (q a)).length ≤ (l.take j.toNat).length := List.length_filter_le _ _
    rw [List.length_take] at h3
    have h5 : c.length + 1 ≤ c0.length + l.length := by rw [hP, List.length_append]; omega
    refine Nat.le_trans (Nat.mul_le_mul_right b ?_) hl
    simpa using h5
   refine ⟨c ++ [a], by rw [(hb j a c g1).1 hq, happ], ?_⟩
   rw [ht, List.filter_append, hP]
   simp [hq]
  ·refine ⟨c, (hb j a c g1).2 hq, ?_⟩
   rw [ht, List.filter_append, hP]
   simp [hq])
 rw [h1, h2]
 simp
end Ab
end
section
namespace Ab
open Go
theorem has_eq (l : List Int) (n : Int) : V7 l n = some (dec (n ∈ l)) := by
 unfold V7
 rw [ac5 (l := l) (fun a => a ≠ n) true (fun j a h => by
  unfold ae0
  rw [h]
  by_cases e : a = n <;> simp [e])]
 by_cases h : n ∈ l
 ·rw [if_neg (by simp only [k7]; exact fun g => g n h rfl)]
  simp [h]
 ·rw [if_pos (by simp only [k7]; exact fun a ha e => h (e ▸ ha))]
  simp [h]
theorem subset_eq (part l : List Int) : P7 part l = some (dec (∀ x ∈ part, x ∈ l)) := by
 unfold P7
 rw [ac5 (l := part) (fun a => a ∈ l) false (fun j a h => by
  unfold W3
  rw [h]
  by_cases e : a ∈ l <;> simp [e, has_eq])]
 by_cases h : ∀ x ∈ part, x ∈ l
 ·rw [if_pos (l8 h), l8 h]; rfl
 ·rw [if_neg (by rw [x9 h]; simp), x9 h]; rfl
theorem disjoint_eq (a b : List Int) : Y4 a b = some (dec (∀ x ∈ a, x ∉ b)) := by
 unfold Y4
 rw [ac5 (l := a) (fun x => x ∉ b) false (fun j x h => by
  unfold ac6
  rw [h]
  by_cases e : x ∈ b <;> simp [e, has_eq])]
 by_cases h : ∀ x ∈ a, x ∉ b
 ·rw [if_pos (l8 h), l8 h]; rfl
 ·rw [if_neg (by rw [x9 h]; simp), x9 h]; rfl
theorem in_eq (n lo hi : Int) : W4 n lo hi = some (dec (lo ≤ n ∧ n ≤ hi)) := by
 unfold W4; rw [decide_dec, decide_dec, dec_and]
theorem at_eq (c i : Int) : K6 c i = some ⟨c, i⟩ := rfl
def stepOk (l : List Int) (n j : Int) : Prop := ∀ a, ix l j = some a → (0 ≤ a ∧ a < n) ∧ ∀ b, 0 < j → ix l (j - 1) = some b → b < a
theorem aa1 {l : List Int} {n : Int} : (∀ j : Int, 0 ≤ j → j < l.length → stepOk l n j) ↔ SetN l n := by
 constructor
 ·intro h
  refine ⟨inc_of_adj fun k a b h1 h2 => ?_, fun x hx => ?_⟩
  ·have hk := (List.getElem?_eq_some_iff.1 h2).1
   have := (h ((k + 1 : Nat) : Int) (by omega) (by omega) b (by rw [X5]; exact h2)).2 a (by omega)
   rw [show ((k + 1 : Nat) : Int) - 1 = (k : Nat) by omega] at this
   exact this (by rw [X5]; exact h1)
  ·obtain ⟨i, h1, h2, h3⟩ := A9 hx
   exact (h i h1 h2 x h3).1
 ·intro h j h0 h1 a ha
  refine ⟨h.2 a (y6 ha), fun b hj hb => ?_⟩
  obtain ⟨_, _, ga⟩ := x6 ha
  obtain ⟨_, _, gb⟩ := x6 hb
  exact h.1.get gb ga (by omega)
theorem isSet_eq (l : List Int) (n : Int) : y9 l n = some (dec (SetN l n)) := by
 unfold y9
 rcases X4 (body := M0 l n) (n := (l.length : Int)) (fun j => if dec (stepOk l n j) = true then none else some false) (by omega) (fun j h0 h1 _ => by
  obtain ⟨a, ha, _⟩ := p8 (l := l) h0 h1
  unfold M0
  rw [ha]
  simp only [oB]
  by_cases c1 : a < 0
  ·rw [if_pos c1, if_neg]
   ·rfl
   ·rw [k7]; intro h; have := (h a ha).1; omega
  ·rw [if_neg c1]
   by_cases c2 : n ≤ a
   ·rw [if_pos c2, if_neg]
    ·rfl
    ·rw [k7]; intro h; have := (h a ha).1; omega
   ·rw [if_neg c2]
    by_cases c3 : 0 < j
    ·obtain ⟨b, hb, _⟩ := p8 (l := l) (i := j - 1) (by omega) (by omega)
     rw [if_pos c3, hb]
     simp only [oB]
     by_cases c4 : a ≤ b
     ·rw [if_pos (by simpa using c4), if_neg]
      rw [k7]; intro h; have := (h a ha).2 b c3 hb; omega
     ·rw [if_neg (by simpa using c4), if_pos]
      rw [k7]; intro x hx
      rw [ha] at hx; cases hx
      exact ⟨by omega, fun y _ hy => by rw [hb] at hy; cases hy; omega⟩
    ·rw [if_neg c3]
     simp only [oB]
     rw [if_neg (by simp), if_pos]
     rw [k7]; intro x hx
     rw [ha] at hx; cases hx
     exact ⟨by omega, fun y hy => absurd hy c3⟩) with ⟨h1, h2⟩ | ⟨j, o, h0, h1, h2, _, h4⟩
 ·rw [h1, l8]
  ·rfl
  ·exact aa1.1 fun j g1 g2 => by have := h2 j g1 g2; simpa using this
 ·rw [h4]
  split at h2
  ·cases h2
  ·rename_i hs
   cases h2
   rw [x9]
   ·rfl
   ·exact fun h => hs (l8 (aa1.2 h j h0 h1))
theorem rIsSet_eq (l : List Int) {n : Int} (hn : -9223372036854775808 < n) (hn' : n ≤ 9223372036854775807) : J4 l n = some (dec (SetN l n)) := by
 unfold J4
 rcases X4 (body := Y6 l n) (n := (l.length : Int)) (fun j => if dec (stepOk l n j) = true then none else some false) (by omega) (fun j h0 h1 _ => by
  obtain ⟨a, ha, _⟩ := p8 (l := l) h0 h1
  unfold Y6
  rw [ha]
  simp only [oB, in_eq, A8 (n := n - 1) (by omega) (by omega), O5]
  by_cases c1 : 0 ≤ a ∧ a ≤ n - 1
  ·rw [if_neg (by simpa using c1)]
   by_cases c3 : 0 < j
   ·obtain ⟨b, hb, _⟩ := p8 (l := l) (i := j - 1) (by omega) (by omega)
    rw [if_pos c3, hb]
    simp only [oB]
    by_cases c4 : a ≤ b
    ·rw [if_pos (by simpa using c4), if_neg]
     rw [k7]; intro h; have := (h a ha).2 b c3 hb; omega
    ·rw [if_neg (by simpa using c4), if_pos]
     rw [k7]; intro x hx
     rw [ha] at hx; cases hx
     exact ⟨by omega, fun y _ hy => by rw [hb] at hy; cases hy; omega⟩
   ·rw [if_neg c3]
    simp only [oB]
    rw [if_neg (by simp), if_pos]
    rw [k7]; intro x hx
    rw [ha] at hx; cases hx
    exact ⟨by omega, fun y hy => absurd hy c3⟩
  ·rw [if_pos (by simpa using c1), if_neg]
   ·rfl
   ·rw [k7]; intro h; have := (h a ha).1; omega) with ⟨h1, h2⟩ | ⟨j, o, h0, h1, h2, _, h4⟩
 ·rw [h1, l8]
  ·rfl
  ·exact aa1.1 fun j g1 g2 => by have := h2 j g1 g2; simpa using this
 ·rw [h4]
  split at h2
  ·cases h2
  ·rename_i hs
   cases h2
   rw [x9]
   ·rfl
   ·exact fun h => hs (l8 (aa1.2 h j h0 h1))
theorem containsLoop {s : List Int} (hs : Inc s) (hl : s.length ≤ 1000000) (x : Int) {i : Int} (h0 : 0 ≤ i) (h1 : i ≤ s.length) (hlt : ∀ k a, 0 ≤ k → k < i → ix s k = some a → a < x) :
  ∃ i', Loop (C3 s x) i = some i' ∧ i ≤ i' ∧ i' ≤ s.length ∧ (∀ k a, 0 ≤ k → k < i' → ix s k = some a → a < x) ∧ (∀ a, ix s i' = some a → x ≤ a) := by
 obtain ⟨o, h2, h3⟩ := Q8 (body := C3 s x) (fun j => i ≤ j ∧ j ≤ s.length ∧ ∀ k a, 0 ≤ k → k < j → ix s k = some a → a < x) (fun i' => i ≤ i' ∧ i' ≤ s.length ∧ (∀ k a, 0 ≤ k → k < i' → ix s k = some a → a < x) ∧ (∀ a, ix s i' = some a → x ≤ a)) (fun j => (s.length - j).toNat) (s := i) ⟨Int.le_refl _, h1, hlt⟩ (fun j ⟨g1, g2, g3⟩ => by
  unfold C3
  by_cases c : j < s.length
  ·obtain ⟨a, ha, _⟩ := p8 (l := s) (i := j) (by omega) c
   rw [if_pos c, ha]
   simp only [oB, decide_eq_true_eq]
   by_cases c2 : a < x
   ·rw [if_pos c2]
    rw [A8 (by omega) (by omega)]
    refine .inl ⟨j + 1, rfl, ⟨by omega, by omega, fun k b k0 k1 hb => ?_⟩, by omega⟩
    by_cases e : k = j
    ·subst e; rw [ha] at hb; cases hb; exact c2
    ·exact g3 k b k0 (by omega) hb
   ·rw [if_neg c2]
    exact .inr ⟨j, rfl, g1, g2, g3, fun b hb => by rw [ha] at hb; cases hb; omega⟩
  ·rw [if_neg c]
   exact .inr ⟨j, rfl, g1, g2, g3, fun b hb => by have := (x6 hb).2.1; omega⟩)
 exact ⟨o, h2, h3⟩
theorem contains_eq {s part : List Int} (hs : Inc s) (hp : Inc part) (hl : s.length ≤ 1000000) : D6 s part = some (dec (∀ x ∈ part, x ∈ s)) := by
 unfold D6
 rcases af3 (body := I0 s part) (n := (part.length : Int)) (fun j i => (0 ≤ i ∧ i ≤ s.length ∧ ∀ k a, 0 ≤ k → k < i → ix s k = some a → ∀ m x, j ≤ m → ix part m = some x → a < x) ∧ ∀ m x, 0 ≤ m → m < j → ix part m = some x → x ∈ s) (fun o => o = false ∧ ¬ ∀ x ∈ part, x ∈ s) (s := 0) (by omega) ⟨⟨by omega, by omega, fun k a h1 h2 => by omega⟩, fun m x h1 h2 => by omega⟩ (fun j i h0 h1 ⟨⟨g1, g2, g3⟩, g4⟩ => by
  obtain ⟨x, hx, gx⟩ := p8 (l := part) h0 h1
  unfold I0
  obtain ⟨i', e1, e2, e3, e4, e5⟩ := containsLoop hs hl x g1 g2 (fun k a k0 k1 ha => g3 k a k0 k1 ha j x (Int.le_refl _) hx)
  rw [hx]
  simp only [oB, e1]
  have nin : (∀ a, ix s i' = some a → x < a) → x ∉ s := fun hgt hin => by
   obtain ⟨k, k0, k1, hk⟩ := A9 hin
   rcases Int.lt_trichotomy k i' with c | c | c
   ·have := e4 k x k0 c hk; omega
   ·subst c; have := hgt x hk; omega
   ·obtain ⟨b, hb, gb⟩ := p8 (l := s) (i := i') (by omega) (by omega)
    obtain ⟨_, _, gk⟩ := x6 hk
    have := hs.get gb gk (by omega)
    have := e5 b hb
    omega
  by_cases c : i' = s.length
  ·rw [if_pos c]
   refine .inr ⟨false, rfl, rfl, fun h => ?_⟩
   exact nin (fun a ha => by have := (x6 ha).2.1; omega) (h x (y6 hx))
  ·rw [if_neg c]
   obtain ⟨b, hb, gb⟩ := p8 (l := s) (i := i') (by omega) (by omega)
   rw [hb]
   simp only [oB]
   have hxb := e5 b hb
   by_cases c2 : b = x
   ·subst c2
    rw [if_neg (by simp)]
    refine .inl ⟨i', rfl, ⟨by omega, e3, fun k a k0 k1 ha m y hm hy => ?_⟩, fun m y m0 m1 hy => ?_⟩
    ·obtain ⟨_, _, gy⟩ := x6 hy
     have := hp.get gx gy (by omega)
     have := e4 k a k0 k1 ha
     omega
    ·by_cases e : m = j
     ·subst e; rw [hx] at hy; cases hy; exact y6 hb
     ·exact g4 m y m0 (by omega) hy
   ·rw [if_pos (by simpa using c2)]
    refine .inr ⟨false, rfl, rfl, fun h => ?_⟩
    exact nin (fun a ha => by rw [hb] at ha; cases ha; omega) (h x (y6 hx))) with ⟨s', h1, _, h2⟩ | ⟨o, h1, rfl, h2⟩
 ·rw [h1, l8]
  ·rfl
  ·intro x hx
   obtain ⟨m, m0, m1, hm⟩ := A9 hx
   exact h2 m x m0 m1 hm
 ·rw [h1, x9 h2]; rfl
end Ab
end
section
namespace Ab
open Go
theorem half_eq {i j : Int} (h0 : 0 ≤ i) (h1 : i ≤ j) (h2 : j ≤ 1000000) : w64 (shrW .u64 ((IntKind.u64).wrap (w64 (i + j))) 1) = (i + j) / 2 := by
 rw [A8 (n := i + j) (by omega) (by omega), IntKind.wrap_u64, Int.emod_eq_of_lt (by omega) (by omega)]
 have : shrW .u64 (i + j) 1 = (i + j) / 2 := by
  simp only [shrW, IntKind.bits]
  rw [show min (1 : Int).toNat 64 = 1 by rfl, Int.fdiv_eq_ediv_of_nonneg _ (by decide)]
  rfl
 rw [this]
 exact A8 (by omega) (by omega)
theorem less_eq (a b : Int) : M8 a b = some (decide (a < b)) := by simp [M8, A6]
theorem bsearch_eq {xs : List Int} (hs : Inc xs) (hl : xs.length ≤ 500000) (t : Int) : ∃ i, n4 xs t = some (i, dec (t ∈ xs)) ∧ 0 ≤ i ∧ i ≤ xs.length ∧ (∀ k a, 0 ≤ k → k < i → ix xs k = some a → a < t) ∧ (∀ k a, i ≤ k → ix xs k = some a → t ≤ a) := by
 unfold n4
 obtain ⟨i, h1, h2, h3, h4, h5⟩ := Q8 (body := u4 xs t) (fun p => (0 ≤ p.1 ∧ p.1 ≤ p.2 ∧ p.2 ≤ xs.length) ∧ (∀ k a, 0 ≤ k → k < p.1 → ix xs k = some a → a < t) ∧ (∀ k a, p.2 ≤ k → ix xs k = some a → t ≤ a))
  (fun i => 0 ≤ i ∧ i ≤ xs.length ∧ (∀ k a, 0 ≤ k → k < i → ix xs k = some a → a < t) ∧ (∀ k a, i ≤ k → ix xs k = some a → t ≤ a)) (fun p => (p.2 - p.1).toNat) (s := (0, (xs.length : Int)))
  ⟨⟨by simp, by simp, by simp⟩, fun k a h1 h2 => by simp at h2; omega, fun k a h1 h2 => by have := (x6 h2).2.1; simp at h1; omega⟩ (fun ⟨i, j⟩ ⟨⟨g1, g2, g3⟩, g4, g5⟩ => by
  dsimp only at g1 g2 g3 g4 g5 ⊢
  unfold u4
  dsimp only
  by_cases c : i < j
  ·rw [if_pos c, half_eq g1 g2 (by omega)]
   obtain ⟨a, ha, ga⟩ := p8 (l := xs) (i := (i + j) / 2) (by omega) (by omega)
   rw [ha]
   simp only [oB, less_eq, decide_eq_true_eq]
   by_cases c2 : a < t
   ·rw [if_pos c2, A8 (by omega) (by omega)]
    refine .inl ⟨_, rfl, ⟨⟨by dsimp only; omega, by dsimp only; omega, g3⟩, fun k b k0 k1 hb => ?_, g5⟩, by dsimp only; omega⟩
    dsimp only at k1
    obtain ⟨_, _, gb⟩ := x6 hb
    by_cases e : k = (i + j) / 2
    ·subst e; rw [ha] at hb; cases hb; exact c2
    ·have := hs.get gb ga (by omega); omega
   ·rw [if_neg c2]
    refine .inl ⟨_, rfl, ⟨⟨g1, by dsimp only; omega, by dsimp only; omega⟩, g4, fun k b k0 hb => ?_⟩, by dsimp only; omega⟩
    dsimp only at k0
    obtain ⟨_, _, gb⟩ := x6 hb
    by_cases e : k = (i + j) / 2
    ·subst e; rw [ha] at hb; cases hb; omega
    ·have := hs.get ga gb (by omega); omega
  ·rw [if_neg c]
   have : i = j := by omega
   subst this
   exact .inr ⟨i, rfl, g1, g3, g4, g5⟩)
 rw [h1]
 simp only [oB]
 refine ⟨i, ?_, h2, h3, h4, h5⟩
 have nin : (∀ a, ix xs i = some a → a ≠ t) → t ∉ xs := fun hne hin => by
  obtain ⟨k, k0, k1, hk⟩ := A9 hin
  rcases Int.lt_trichotomy k i with c | c | c
  ·have := h4 k t k0 c hk; omega
  ·subst c; exact hne t hk rfl
  ·obtain ⟨b, hb, gb⟩ := p8 (l := xs) (i := i) (by omega) (by omega)
   obtain ⟨_, _, gk⟩ := x6 hk
   have := hs.get gb gk (by omega)
   have := h5 i b (Int.le_refl _) hb
   omega
 by_cases c : i < xs.length
 ·obtain ⟨a, ha, ga⟩ := p8 (l := xs) (i := i) (by omega) c
  rw [if_pos c, ha]
  simp only [oB]
  by_cases c2 : a = t
  ·subst c2
   rw [if_pos rfl, l8 (y6 ha)]
   rfl
  ·rw [if_neg c2]
   simp only [G0, decide_true, Bool.not_true, Bool.false_eq_true, if_false, oB]
   rw [x9 (nin fun b hb => by rw [ha] at hb; cases hb; exact c2)]
 ·rw [if_neg c]
  simp only [oB]
  rw [x9 (nin fun b hb => by have := (x6 hb).2.1; omega)]
theorem bsearch2 {xs : List Int} (hs : Inc xs) (hl : xs.length ≤ 500000) (t : Int) : ∃ i, n4 xs t = some (i, dec (t ∈ xs)) :=
 let ⟨i, h, _⟩ := bsearch_eq hs hl t
 ⟨i, h⟩
theorem containsFunc_eq {l : List Int} {f : Int → Option Bool} (p : Int → Prop) (hf : ∀ x ∈ l, f x = some (dec (p x))) : s6 l f = some (dec (∃ x ∈ l, p x)) := by
 unfold s6 z8
 rcases X4 (body := x4 l f) (n := (l.length : Int)) (fun j => if dec (∀ a, ix l j = some a → ¬ p a) = true then none else some j) (by omega) (fun j h0 h1 _ => by
  obtain ⟨a, ha, _⟩ := p8 (l := l) h0 h1
  unfold x4
  rw [ha]
  simp only [oB, hf a (y6 ha)]
  by_cases c : p a
  ·rw [if_pos (l8 c), if_neg (by rw [k7]; exact fun h => h a rfl c)]
  ·rw [if_neg (by rw [x9 c]; simp), if_pos (l8 fun b hb => by cases hb; exact c)]) with ⟨h1, h2⟩ | ⟨j, o, h0, h1, h2, _, h4⟩
 ·rw [h1]
  simp only [oB]
  rw [x9]
  ·rfl
  ·rintro ⟨x, hx, hp⟩
   obtain ⟨i, g1, g2, g3⟩ := A9 hx
   have := h2 i g1 g2
   split at this
   ·rename_i h; exact k7.1 h x g3 hp
   ·cases this
 ·rw [h4]
  split at h2
  ·cases h2
  ·rename_i h
   cases h2
   simp only [oB]
   rw [l8]
   ·simp [h0]
   ·simp only [k7] at h
    obtain ⟨a, g1, _⟩ := p8 (l := l) h0 h1
    refine ⟨a, y6 g1, ?_⟩
    rcases Classical.em (p a) with c | c
    ·exact c
    ·exact absurd (fun b hb => by rw [g1] at hb; cases hb; exact c) h
theorem meets_eq {a b : List Int} (hb : Inc b) (hl : b.length ≤ 500000) : N0 a b = some (dec (∃ x ∈ a, x ∈ b)) := by
 unfold N0
 rw [containsFunc_eq (fun x => x ∈ b) (fun x _ => by
  unfold O1
  obtain ⟨i, h⟩ := bsearch2 hb hl x
  rw [h]; rfl)]
 rfl
/-! ### Sorted, and equal neighbours made one -/
theorem compact_spec {l : List Int} (hs : l.Pairwise (· ≤ ·)) : Inc (S0 l) ∧ ∀ x, x ∈ S0 l ↔ x ∈ l := by
 have key : ∀ m, m ≤ l.length → Inc (Go.Lib.compactUpTo l.toArray m) ∧ (∀ x, x ∈ Go.Lib.compactUpTo l.toArray m ↔ x ∈ l.take m) := by
  intro m
  induction m with
  | zero => intro _; simp [Go.Lib.compactUpTo]
  | succ m ih =>
   intro hm
   obtain ⟨h1, h2⟩ := ih (by omega)
   have hlt : m < l.length := by omega
   have hd : l.toArray[m]! = l[m] := by simp [hlt]
   have ht : l.take (m + 1) = l.take m ++ [l[m]] := by rw [List.take_add_one]; simp [hlt]
   rw [Go.Lib.compactUpTo_succ, ht]
   by_cases hk : Go.Lib.keeps l.toArray m = true
   ·rw [if_pos hk, hd]
    refine ⟨List.pairwise_append.2 ⟨h1, by simp, fun a ha b hb => ?_⟩, fun x => by rw [List.mem_append, List.mem_append, h2]⟩
    simp only [List.mem_singleton] at hb
    subst hb
    have ha' := (h2 a).1 ha
    obtain ⟨i, hi, rfl⟩ := List.mem_iff_getElem.1 ha'
    rw [List.length_take] at hi
    rw [List.getElem_take]
    simp only [Go.Lib.keeps, decide_eq_true_eq] at hk
    rcases hk with hk | hk
    ·omega
    ·have hm1 : l.toArray[m - 1]! = l[m - 1] := by simp [show m - 1 < l.length by omega]
     rw [hd, hm1] at hk
     have e1 : l[m - 1] ≤ l[m] := List.pairwise_iff_getElem.1 hs (m - 1) m (by omega) hlt (by omega)
     have e2 : l[i] ≤ l[m - 1] := by
      rcases Nat.lt_or_ge i (m - 1) with c | c
      ·exact List.pairwise_iff_getElem.1 hs i (m - 1) (by omega) (by omega) c
      ·have : i = m - 1 := by omega
       subst this; exact Int.le_refl _
     omega
   ·rw [if_neg hk, List.append_nil]
    refine ⟨h1, fun x => ?_⟩
    rw [h2, List.mem_append]
    refine ⟨.inl, fun h => ?_⟩
    rcases h with h | h
    ·exact h
    ·simp only [List.mem_singleton] at h
     subst h
     have hm0 : m ≠ 0 := fun e => hk (by simp [Go.Lib.keeps, e])
     have hm1 : l.toArray[m - 1]! = l[m - 1] := by simp [show m - 1 < l.length by omega]
     have he : l[m] = l[m - 1] := by
      simp only [Go.Lib.keeps, decide_eq_true_eq, not_or] at hk
      have h3 : l.toArray[m]! = l.toArray[m - 1]! := Classical.not_not.1 (fun h => hk.2 h)
      rw [hd, hm1] at h3; exact h3
     rw [he, List.mem_take_iff_getElem]
     exact ⟨m - 1, by omega, rfl⟩
 obtain ⟨h1, h2⟩ := key l.length (Nat.le_refl _)
 refine ⟨?_, fun x => ?_⟩
 ·simpa [S0, Go.Lib.compact] using h1
 ·have := h2 x
  rw [List.take_length] at this
  simpa [S0, Go.Lib.compact] using this
theorem srt_spec (l : List Int) : (srt l).Pairwise (· ≤ ·) ∧ ∀ x, x ∈ srt l ↔ x ∈ l := by
 refine ⟨?_, fun x => by simp [srt]⟩
 have := List.pairwise_mergeSort (le := fun x y : Int => decide (x ≤ y)) (fun a b c h1 h2 => by simp at h1 h2 ⊢; omega) (fun a b => by simp; omega) l
 refine this.imp fun h => by simpa using h
theorem sortL_eq {l : List Int} (h : l.length < 4611686018427387904) : sortL l = some (srt l) := by rw [sortL, if_pos h]
theorem update_inc {s add del : List Int} (hd : Inc del) (hl : del.length ≤ 500000) (h1 : s.length ≤ 500000) (h2 : add.length ≤ 500000) :
  ∃ r, G6 s add del = some r ∧ Inc r ∧ ∀ x, x ∈ r ↔ (x ∈ s ∧ x ∉ del) ∨ x ∈ add := by
 unfold G6
 rw [forR_filter (l := s) (b := 8) (fun a => a ∉ del) (fun j a c h => by
  obtain ⟨i, hi⟩ := bsearch2 hd hl a
  unfold R1
  rw [h]
  simp only [oB, hi, O5]
  refine ⟨fun hq => ?_, fun hq => ?_⟩
  ·rw [if_pos (l8 hq)]
   cases app 8 c [a] <;> rfl
  ·rw [if_neg (by simpa using hq)]; rfl) [] (by simp; omega)]
 simp only [oB, List.nil_append]
 have hle : (s.filter fun a => dec (a ∉ del)).length ≤ s.length := List.length_filter_le _ _
 rw [show app 8 (s.filter fun a => dec (a ∉ del)) add = some ((s.filter fun a => dec (a ∉ del)) ++ add) by rw [app, if_pos]; omega]
 simp only [oB]
 rw [sortL_eq (by rw [List.length_append]; omega)]
 simp only [oB]
 obtain ⟨e1, e2⟩ := srt_spec ((s.filter fun a => dec (a ∉ del)) ++ add)
 obtain ⟨e3, e4⟩ := compact_spec e1
 refine ⟨_, rfl, e3, fun x => ?_⟩
 rw [e4, e2, List.mem_append, List.mem_filter, k7]
theorem update_eq {s add del : List Int} {n : Int} (hn : n ≤ 1000) (hd : Inc del) (hl : del.length ≤ 500000) (hs : SetN s n) (ha : SetN add n) :
  G6 s add del = some (D3 (fun x => (x ∈ s ∧ x ∉ del) ∨ x ∈ add) n) := by
 have h1 := hs.len; have h2 := ha.len
 obtain ⟨r, e1, e2, e3⟩ := update_inc (s := s) (add := add) hd hl (by omega) (by omega)
 rw [e1, SetN.eq_of (n := n) ⟨e2, fun x hx => ?_⟩ (fun x _ _ => e3 x)]
 rcases (e3 x).1 hx with h | h
 ·exact hs.2 x h.1
 ·exact ha.2 x h
end Ab
end
section
namespace Ab
open Go
def K1 (o : e6) (n : Int) : Prop := SetN o.pre n ∧ SetN o.add n ∧ SetN o.del n ∧ ∀ x ∈ o.add, x ∉ o.del
def P8 (o : e6) : Prop := 0 ≤ o.cost ∧ o.cost ≤ 100
noncomputable def K3 (o : e6) (n : Int) : Int := if dec (K1 o n) = true then if dec (P8 o) = true then 0 else 3 else 5
structure i5 (t : d7) : Prop where
 n0 : 0 ≤ t.facts
 n1 : t.facts ≤ 24
 init : SetN t.init t.facts
 goal : SetN t.goal t.facts
 ops : t.operators.length ≤ 40
 op : ∀ o ∈ t.operators, K1 o t.facts ∧ P8 o
def PlanOk (t : d7) (plan : List Int) : Prop := plan.length ≤ 60 ∧ ∀ x ∈ plan, 0 ≤ x ∧ x < t.operators.length
theorem opCode_zero {o : e6} {n : Int} : K3 o n = 0 ↔ K1 o n ∧ P8 o := by
 unfold K3
 by_cases h : K1 o n
 ·rw [if_pos (l8 h)]
  by_cases g : P8 o
  ·rw [if_pos (l8 g)]; simp [h, g]
  ·rw [if_neg (by rw [x9 g]; simp)]; simp [g]
 ·rw [if_neg (by rw [x9 h]; simp)]; simp [h]
theorem operator_eq {o : e6} {n : Int} (h0 : 0 ≤ n) (h1 : n ≤ 24) : H9 o n = some (K3 o n) := by
 unfold H9 K3
 simp only [isSet_eq, oB, O5]
 have bad : ¬ K1 o n → dec (K1 o n) = true → False := fun h g => h (k7.1 g)
 by_cases c1 : SetN o.pre n
 ·rw [if_neg (by simpa using c1)]
  by_cases c2 : SetN o.add n
  ·rw [if_neg (by simpa using c2)]
   by_cases c3 : SetN o.del n
   ·rw [if_neg (by simpa using c3)]
    have hl := c3.len
    rw [meets_eq c3.1 (by omega)]
    simp only [oB]
    by_cases c4 : ∃ x ∈ o.add, x ∈ o.del
    ·rw [if_pos (l8 c4), if_neg]
     rw [k7]
     obtain ⟨x, g1, g2⟩ := c4
     exact fun h => h.2.2.2 x g1 g2
    ·have hs : K1 o n := ⟨c1, c2, c3, fun x g1 g2 => c4 ⟨x, g1, g2⟩⟩
     rw [if_neg (by rw [x9 c4]; simp), if_pos (l8 hs)]
     by_cases c5 : P8 o
     ·rw [if_pos (l8 c5), if_neg]
      have := c5.1; have := c5.2
      simp; omega
     ·rw [if_neg (fun h => c5 (k7.1 h)), if_pos]
      unfold P8 at c5
      simp; omega
   ·rw [if_pos (by simpa using c3)]
    simp only [oB, if_true]
    rw [if_neg fun h => c3 (k7.1 h).2.2.1]
  ·rw [if_pos (by simpa using c2)]
   simp only [oB, if_true]
   rw [if_neg fun h => c2 (k7.1 h).2.1]
 ·rw [if_pos (by simpa using c1)]
  simp only [oB, if_true]
  rw [if_neg fun h => c1 (k7.1 h).1]
theorem W8 (t : d7) : ∃ f, o4 t = some f ∧ O6 t = some f ∧ ((f = ⟨0, 0⟩ ∧ i5 t) ∨ (f.code ≠ 0 ∧ ¬ i5 t)) := by
 unfold o4 O6
 simp only [in_eq, at_eq, oB, O5]
 by_cases c1 : 0 ≤ t.facts ∧ t.facts ≤ 24
 ·rw [if_neg (by simp; omega), ifNN c1]
  simp only [isSet_eq, rIsSet_eq (n := t.facts) _ (by omega) (by omega), oB, O5]
  by_cases c2 : SetN t.init t.facts
  ·rw [ifNN c2, ifNN c2]
   by_cases c3 : SetN t.goal t.facts
   ·rw [ifNN c3, ifNN c3]
    by_cases c4 : 40 < (t.operators.length : Int)
    ·rw [if_pos c4, if_pos c4]
     exact ⟨_, rfl, rfl, .inr ⟨by simp, fun h => by have := h.ops; omega⟩⟩
    ·rw [if_neg c4, if_neg c4]
     have hb : ∀ j : Int, 0 ≤ j → j < t.operators.length → ∃ o, ix t.operators j = some o ∧ C1 t j () = some (if K3 o t.facts = 0 then .inl () else .inr ⟨K3 o t.facts, j⟩) ∧ E0 t j () = some (if K3 o t.facts = 0 then .inl () else .inr ⟨K3 o t.facts, j⟩) := fun j h0 h1 => by
      obtain ⟨o, ho, _⟩ := p8 (l := t.operators) h0 h1
      refine ⟨o, ho, ?_, ?_⟩
      ·unfold C1
       rw [ho]
       simp only [oB, operator_eq c1.1 c1.2]
       by_cases e : K3 o t.facts = 0
       ·rw [if_pos e, if_pos e]
       ·rw [if_neg e, if_neg e]
      ·unfold E0
       rw [ho]
       simp only [oB, rIsSet_eq (n := t.facts) _ (show -9223372036854775808 < t.facts by omega) (show t.facts ≤ 9223372036854775807 by omega), disjoint_eq, in_eq, at_eq, O5]
       have hp : (if dec (¬ SetN o.pre t.facts) = true then some true else if dec (¬ SetN o.add t.facts) = true then some true else if dec (¬ SetN o.del t.facts) = true then some true else some (dec (¬ ∀ x ∈ o.add, x ∉ o.del))) = some (dec (¬ K1 o t.facts)) := by
        unfold K1
        by_cases g1 : SetN o.pre t.facts
        ·rw [if_neg (by simpa using g1)]
         by_cases g2 : SetN o.add t.facts
         ·rw [if_neg (by simpa using g2)]
          by_cases g3 : SetN o.del t.facts
          ·rw [if_neg (by simpa using g3)]
           exact congrArg some (H6 ⟨fun h g => h g.2.2.2, fun h g => h ⟨g1, g2, g3, g⟩⟩)
          ·rw [if_pos (by simpa using g3), l8 (fun g => g3 g.2.2.1)]
         ·rw [if_pos (by simpa using g2), l8 (fun g => g2 g.2.1)]
        ·rw [if_pos (by simpa using g1), l8 (fun g => g1 g.1)]
       rw [hp]
       simp only [oB]
       unfold K3
       by_cases g1 : K1 o t.facts
       ·rw [if_neg (by simpa using g1), if_pos (l8 g1)]
        by_cases g2 : P8 o
        ·rw [ifP g2, ifNN (p := 0 ≤ o.cost ∧ o.cost ≤ 100) g2]; rfl
        ·rw [ifN g2, ifP (p := ¬ (0 ≤ o.cost ∧ o.cost ≤ 100)) g2]; rfl
       ·rw [if_pos (l8 g1), if_neg (fun h => g1 (k7.1 h))]; rfl
     have heq : rngX 0 (t.operators.length : Int) (C1 t) () = rngX 0 (t.operators.length : Int) (E0 t) () :=
      (rngX_eq (fun _ _ => True) (by omega) trivial (fun j s h0 h1 _ => by
       obtain ⟨o, _, e1, e2⟩ := hb j h0 h1
       exact ⟨by rw [e1, e2], by rw [e1]; simp, fun _ _ => trivial⟩)).1
     rcases X4 (body := E0 t) (n := (t.operators.length : Int)) (fun j => match ix t.operators j with | some o => if K3 o t.facts = 0 then none else some (⟨K3 o t.facts, j⟩ : f4) | none => none) (by omega) (fun j h0 h1 _ => by
      obtain ⟨o, e0, _, e2⟩ := hb j h0 h1
      rw [e2, e0]
      dsimp only
      split <;> rfl) with ⟨h1, h2⟩ | ⟨j, f, h0, h1, h2, _, h4⟩
     ·rw [heq, h1]
      refine ⟨⟨0, 0⟩, rfl, rfl, .inl ⟨rfl, c1.1, c1.2, c2, c3, by omega, fun o ho => ?_⟩⟩
      obtain ⟨j, g0, g1, g2⟩ := A9 ho
      have := h2 j g0 g1
      rw [g2] at this
      dsimp only at this
      split at this
      ·rename_i e; exact opCode_zero.1 e
      ·cases this
     ·rw [heq, h4]
      obtain ⟨o, e0, _, _⟩ := hb j h0 h1
      rw [e0] at h2
      dsimp only at h2
      split at h2
      ·cases h2
      ·rename_i e
       cases h2
       exact ⟨_, rfl, rfl, .inr ⟨e, fun h => e (opCode_zero.2 (h.op o (y6 e0)))⟩⟩
   ·rw [ifP c3, ifP c3]
    exact ⟨_, rfl, rfl, .inr ⟨by simp, fun h => c3 h.goal⟩⟩
  ·rw [ifP c2, ifP c2]
   exact ⟨_, rfl, rfl, .inr ⟨by simp, fun h => c2 h.init⟩⟩
 ·rw [if_pos (by simp; omega), if_pos (l8 c1)]
  exact ⟨_, rfl, rfl, .inr ⟨by simp, fun h => c1 ⟨h.n0, h.n1⟩⟩⟩
theorem fault_no {f : f4} (h : f.code ≠ 0) : (!((decide (f.code = 0)) && (decide (f.index = 0)))) = true := by simp [h]
theorem steps_eq {n : Int} (h0 : 0 ≤ n) (h1 : n ≤ 9223372036854775807) (plan : List Int) : ∃ f, N3 n plan = some f ∧ U6 n plan = some f ∧ ((f = ⟨0, 0⟩ ∧ plan.length ≤ 60 ∧ ∀ x ∈ plan, 0 ≤ x ∧ x < n) ∨ (f.code ≠ 0 ∧ ¬ (plan.length ≤ 60 ∧ ∀ x ∈ plan, 0 ≤ x ∧ x < n))) := by
 unfold N3 U6
 by_cases c : 60 < (plan.length : Int)
 ·rw [if_pos c, if_pos c]
  exact ⟨⟨2, -5⟩, rfl, rfl, .inr ⟨by simp, fun h => by omega⟩⟩
 ·rw [if_neg c, if_neg c]
  rw [ac5 (l := plan) (fun x => 0 ≤ x ∧ x < n) (⟨3, -6⟩ : f4) (fun j a h => by
   unfold T7
   rw [h]
   simp only [oB]
   by_cases g : 0 ≤ a ∧ a < n
   ·rw [if_neg (by simp; omega)]; exact .inl ⟨g, rfl⟩
   ·rw [if_pos (by simp; omega)]; exact .inr ⟨g, rfl⟩)]
  rw [ac5 (l := plan) (fun x => 0 ≤ x ∧ x < n) (⟨3, -6⟩ : f4) (fun j a h => by
   unfold W9
   rw [h]
   simp only [oB, in_eq, at_eq, A8 (n := n - 1) (by omega) (by omega), O5]
   by_cases g : 0 ≤ a ∧ a < n
   ·rw [if_neg (by simp; omega)]; exact .inl ⟨g, rfl⟩
   ·rw [if_pos (by rw [k7]; omega)]; exact .inr ⟨g, rfl⟩)]
  by_cases g : ∀ x ∈ plan, 0 ≤ x ∧ x < n
  ·rw [if_pos (l8 g)]
   exact ⟨_, rfl, rfl, .inl ⟨rfl, by omega, g⟩⟩
  ·rw [if_neg (fun h => g (k7.1 h))]
   exact ⟨_, rfl, rfl, .inr ⟨by simp, fun h => g h.2⟩⟩
theorem planFault_eq (t : d7) (plan : List Int) : ∃ f, F7 t plan = some f ∧ W6 t plan = some f ∧ ((f = ⟨0, 0⟩ ∧ i5 t ∧ PlanOk t plan) ∨ (f.code ≠ 0 ∧ ¬ (i5 t ∧ PlanOk t plan))) := by
 obtain ⟨f, h1, h2, h3⟩ := W8 t
 unfold F7 W6
 rw [h1, h2]
 simp only [oB]
 rcases h3 with ⟨rfl, ht⟩ | ⟨hc, ht⟩
 ·obtain ⟨g, g1, g2, g3⟩ := steps_eq (n := (t.operators.length : Int)) (by omega) (by have := ht.ops; omega) plan
  rw [if_neg (by simp), if_pos rfl, g1, g2]
  refine ⟨g, rfl, rfl, ?_⟩
  rcases g3 with ⟨e, k⟩ | ⟨e, k⟩
  ·exact .inl ⟨e, ht, k⟩
  ·exact .inr ⟨e, fun h => k h.2⟩
 ·rw [if_pos (fault_no hc), if_neg hc]
  exact ⟨f, rfl, rfl, .inr ⟨hc, fun h => ht h.1⟩⟩
/-! ### What operators and plans do -/
def noOp : e6 := ⟨[], [], [], 0⟩
def opAt (t : d7) (op : Int) : e6 := (t.operators[op.toNat]?).getD noOp
theorem ix_op {t : d7} {op : Int} (h0 : 0 ≤ op) (h1 : op < t.operators.length) : ix t.operators op = some (opAt t op) := by
 obtain ⟨a, h2, h3⟩ := p8 h0 h1
 rw [h2, opAt, h3]; rfl
theorem i5.at {t : d7} (h : i5 t) {op : Int} (h0 : 0 ≤ op) (h1 : op < t.operators.length) : K1 (opAt t op) t.facts ∧ P8 (opAt t op) := h.op _ (y6 (ix_op h0 h1))
def can (t : d7) (s : List Int) (op : Int) : Prop := ∀ x ∈ (opAt t op).pre, x ∈ s
noncomputable def aft (t : d7) (s : List Int) (op : Int) : List Int := D3 (fun x => x ∈ (opAt t op).add ∨ x ∈ s ∧ x ∉ (opAt t op).del) t.facts
theorem ab0 (t : d7) (s : List Int) (op : Int) : SetN (aft t s op) t.facts := ag6 _ _
theorem can_eq {t : d7} (ht : i5 t) {op : Int} (h0 : 0 ≤ op) (h1 : op < t.operators.length) {s : List Int} (hs : SetN s t.facts) : U7 t s op = some (dec (can t s op)) := by
 have := ht.n1; have := hs.len
 unfold U7
 rw [ix_op h0 h1]
 simp only [oB]
 rw [contains_eq hs.1 (ht.at h0 h1).1.1.1 (by omega)]
 rfl
theorem next_eq {t : d7} (ht : i5 t) {op : Int} (h0 : 0 ≤ op) (h1 : op < t.operators.length) {s : List Int} (hs : SetN s t.facts) : Q0 t s op = some (aft t s op) := by
 have := ht.n1
 obtain ⟨⟨_, k2, k3, _⟩, _⟩ := ht.at h0 h1
 have hl := k3.len
 unfold Q0
 rw [ix_op h0 h1]
 simp only [oB]
 rw [update_eq (n := t.facts) (by omega) k3.1 (by omega) hs k2]
 simp only [oB, aft]
 exact congrArg some (setOf_congr fun x _ _ => Or.comm)
noncomputable def ends (t : d7) : List Int → List Int → Option (List Int)
 | s, [] => some s
 | s, op :: r => if dec (can t s op) = true then ends t (aft t s op) r else none
theorem ends_setN {t : d7} : ∀ {plan s e : List Int}, SetN s t.facts → ends t s plan = some e → SetN e t.facts
 | [], s, e, hs, h => by cases h; exact hs
 | op :: r, s, e, hs, h => by
  simp only [ends] at h
  split at h
  ·exact ends_setN (ab0 t s op) h
  ·cases h
def I7 (t : d7) (s plan : List Int) : Prop := ∃ e, ends t s plan = some e ∧ ∀ x ∈ t.goal, x ∈ e
theorem clone_eq {s : List Int} (h : s.length ≤ 1000000) : i9 s = some s := by
 rw [i9, app, if_pos (by simp; omega)]; rfl
noncomputable def run (t : d7) : List Int → List Int → List (List Int)
 | s, [] => [s]
 | s, op :: r => s :: if dec (can t s op) = true then run t (aft t s op) r else []
theorem run_ends {t : d7} : ∀ {plan s : List Int}, (ends t s plan = none → (run t s plan).length ≠ plan.length + 1) ∧ ∀ e, ends t s plan = some e → (run t s plan).length = plan.length + 1 ∧ (run t s plan)[plan.length]? = some e
 | [], s => ⟨fun h => by simp [ends] at h, fun e h => by cases h; simp [run]⟩
 | op :: r, s => by
  obtain ⟨h1, h2⟩ := run_ends (t := t) (plan := r) (s := aft t s op)
  simp only [ends, run, List.length_cons]
  by_cases c : can t s op
  ·rw [ifP c, ifP c]
   exact ⟨fun h => by have := h1 h; omega, fun e h => by obtain ⟨g1, g2⟩ := h2 e h; exact ⟨by omega, by simpa using g2⟩⟩
  ·rw [ifN c, ifN c]
   exact ⟨fun _ => by simp, fun e h => by cases h⟩
theorem run_eq {t : d7} (ht : i5 t) {plan : List Int} (hp : PlanOk t plan) {s : List Int} (hs : SetN s t.facts) : U9 t s plan = some (run t s plan) := by
 have hl := hp.1
 have hsl := hs.len
 have hn := ht.n1
 unfold U9
 rw [clone_eq (by omega)]
 simp only [oB]
 obtain ⟨o, h1, h2⟩ := Q8 (body := Q5 t plan) (fun p => 0 ≤ p.2.2 ∧ p.2.2 ≤ plan.length ∧ SetN p.2.1 t.facts ∧ p.1.length = p.2.2.toNat + 1 ∧ ∃ pre, p.1 = pre ++ [p.2.1] ∧ run t s plan = pre ++ run t p.2.1 (plan.drop p.2.2.toNat))
  (fun o => o = run t s plan) (fun p => (plan.length - p.2.2).toNat) (s := ([s], s, 0)) ⟨by simp, by simp, hs, by simp, [], rfl, by simp⟩ (fun ⟨c, s', j⟩ ⟨g0, g1, g2, g3, pre, g4, g5⟩ => by
   dsimp only at g0 g1 g2 g3 g4 g5 ⊢
   unfold Q5
   dsimp only
   by_cases cj : j < plan.length
   ·obtain ⟨op, hop, gop⟩ := p8 (l := plan) g0 cj
    have hm := hp.2 op (y6 hop)
    have hd : plan.drop j.toNat = op :: plan.drop (j.toNat + 1) := by
     obtain ⟨hlt, rfl⟩ := List.getElem?_eq_some_iff.1 gop
     exact List.drop_eq_getElem_cons hlt
    rw [hd] at g5
    rw [if_pos cj, hop]
    simp only [oB, can_eq ht hm.1 hm.2 g2, O5, next_eq ht hm.1 hm.2 g2]
    by_cases cc : can t s' op
    ·rw [ifNN cc, app, if_pos (by simp; omega)]
     simp only [oB]
     rw [A8 (by omega) (by omega)]
     refine .inl ⟨_, rfl, ⟨by dsimp only; omega, by dsimp only; omega, ab0 _ _ _, by simp; omega, c, rfl, ?_⟩, by dsimp only; omega⟩
     dsimp only
     rw [g5, run, ifP cc, g4, show (j + 1).toNat = j.toNat + 1 by omega]
     simp
    ·rw [ifP cc]
     refine .inr ⟨_, rfl, ?_⟩
     rw [g5, run, ifN cc, g4]
   ·rw [if_neg cj]
    refine .inr ⟨_, rfl, ?_⟩
    rw [g5, List.drop_of_length_le (by omega), run, g4])
 rw [h1, h2]; rfl
theorem sWorks_eq {t : d7} (ht : i5 t) {plan : List Int} (hp : PlanOk t plan) {s : List Int} (hs : SetN s t.facts) : M4 t s plan = some (dec (I7 t s plan)) := by
 have hl := hp.1
 have hn := ht.n1
 unfold M4
 rw [run_eq ht hp hs, A8 (by omega) (by omega)]
 simp only [oB]
 obtain ⟨h1, h2⟩ := run_ends (t := t) (plan := plan) (s := s)
 cases h : ends t s plan with
 | none =>
  rw [if_neg (by have := h1 h; omega)]
  simp only [oB]
  rw [x9]
  rintro ⟨e, g, _⟩
  rw [h] at g; cases g
 | some e =>
  obtain ⟨g1, g2⟩ := h2 e h
  have he := ends_setN hs h
  have hel := he.len
  rw [if_pos (by omega)]
  simp only [X5, g2, oB]
  rw [contains_eq he.1 ht.goal.1 (by omega)]
  simp only [oB]
  exact congrArg some (H6 ⟨fun g => ⟨e, h, g⟩, fun ⟨e', k1, k2⟩ => by rw [h] at k1; cases k1; exact k2⟩)
theorem solves_eq (t : d7) (plan : List Int) : ∃ b f, K2 t plan = some (b, f) ∧ W6 t plan = some f ∧ ((f = ⟨0, 0⟩ ∧ i5 t ∧ PlanOk t plan ∧ b = dec (I7 t t.init plan)) ∨ (f.code ≠ 0 ∧ ¬ (i5 t ∧ PlanOk t plan) ∧ b = false)) := by
 obtain ⟨f, h1, h2, h3⟩ := planFault_eq t plan
 unfold K2
 rw [h1, h2]
 simp only [oB]
 rcases h3 with ⟨rfl, ht, hp⟩ | ⟨hc, hn⟩
 ·rw [if_neg (by simp), sWorks_eq ht hp ht.init]
  exact ⟨_, _, rfl, rfl, .inl ⟨rfl, ht, hp, rfl⟩⟩
 ·rw [if_pos (fault_no hc)]
  exact ⟨_, _, rfl, rfl, .inr ⟨hc, hn, rfl⟩⟩
end Ab
end
section
namespace Ab
open Go
/-! ### States as' numbers -/
def wsN : List Int → Nat
 | [] => 0
 | a :: l => 2 ^ a.toNat + wsN l
theorem wsN_dvd {k : Nat} : ∀ {l : List Int}, (∀ x ∈ l, k ≤ x.toNat) → 2 ^ k ∣ wsN l
 | [], _ => ⟨0, rfl⟩
 | a :: l, h => Nat.dvd_add (Nat.pow_dvd_pow 2 (h a (by simp))) (wsN_dvd fun x hx => h x (List.mem_cons_of_mem _ hx))
theorem two_pow_no {k : Nat} (h : 2 ^ (k + 1) ∣ 2 ^ k) : False := by
 have h1 := Nat.le_of_dvd (Nat.two_pow_pos k) h
 have h2 := Nat.two_pow_pos k
 rw [Nat.pow_succ] at h1
 omega
theorem wsN_ne {a : Int} {l m : List Int} (ha : 0 ≤ a) (hl : ∀ x ∈ l, a < x) (hm : ∀ x ∈ m, a < x) : wsN (a :: l) ≠ wsN m := fun h => by
 have d1 : 2 ^ (a.toNat + 1) ∣ wsN l := wsN_dvd fun x hx => by have := hl x hx; omega
 have d2 : 2 ^ (a.toNat + 1) ∣ wsN m := wsN_dvd fun x hx => by have := hm x hx; omega
 rw [← h, wsN] at d2
 exact two_pow_no ((Nat.dvd_add_left d1).1 d2)
theorem wsN_inj : ∀ {l m : List Int}, Inc l → Inc m → (∀ x ∈ l, 0 ≤ x) → (∀ x ∈ m, 0 ≤ x) → wsN l = wsN m → l = m
 | [], [], _, _, _, _, _ => rfl
 | [], b :: m, _, _, _, _, h => by
  have := Nat.two_pow_pos b.toNat
  simp only [wsN] at h; omega
 | a :: l, [], _, _, _, _, h => by
  have := Nat.two_pow_pos a.toNat
  simp only [wsN] at h; omega
 | a :: l, b :: m, h1, h2, h3, h4, h => by
  obtain ⟨l1, l2⟩ := List.pairwise_cons.1 h1
  obtain ⟨m1, m2⟩ := List.pairwise_cons.1 h2
  rcases Int.lt_trichotomy a b with c | c | c
  ·exact absurd h (wsN_ne (h3 a (by simp)) l1 fun x hx => by
    rcases List.mem_cons.1 hx with rfl | hx
    ·exact c
    ·have := m1 x hx; omega)
  ·subst c
   simp only [wsN] at h
   rw [wsN_inj l2 m2 (fun x hx => h3 x (List.mem_cons_of_mem _ hx)) (fun x hx => h4 x (List.mem_cons_of_mem _ hx)) (by omega)]
  ·exact absurd h.symm (wsN_ne (h4 b (by simp)) m1 fun x hx => by
    rcases List.mem_cons.1 hx with rfl | hx
    ·exact c
    ·have := l1 x hx; omega)
theorem SetN.word_inj {s s' : List Int} {n : Int} (h : SetN s n) (h' : SetN s' n) (e : wsN s = wsN s') : s = s' :=
 wsN_inj h.1 h'.1 (fun x hx => (h.2 x hx).1) (fun x hx => (h'.2 x hx).1) e
end Ab
end
section
namespace Ab
open Go
/-! ### Maps -/
theorem B9 {K V : Type} [DecidableEq K] (k k' : K) (v : V) : ∀ m : List (K × V), mget (mset m k v) k' = if k' = k then some v else mget m k'
 | [] => by
  simp only [mset, mget]
 | p :: r => by
  simp only [mset]
  by_cases h : k = p.1
  ·rw [if_pos h]
   simp only [mget]
   by_cases h2 : k' = k
   ·rw [if_pos h2, if_pos h2]
   ·rw [if_neg h2, if_neg h2, if_neg (by rw [← h]; exact h2)]
  ·rw [if_neg h]
   simp only [mget]
   rw [B9 k k' v r]
   by_cases h2 : k' = p.1
   ·rw [if_pos h2, if_pos h2, if_neg (fun e => h (e.symm.trans h2))]
   ·rw [if_neg h2, if_neg h2]
end Ab
end
section
namespace Ab
open Go
theorem S2 {α : Type} [DecidableEq α] : ∀ {c S : List α}, c.Nodup → (∀ x ∈ c, x ∈ S) → c.length ≤ S.length
 | [], _, _, _ => Nat.zero_le _
 | a :: c, S, h, hs => by
  obtain ⟨h1, h2⟩ := List.nodup_cons.1 h
  have ha := hs a (by simp)
  have := S2 (c := c) (S := S.erase a) h2 fun x hx => by
   have hne : x ≠ a := fun e => h1 (e ▸ hx)
   exact (List.mem_erase_of_ne hne).2 (hs x (List.mem_cons_of_mem _ hx))
  rw [List.length_erase_of_mem ha] at this
  have : 0 < S.length := List.length_pos_of_mem ha
  simp only [List.length_cons]
  omega
section
variable {α : Type}
def Dn (G L : α → Prop) (nx : α → List α) : Nat → α → Prop
 | 0, s => G s
 | k + 1, s => G s ∨ (L s ∧ ∀ y ∈ nx s, Dn G L nx k y)
variable {G L : α → Prop} {nx : α → List α}
theorem Dn.goal {k : Nat} {s : α} (h : G s) : Dn G L nx k s := by
 cases k with
 | zero => exact h
 | succ k => exact .inl h
theorem Dn.succ : ∀ {k : Nat} {s : α}, Dn G L nx k s → Dn G L nx (k + 1) s
 | 0, s, h => .inl h
 | k + 1, s, h => by
  rcases h with h | ⟨h1, h2⟩
  ·exact .inl h
  ·exact .inr ⟨h1, fun y hy => (h2 y hy).succ⟩
theorem Dn.mono {k m : Nat} {s : α} (h : Dn G L nx k s) (hm : k ≤ m) : Dn G L nx m s := by
 induction hm with
 | refl => exact h
 | step _ ih => exact ih.succ
def Ht (G L : α → Prop) (nx : α → List α) (k : Nat) (s : α) : Prop := Dn G L nx k s ∧ ∀ j, j < k → ¬ Dn G L nx j s
theorem Ht.unique {k m : Nat} {s : α} (h : Ht G L nx k s) (h' : Ht G L nx m s) : k = m := by
 rcases Nat.lt_trichotomy k m with c | c | c
 ·exact absurd h.1 (h'.2 k c)
 ·exact c
 ·exact absurd h'.1 (h.2 m c)
theorem Ht.of_dn : ∀ {k : Nat} {s : α}, Dn G L nx k s → ∃ m, m ≤ k ∧ Ht G L nx m s
 | 0, s, h => ⟨0, Nat.le_refl _, h, fun j hj => by omega⟩
 | k + 1, s, h => by
  by_cases c : Dn G L nx k s
  ·obtain ⟨m, h1, h2⟩ := Ht.of_dn c
   exact ⟨m, by omega, h2⟩
  ·exact ⟨k + 1, Nat.le_refl _, h, fun j hj hd => c (hd.mono (by omega))⟩
theorem Ht.zero {s : α} (h : G s) : Ht G L nx 0 s := ⟨h, fun j hj => by omega⟩
theorem Ht.goal {k : Nat} {s : α} (h : Ht G L nx k s) (hg : G s) : k = 0 := h.unique (.zero hg)
theorem Ht.step {k : Nat} {s : α} (h : Ht G L nx k s) (hg : ¬ G s) (hne : ∀ s, L s → nx s ≠ []) : ∃ m, k = m + 1 ∧ L s ∧ (∀ y ∈ nx s, ∃ j, j ≤ m ∧ Ht G L nx j y) ∧ ∃ y ∈ nx s, Ht G L nx m y := by
 cases k with
 | zero => exact absurd h.1 hg
 | succ m =>
  rcases h.1 with g | ⟨h1, h2⟩
  ·exact absurd g hg
  ·refine ⟨m, rfl, h1, fun y hy => Ht.of_dn (h2 y hy), ?_⟩
   cases m with
   | zero =>
    obtain ⟨y, hy⟩ := List.exists_mem_of_ne_nil _ (hne s h1)
    exact ⟨y, hy, h2 y hy, fun j hj => by omega⟩
   | succ m =>
    have hn := h.2 (m + 1) (by omega)
    have : ∃ y ∈ nx s, ¬ Dn G L nx m y := Classical.byContradiction fun hc => hn (.inr ⟨h1, fun y hy => Classical.byContradiction fun hy2 => hc ⟨y, hy, hy2⟩⟩)
    obtain ⟨y, hy, hy2⟩ := this
    exact ⟨y, hy, h2 y hy, fun j hj hd => hy2 (hd.mono (by omega))⟩
end
end Ab
end
section
namespace Ab
open Go
/-! ### Maps -/
section
variable {K V : Type} [DecidableEq K]
theorem M7 {k : K} {v : V} : ∀ {m : List (K × V)}, mget m k = none → mset m k v = m ++ [(k, v)]
 | [], _ => rfl
 | p :: r, h => by
  simp only [mget] at h
  split at h
  ·cases h
  ·rename_i hne
   simp only [mset, if_neg hne, M7 h, List.cons_append]
theorem mset_keys {k : K} {v : V} : ∀ {m : List (K × V)}, mget m k ≠ none → (mset m k v).map (·.1) = m.map (·.1)
 | [], h => absurd rfl h
 | p :: r, h => by
  simp only [mget] at h
  simp only [mset]
  split
  ·rename_i e; simp [e]
  ·rename_i hne
   rw [if_neg hne] at h
   simp [mset_keys h]
theorem mget_mem {k : K} {v : V} : ∀ {m : List (K × V)}, mget m k = some v → (k, v) ∈ m
 | [], h => by cases h
 | p :: r, h => by
  simp only [mget] at h
  split at h
  ·rename_i e; cases h; subst e; exact List.mem_cons_self
  ·exact List.mem_cons_of_mem _ (mget_mem h)
theorem mget_none {k : K} : ∀ {m : List (K × V)}, mget m k = none → k ∉ m.map (·.1)
 | [], _ => by simp
 | p :: r, h => by
  simp only [mget] at h
  split at h
  ·cases h
  ·rename_i hne
   have := mget_none h
   simp only [List.map_cons, List.mem_cons, not_or]
   exact ⟨hne, this⟩
end
theorem H3 {α : Type} {l : List α} {i : Int} (h : i < 0) : ix l i = none := by
 unfold ix; rw [if_neg (by omega)]
theorem aa5 {α : Type} {l : List α} {x : α} {i : Int} : ix (l ++ [x]) i = if i = l.length then some x else ix l i := by
 by_cases h0 : 0 ≤ i
 ·obtain ⟨k, rfl⟩ := Int.eq_ofNat_of_zero_le h0
  rw [X5, X5]
  by_cases e : k = l.length
  ·subst e; simp
  ·rw [if_neg (by omega)]
   rcases Nat.lt_or_ge k l.length with h | h
   ·rw [List.getElem?_append_left h]
   ·rw [List.getElem?_eq_none (by simp; omega), List.getElem?_eq_none h]
 ·rw [H3 (by omega), H3 (by omega), if_neg (by omega)]
theorem ad8 {α : Type} {l : List α} {x a : α} {i : Int} (h : ix l i = some a) : ix (l ++ [x]) i = some a := by
 rw [aa5, if_neg (by have := x6 h; omega), h]
theorem ix_snoc_new {α : Type} {l : List α} {x : α} : ix (l ++ [x]) (l.length : Int) = some x := by rw [aa5, if_pos rfl]
end Ab
end
section
namespace Ab
open Go
theorem setN1 (a : Int) {n : Int} (h0 : 0 ≤ a) (h1 : a < n) : SetN [a] n := ⟨by simp, by simp [h0, h1]⟩
def n7 : d7 := ⟨2, [0], [1], [⟨[0], [1], [0], 1⟩, ⟨[], [1], [], 3⟩]⟩
theorem O3 : i5 n7 where
 n0 := by decide
 n1 := by decide
 init := setN1 0 (by decide) (by decide)
 goal := setN1 1 (by decide) (by decide)
 ops := by decide
 op o ho := by
  simp only [n7, List.mem_cons, List.not_mem_nil, or_false] at ho
  rcases ho with rfl | rfl
  ·exact ⟨⟨setN1 0 (by decide) (by decide), setN1 1 (by decide) (by decide), setN1 0 (by decide) (by decide), by simp⟩, by decide, by decide⟩
  ·exact ⟨⟨setN_nil _, setN1 1 (by decide) (by decide), setN_nil _, by simp⟩, by decide, by decide⟩
end Ab
end
section
namespace Ab
open Go
def llt : List Int → List Int → Prop
 | [], [] => False
 | [], _ :: _ => True
 | _ :: _, [] => False
 | a :: l, b :: m => a < b ∨ a = b ∧ llt l m
theorem O2 : ∀ l : List Int, ¬ llt l l
 | [] => id
 | a :: l => fun h => by
  rcases h with h | ⟨_, h⟩
  ·omega
  ·exact O2 l h
theorem ad0 : ∀ {a b c : List Int}, llt a b → llt b c → llt a c
 | [], [], _, h, _ => h.elim
 | [], _ :: _, [], _, h => h.elim
 | [], _ :: _, _ :: _, _, _ => trivial
 | _ :: _, [], _, h, _ => h.elim
 | _ :: _, _ :: _, [], _, h => h.elim
 | x :: a, y :: b, z :: c, h, g => by
  rcases h with h | ⟨rfl, h⟩ <;> rcases g with g | ⟨rfl, g⟩
  ·exact .inl (by omega)
  ·exact .inl h
  ·exact .inl g
  ·exact .inr ⟨rfl, ad0 h g⟩
theorem llt_total : ∀ a b : List Int, llt a b ∨ a = b ∨ llt b a
 | [], [] => .inr (.inl rfl)
 | [], _ :: _ => .inl trivial
 | _ :: _, [] => .inr (.inr trivial)
 | x :: a, y :: b => by
  rcases Int.lt_trichotomy x y with h | rfl | h
  ·exact .inl (.inl h)
  ·rcases llt_total a b with h | rfl | h
   ·exact .inl (.inr ⟨rfl, h⟩)
   ·exact .inr (.inl rfl)
   ·exact .inr (.inr (.inr ⟨rfl, h⟩))
  ·exact .inr (.inr (.inl h))
theorem llt_asymm {a b : List Int} (h : llt a b) (g : llt b a) : False := O2 a (ad0 h g)
noncomputable def cmpL (a b : List Int) : Int := if dec (llt a b) = true then -1 else if dec (a = b) = true then 0 else 1
theorem cmpL_lt {a b : List Int} : cmpL a b < 0 ↔ llt a b := by
 unfold cmpL
 by_cases h : llt a b
 ·rw [ifP h]; simp [h]
 ·rw [ifN h]
  split <;> simp [h]
theorem cmpL_eq {a b : List Int} : cmpL a b = 0 ↔ a = b := by
 unfold cmpL
 by_cases h : llt a b
 ·rw [ifP h]
  constructor
  ·intro e; omega
  ·rintro rfl; exact absurd h (O2 _)
 ·rw [ifN h]
  by_cases g : a = b
  ·rw [ifP g]; simp [g]
  ·rw [ifN g]; simp [g]
theorem cmpInt_eq (x y : Int) : H7 x y = some (if x < y then -1 else if y < x then 1 else 0) := by
 unfold H7 A6
 simp only [decide_true, Bool.not_true, oB, Bool.false_eq_true, if_false]
 split
 ·rfl
 ·split <;> rfl
theorem llt_drop : ∀ {a b : List Int} (k : Nat), k ≤ a.length → k ≤ b.length → a.take k = b.take k → (llt a b ↔ llt (a.drop k) (b.drop k))
 | _, _, 0, _, _, _ => by simp
 | [], _, k + 1, h, _, _ => by simp at h
 | _ :: _, [], k + 1, _, h, _ => by simp at h
 | x :: a, y :: b, k + 1, h1, h2, h3 => by
  simp only [List.take_succ_cons, List.cons.injEq] at h3
  obtain ⟨rfl, h3⟩ := h3
  simp only [List.drop_succ_cons]
  rw [← llt_drop k (by simpa using h1) (by simpa using h2) h3]
  simp [llt]
theorem compare_eq (a b : List Int) : s9 a b = some (cmpL a b) := by
 unfold s9
 rcases af3 (body := y7 a b) (n := (a.length : Int)) (s := ()) (fun j _ => j ≤ b.length ∧ a.take j.toNat = b.take j.toNat) (fun o => o = cmpL a b) (by omega) ⟨by omega, by simp⟩ (fun j _ j0 j1 ⟨k1, k2⟩ => by
  obtain ⟨x, hx, gx⟩ := p8 (l := a) j0 j1
  have hxl := (List.getElem?_eq_some_iff.1 gx).2
  unfold y7
  rw [hx]
  simp only [oB]
  have hd := llt_drop (a := a) (b := b) j.toNat (by omega) (by omega) k2
  have da : a.drop j.toNat = x :: a.drop (j.toNat + 1) := by rw [← hxl]; exact List.drop_eq_getElem_cons (by omega)
  by_cases c : (b.length : Int) ≤ j
  ·rw [if_pos c]
   refine .inr ⟨_, rfl, ?_⟩
   have db : b.drop j.toNat = [] := List.drop_of_length_le (by omega)
   rw [da, db] at hd
   unfold cmpL
   rw [ifN (fun h => (hd.1 h).elim), ifN]
   rintro rfl; omega
  ·rw [if_neg c]
   obtain ⟨y, hy, gy⟩ := p8 (l := b) (i := j) j0 (by omega)
   have hyl := (List.getElem?_eq_some_iff.1 gy).2
   have db : b.drop j.toNat = y :: b.drop (j.toNat + 1) := by rw [← hyl]; exact List.drop_eq_getElem_cons (by omega)
   rw [hy]
   simp only [oB, cmpInt_eq]
   rw [da, db] at hd
   have hne : x ≠ y → a ≠ b := fun h e => by subst e; rw [hx] at hy; cases hy; exact h rfl
   rcases Int.lt_trichotomy x y with h | rfl | h
   ·rw [if_pos h, if_neg (by decide)]
    refine .inr ⟨_, rfl, ?_⟩
    unfold cmpL
    rw [ifP (hd.2 (.inl h))]
   ·simp only [Int.lt_irrefl, if_false, if_true]
    refine .inl ⟨(), trivial, by omega, ?_⟩
    rw [show (j + 1).toNat = j.toNat + 1 by omega, List.take_add_one, List.take_add_one, gx, gy, k2]
   ·rw [if_neg (show ¬ x < y by omega), if_pos h, if_neg (by decide)]
    refine .inr ⟨_, rfl, ?_⟩
    unfold cmpL
    rw [ifN, ifN (hne (by omega))]
    intro g
    rcases hd.1 g with g | ⟨g, _⟩ <;> omega) with ⟨_, r1, r2, r3⟩ | ⟨o, r1, rfl⟩
 ·rw [r1]
  simp only [oB]
  have hd := llt_drop (a := a) (b := b) a.length (Nat.le_refl _) (by omega) (by simpa using r3)
  have da : a.drop a.length = [] := by simp
  rw [da] at hd
  have e3 : a = b.take a.length := by simpa using r3
  by_cases c : (a.length : Int) < b.length
  ·rw [if_pos c]
   have : b.drop a.length ≠ [] := by simp; omega
   unfold cmpL
   rw [ifP]
   rw [hd]
   cases h : b.drop a.length with
   | nil => exact absurd h this
   | cons x l => trivial
  ·rw [if_neg c]
   have : a = b := by rw [e3, List.take_of_length_le (by omega)]
   rw [cmpL_eq.2 this]
 ·rw [r1]; rfl
theorem cmp_ok : CmpOk s9 cmpL := by
 refine ⟨compare_eq, ⟨fun x => ?_, fun x y z h1 h2 => ?_, fun x y z h1 h2 => ?_⟩, fun a b h1 h2 => ?_⟩
 ·simp only [Go.Proofs.ltOf, decide_eq_false_iff_not, cmpL_lt]
  exact O2 x
 ·simp only [Go.Proofs.ltOf, decide_eq_true_eq, cmpL_lt] at h1 h2 ⊢
  exact ad0 h1 h2
 ·simp only [Go.Proofs.ltOf, decide_eq_false_iff_not, cmpL_lt] at h1 h2 ⊢
  intro h
  rcases llt_total x y with g | rfl | g
  ·exact h1 g
  ·exact h2 h
  ·exact h2 (ad0 g h)
 ·rw [cmpL_lt] at h1 h2
  rcases llt_total a b with g | g | g
  ·exact absurd g h1
  ·exact g
  ·exact absurd g h2
/-! ### Lists compared -/
/-! ### Ordered lists -/
abbrev Ord (l : List (List Int)) : Prop := l.Pairwise llt
theorem Ord.ext : ∀ {l m : List (List Int)}, Ord l → Ord m → (∀ x, x ∈ l ↔ x ∈ m) → l = m
 | [], [], _, _, _ => rfl
 | [], b :: m, _, _, h => absurd ((h b).2 (by simp)) (by simp)
 | a :: l, [], _, _, h => absurd ((h a).1 (by simp)) (by simp)
 | a :: l, b :: m, hl, hm, h => by
  obtain ⟨l1, l2⟩ := List.pairwise_cons.1 hl
  obtain ⟨m1, m2⟩ := List.pairwise_cons.1 hm
  have hab : a = b := by
   rcases List.mem_cons.1 ((h a).1 (by simp)) with e | e
   ·exact e
   ·rcases List.mem_cons.1 ((h b).2 (by simp)) with e' | e'
    ·exact e'.symm
    ·exact (llt_asymm (l1 b e') (m1 a e)).elim
  subst hab
  rw [Ord.ext l2 m2 fun x => ⟨fun hx => ?_, fun hx => ?_⟩]
  ·rcases List.mem_cons.1 ((h x).1 (by simp [hx])) with e | e
   ·subst e; exact absurd (l1 x hx) (O2 x)
   ·exact e
  ·rcases List.mem_cons.1 ((h x).2 (by simp [hx])) with e | e
   ·subst e; exact absurd (m1 x hx) (O2 x)
   ·exact e
end Ab
end
section
namespace Ab
open Go
theorem wsN_tb : ∀ {l : List Int}, Inc l → (∀ x ∈ l, 0 ≤ x) → ∀ k : Nat, (wsN l).testBit k = dec ((k : Int) ∈ l)
 | [], _, _, k => by simp [wsN, dec]
 | a :: l, h, h0, k => by
  have hc := List.pairwise_cons.1 h
  obtain ⟨q, hq⟩ : 2 ^ (a.toNat + 1) ∣ wsN l := wsN_dvd fun x hx => by have := hc.1 x hx; have := h0 a (by simp); omega
  have ih := wsN_tb hc.2 (fun x hx => h0 x (List.mem_cons_of_mem _ hx)) k
  have e : wsN (a :: l) = wsN l ||| 2 ^ a.toNat := by
   rw [hq, ← Nat.two_pow_add_eq_or_of_lt (Nat.pow_lt_pow_right (by omega) (by omega)) q, ← hq]
   simp only [wsN]; omega
  rw [e, Nat.testBit_or, ih, Nat.testBit_two_pow]
  have ha := h0 a (by simp)
  by_cases c : (k : Int) = a
  ·have : a.toNat = k := by omega
   simp [this, c]
  ·have : ¬ a.toNat = k := by omega
   simp [this, c]
theorem SetN.tb {s : List Int} {n : Int} (h : SetN s n) (k : Nat) : (wsN s).testBit k = dec ((k : Int) ∈ s) := wsN_tb h.1 (fun x hx => (h.2 x hx).1) k
theorem SetN.w32 {s : List Int} {n : Int} (h : SetN s n) (hn : n ≤ 24) : wsN s < 4294967296 := by
 refine Nat.lt_pow_two_of_testBit (n := 32) _ fun i hi => ?_
 rw [h.tb, dec_false]
 intro q
 have := (h.2 _ q).2
 omega
theorem wrap32 {n : Nat} (h : n < 4294967296) : IntKind.wrap .u32 (n : Int) = n := by
 simp only [IntKind.wrap, IntKind.bits, IntKind.signed, Bool.false_and, Bool.false_eq_true, if_false]
 omega
theorem bit_and {a b : Nat} (ha : a < 4294967296) : Go.bits .and .u32 (a : Int) (b : Int) = ((a &&& b : Nat) : Int) := by
 have e : (BitVec.ofNat 32 a &&& BitVec.ofNat 32 b).toNat = a &&& b := by
  rw [BitVec.toNat_and, BitVec.toNat_ofNat, BitVec.toNat_ofNat]
  refine Nat.eq_of_testBit_eq fun i => ?_
  simp only [Nat.testBit_and, Nat.testBit_mod_two_pow]
  by_cases c : i < 32
  ·simp [c]
  ·have : a.testBit i = false := Nat.testBit_lt_two_pow (Nat.lt_of_lt_of_le ha (Nat.pow_le_pow_right (n := 2) (by omega) (show 32 ≤ i by omega)))
   simp [this]
 rw [← e]
 simp only [Go.bits, BitVec.ofInt_natCast, IntKind.bits]
 exact wrap32 (BitVec.ofNat 32 a &&& BitVec.ofNat 32 b).isLt
theorem bit_or {a b : Nat} (ha : a < 4294967296) (hb : b < 4294967296) : Go.bits .or .u32 (a : Int) (b : Int) = ((a ||| b : Nat) : Int) := by
 have e : (BitVec.ofNat 32 a ||| BitVec.ofNat 32 b).toNat = a ||| b := by
  rw [BitVec.toNat_or, BitVec.toNat_ofNat, BitVec.toNat_ofNat, Nat.mod_eq_of_lt (by simpa using ha), Nat.mod_eq_of_lt (by simpa using hb)]
 rw [← e]
 simp only [Go.bits, BitVec.ofInt_natCast, IntKind.bits]
 exact wrap32 (BitVec.ofNat 32 a ||| BitVec.ofNat 32 b).isLt
theorem bit_andNot {a b : Nat} (ha : a < 4294967296) : ∃ c : Nat, Go.bits .andNot .u32 (a : Int) (b : Int) = (c : Int) ∧ c < 4294967296 ∧ ∀ k, c.testBit k = (a.testBit k && !b.testBit k) := by
 refine ⟨(BitVec.ofNat 32 a &&& ~~~BitVec.ofNat 32 b).toNat, ?_, (BitVec.ofNat 32 a &&& ~~~BitVec.ofNat 32 b).isLt, fun k => ?_⟩
 ·simp only [Go.bits, BitVec.ofInt_natCast, IntKind.bits]
  exact wrap32 (BitVec.ofNat 32 a &&& ~~~BitVec.ofNat 32 b).isLt
 ·rw [BitVec.testBit_toNat, BitVec.getLsbD_and, BitVec.getLsbD_not, BitVec.getLsbD_ofNat, BitVec.getLsbD_ofNat]
  by_cases c : k < 32
  ·simp [c]
  ·have : a.testBit k = false := Nat.testBit_lt_two_pow (Nat.lt_of_lt_of_le ha (Nat.pow_le_pow_right (n := 2) (by omega) (show 32 ≤ k by omega)))
   simp [c, this]
theorem sub_word {s p : List Int} {n : Int} (hs : SetN s n) (hp : SetN p n) (hn : n ≤ 24) : Go.bits .and .u32 (wsN s : Int) (wsN p : Int) = (wsN p : Int) ↔ ∀ x ∈ p, x ∈ s := by
 rw [bit_and (hs.w32 hn)]
 constructor
 ·intro h x hx
  have h0 := (hp.2 x hx).1
  have e : (wsN s &&& wsN p) = wsN p := by omega
  have := congrArg (fun n => Nat.testBit n x.toNat) e
  simp only [Nat.testBit_and, hs.tb, hp.tb, show ((x.toNat : Nat) : Int) = x by omega, l8 hx, Bool.and_true, k7] at this
  exact this
 ·intro h
  have e : (wsN s &&& wsN p) = wsN p := by
   refine Nat.eq_of_testBit_eq fun i => ?_
   rw [Nat.testBit_and, hs.tb, hp.tb, dec_and]
   exact H6 ⟨fun q => q.2, fun q => ⟨h _ q, q⟩⟩
  rw [e]
theorem next_word {s d a : List Int} {n : Int} (hs : SetN s n) (hd : SetN d n) (ha : SetN a n) (hn : n ≤ 24) :
  Go.bits .or .u32 (Go.bits .andNot .u32 (wsN s : Int) (wsN d : Int)) (wsN a : Int) = (wsN (D3 (fun x => x ∈ a ∨ x ∈ s ∧ x ∉ d) n) : Int) := by
 obtain ⟨c, c1, c2, c3⟩ := bit_andNot (b := wsN d) (hs.w32 hn)
 have hr : SetN (D3 (fun x => x ∈ a ∨ x ∈ s ∧ x ∉ d) n) n := ag6 _ _
 rw [c1, bit_or c2 (ha.w32 hn)]
 have e : c ||| wsN a = wsN (D3 (fun x => x ∈ a ∨ x ∈ s ∧ x ∉ d) n) := by
  refine Nat.eq_of_testBit_eq fun i => ?_
  rw [Nat.testBit_or, c3, hs.tb, hd.tb, ha.tb, hr.tb, O5, dec_and, dec_or]
  refine H6 ?_
  rw [F1]
  constructor
  ·rintro (⟨q1, q2⟩ | q)
   ·exact ⟨(hs.2 _ q1).1, (hs.2 _ q1).2, .inr ⟨q1, q2⟩⟩
   ·exact ⟨(ha.2 _ q).1, (ha.2 _ q).2, .inl q⟩
  ·rintro ⟨_, _, q | q⟩
   ·exact .inr q
   ·exact .inl q
 rw [e]
theorem ab2 {s : List Int} {n : Int} (hs : SetN s n) (hn : n ≤ 24) : E8 s = some (wsN s : Int) := by
 unfold E8
 obtain ⟨w, h1, h2⟩ := J6 (body := Q7 s) (n := (s.length : Int)) (s := 0) (fun j w => w = (wsN (s.take j.toNat) : Int)) (by omega) (by simp [wsN]) (fun j w j0 j1 hP => by
  obtain ⟨a, ha, ga⟩ := p8 (l := s) j0 j1
  have hb := hs.2 a (y6 ha)
  have ht : s.take (j + 1).toNat = s.take j.toNat ++ [a] := by rw [show (j + 1).toNat = j.toNat + 1 by omega, List.take_add_one, ga]; rfl
  have h1 : SetN (s.take j.toNat) n := ⟨List.Pairwise.sublist (List.take_sublist _ _) hs.1, fun x hx => hs.2 x (List.mem_of_mem_take hx)⟩
  have h2 : SetN (s.take j.toNat ++ [a]) n := by rw [← ht]; exact ⟨List.Pairwise.sublist (List.take_sublist _ _) hs.1, fun x hx => hs.2 x (List.mem_of_mem_take hx)⟩
  have h3 : SetN [a] n := ⟨List.pairwise_singleton _ _, fun x hx => by simp at hx; subst hx; exact hb⟩
  have e1 : shlW .u32 1 a = (wsN [a] : Int) := by
   have := h3.w32 hn
   unfold shlW
   simp only [wsN, Nat.add_zero] at this ⊢
   rw [show min a.toNat (IntKind.u32).bits = a.toNat by simp only [IntKind.bits]; omega, Int.one_mul]
   have ep : (2 : Int) ^ a.toNat = ((2 ^ a.toNat : Nat) : Int) := by push_cast; rfl
   rw [ep]; exact wrap32 this
  refine ⟨Go.bits .or .u32 w (shlW .u32 1 a), by simp only [Q7, ha, oB, chk0, if_neg (show ¬ a < 0 by omega)], ?_⟩
  rw [e1, hP, bit_or (h1.w32 hn) (h3.w32 hn), ht]
  have e : wsN (s.take j.toNat) ||| wsN [a] = wsN (s.take j.toNat ++ [a]) := by
   refine Nat.eq_of_testBit_eq fun i => ?_
   rw [Nat.testBit_or, h1.tb, h2.tb, h3.tb, dec_or]
   exact H6 (by simp)
  rw [e])
 rw [h1, h2, Int.toNat_natCast, List.take_length]
 rfl
noncomputable def E5 (w : Nat) (n : Nat) : List Int := (nums 0 n).filter fun x => w.testBit x.toNat
theorem facts_eq {w : Nat} (hw : w < 4294967296) : L4 (w : Int) = some (E5 w 32) := by
 unfold L4
 obtain ⟨r, h1, h2⟩ := J6 (body := O4 (w : Int)) (n := 32) (s := []) (fun j c => c = E5 w j.toNat) (by omega) (by simp [E5, nums]) (fun j c j0 j1 hP => by
  subst hP
  have hlen : (E5 w j.toNat).length ≤ 32 := by
   refine Nat.le_trans (List.length_filter_le _ _) ?_
   rw [len_nums]; omega
  have hn : nums 0 (j + 1).toNat = nums 0 j.toNat ++ [j] := by
   refine Inc.ext (af7 _ _) (List.pairwise_append.2 ⟨af7 _ _, List.pairwise_singleton _ _, fun x hx y hy => ?_⟩) fun x => ?_
   ·simp at hy; subst hy; have := M9.1 hx; omega
   ·rw [List.mem_append, M9, M9, List.mem_singleton]; omega
  have e1 : shrW .u32 (w : Int) j = ((w >>> j.toNat : Nat) : Int) := by
   unfold shrW
   rw [show min j.toNat (IntKind.u32).bits = j.toNat by simp only [IntKind.bits]; omega]
   have ep : (2 : Int) ^ j.toNat = ((2 ^ j.toNat : Nat) : Int) := by push_cast; rfl
   rw [ep, Nat.shiftRight_eq_div_pow, Int.fdiv_eq_ediv_of_nonneg _ (Int.natCast_nonneg _)]
   rfl
  have h2 : w >>> j.toNat < 4294967296 := Nat.lt_of_le_of_lt (Nat.shiftRight_le _ _) hw
  have e2 : Go.bits .and .u32 ((w >>> j.toNat : Nat) : Int) 1 = ((w >>> j.toNat &&& 1 : Nat) : Int) := bit_and (b := 1) h2
  have e3 : (w >>> j.toNat &&& 1 = 1) ↔ w.testBit j.toNat = true := by
   rw [Nat.testBit]; simp [Nat.and_comm]
  unfold O4
  rw [e1, e2]
  by_cases c : w.testBit j.toNat = true
  ·rw [if_pos (by have := e3.2 c; omega), app, if_pos (by simp; omega)]
   exact ⟨_, rfl, by simp [E5, hn, List.filter_append, c]⟩
  ·rw [if_neg (fun q => c (e3.1 (by omega)))]
   exact ⟨_, rfl, by simp [E5, hn, List.filter_append, c]⟩)
 rw [h1, h2]; rfl
theorem bitsOf_inj {a b : Nat} (ha : a < 4294967296) (hb : b < 4294967296) (h : E5 a 32 = E5 b 32) : a = b := by
 refine Nat.eq_of_testBit_eq fun i => ?_
 by_cases c : i < 32
 ·have key : ∀ w : Nat, (i : Int) ∈ E5 w 32 ↔ w.testBit i = true := fun w => by
   simp only [E5, List.mem_filter, M9, Int.toNat_natCast]
   exact ⟨fun q => q.2, fun q => ⟨by omega, q⟩⟩
  have := (key a).symm.trans ((by rw [h]) : ((i : Int) ∈ E5 a 32 ↔ (i : Int) ∈ E5 b 32)) |>.trans (key b)
  cases h1 : a.testBit i <;> cases h2 : b.testBit i <;> simp [h1, h2] at this ⊢
 ·have low : ∀ w : Nat, w < 4294967296 → w.testBit i = false := fun w hw => Nat.testBit_lt_two_pow (Nat.lt_of_lt_of_le hw (Nat.pow_le_pow_right (n := 2) (by omega) (show 32 ≤ i by omega)))
  rw [low a ha, low b hb]
theorem words_cmp : CmpOk (fun a b : U32 => C6 a.1 b.1) (fun a b => cmpL (E5 a.1.toNat 32) (E5 b.1.toNat 32)) := by
 obtain ⟨h1, h2, h3⟩ := cmp_ok
 refine ⟨fun a b => ?_, ⟨fun x => h2.irrefl _, fun x y z => h2.trans _ _ _, fun x y z => h2.ntrans _ _ _⟩, fun a b q1 q2 => ?_⟩
 ·have ea := facts_eq (w := a.1.toNat) (by have := a.2; omega)
  have eb := facts_eq (w := b.1.toNat) (by have := b.2; omega)
  rw [show ((a.1.toNat : Nat) : Int) = a.1 by have := a.2; omega] at ea
  rw [show ((b.1.toNat : Nat) : Int) = b.1 by have := b.2; omega] at eb
  simp only [C6, ea, eb, oB, h1]
 ·have := bitsOf_inj (a := a.1.toNat) (b := b.1.toNat) (by have := a.2; omega) (by have := b.2; omega) (h3 _ _ q1 q2)
  have ha := a.2; have hb := b.2
  exact Subtype.ext (by omega)
theorem sortW {l : List Int} (hl : l.length ≤ 1000000) (hw : ∀ x ∈ l, 0 ≤ x ∧ x < 4294967296) : ∃ l', sortFU C6 l = some l' ∧ l'.Perm l := by
 unfold sortFU
 rw [dif_pos hw, sortFL_eq (by simp; omega) words_cmp]
 refine ⟨_, rfl, ?_⟩
 have := (List.mergeSort_perm (l.attach.map fun x => (⟨x.1, hw x.1 x.2⟩ : U32)) (fun x y => decide (¬ cmpL (E5 y.1.toNat 32) (E5 x.1.toNat 32) < 0))).map (fun z : U32 => z.1)
 simpa using this
end Ab
end
section
namespace Ab
open Go
inductive Rt (t : d7) : List Int → Prop
 | init : Rt t t.init
 | step {s : List Int} {op : Int} (h : Rt t s) (h0 : 0 ≤ op) (h1 : op < t.operators.length) (hc : can t s op) : Rt t (aft t s op)
theorem Rt.setN {t : d7} (ht : i5 t) {s : List Int} (h : Rt t s) : SetN s t.facts := by
 cases h with
 | init => exact ht.init
 | step => exact ab0 _ _ _
theorem Rt.ends {t : d7} : ∀ {plan s e : List Int}, Rt t s → (∀ x ∈ plan, (0 : Int) ≤ x ∧ x < t.operators.length) → ends t s plan = some e → Rt t e
 | [], s, e, hs, _, h => by simp only [Ab.ends, Option.some.injEq] at h; subst h; exact hs
 | op :: r, s, e, hs, hv, h => by
  simp only [Ab.ends] at h
  split at h
  ·rename_i hc
   have := hv op List.mem_cons_self
   exact Rt.ends (hs.step this.1 this.2 (k7.1 hc)) (fun x hx => hv x (List.mem_cons_of_mem _ hx)) h
  ·cases h
def Cls (t : d7) (l : List (List Int)) (s : List Int) : Prop := ∀ op : Int, 0 ≤ op → op < t.operators.length → can t s op → aft t s op ∈ l
theorem Rt.mem {t : d7} {l : List (List Int)} (hi : t.init ∈ l) (hc : ∀ s ∈ l, Cls t l s) {s : List Int} (h : Rt t s) : s ∈ l := by
 induction h with
 | init => exact hi
 | step h h0 h1 hcan ih => exact hc _ ih _ h0 h1 hcan
def Many (t : d7) : Prop := ∃ l : List (List Int), l.Nodup ∧ l.length = 2001 ∧ ∀ s ∈ l, Rt t s
end Ab
end
section
namespace Ab
open Go
abbrev Mk := h9
def wd (s : List Int) : Int := (wsN s : Int)
def mkOf (o : e6) : Mk := ⟨wd o.pre, wd o.add, wd o.del, o.cost⟩
def mks (t : d7) : List Mk := t.operators.map mkOf
def canW (m : Mk) (x : Int) : Prop := Go.bits .and .u32 x m.pre = m.pre
def tgtW (m : Mk) (x : Int) : Int := Go.bits .or .u32 (Go.bits .andNot .u32 x m.del) m.add
theorem wd_inj {t : d7} (ht : i5 t) {s s' : List Int} (h : SetN s t.facts) (h' : SetN s' t.facts) (e : wd s = wd s') : s = s' :=
 h.word_inj h' (by unfold wd at e; omega)
theorem wd_u32 {t : d7} (ht : i5 t) {s : List Int} (h : SetN s t.facts) : 0 ≤ wd s ∧ wd s < 4294967296 := by
 have := h.w32 ht.n1; unfold wd; omega
theorem Q6 {t : d7} (ht : i5 t) {op : Int} (h0 : 0 ≤ op) (h1 : op < t.operators.length) : K1 (opAt t op) t.facts ∧ P8 (opAt t op) := ht.op _ (y6 (ix_op h0 h1))
theorem ag2 {t : d7} (ht : i5 t) {s : List Int} (h : SetN s t.facts) {op : Int} (h0 : 0 ≤ op) (h1 : op < t.operators.length) : canW (mkOf (opAt t op)) (wd s) ↔ can t s op :=
 sub_word h (Q6 ht h0 h1).1.1 ht.n1
theorem tgtW_eq {t : d7} (ht : i5 t) {s : List Int} (h : SetN s t.facts) {op : Int} (h0 : 0 ≤ op) (h1 : op < t.operators.length) : tgtW (mkOf (opAt t op)) (wd s) = wd (aft t s op) :=
 next_word h (Q6 ht h0 h1).1.2.2.1 (Q6 ht h0 h1).1.2.1 ht.n1
theorem mks_mem {t : d7} {m : Mk} (h : m ∈ mks t) : ∃ op : Int, 0 ≤ op ∧ op < t.operators.length ∧ m = mkOf (opAt t op) := by
 obtain ⟨o, ho, rfl⟩ := List.mem_map.1 h
 obtain ⟨i, h0, h1, h2⟩ := A9 ho
 rw [ix_op h0 h1] at h2; cases h2
 exact ⟨i, h0, h1, rfl⟩
theorem mks_of {t : d7} {op : Int} (h0 : 0 ≤ op) (h1 : op < t.operators.length) : mkOf (opAt t op) ∈ mks t := List.mem_map.2 ⟨_, y6 (ix_op h0 h1), rfl⟩
theorem of_eq {t : d7} (ht : i5 t) : U4 t = some (wd t.init, wd t.goal, mks t) := by
 unfold U4
 rw [ab2 ht.init ht.n1, ab2 ht.goal ht.n1]
 simp only [oB]
 obtain ⟨r, h1, h2⟩ := J6 (body := Q3 t) (n := (t.operators.length : Int)) (s := []) (fun j c => c = (t.operators.take j.toNat).map mkOf) (by omega) (by simp) (fun j c j0 j1 hP => by
  have ho := Q6 ht j0 j1
  have hx := ix_op j0 j1
  have ga := (x6 hx).2.2
  have hl := ht.ops
  have htk : t.operators.take (j + 1).toNat = t.operators.take j.toNat ++ [opAt t j] := by rw [show (j + 1).toNat = j.toNat + 1 by omega, List.take_add_one, ga]; rfl
  unfold Q3
  rw [hx]
  simp only [oB, ab2 ho.1.1 ht.n1, ab2 ho.1.2.1 ht.n1, ab2 ho.1.2.2.1 ht.n1]
  refine ⟨c ++ [mkOf (opAt t j)], ?_, ?_⟩
  ·unfold app
   rw [if_pos (by rw [hP]; simp; omega)]; rfl
  ·rw [hP, htk]; simp)
 rw [h1, h2, Int.toNat_natCast, List.take_length]
 rfl
def Rwd (t : d7) (x : Int) : Prop := ∃ s, Rt t s ∧ x = wd s
theorem states_of {t : d7} : ∀ {l : List Int}, (∀ x ∈ l, Rwd t x) → ∃ ss : List (List Int), ss.map wd = l ∧ ∀ s ∈ ss, Rt t s
 | [], _ => ⟨[], rfl, by simp⟩
 | x :: l, h => by
  obtain ⟨s, s1, s2⟩ := h x (by simp)
  obtain ⟨ss, h1, h2⟩ := states_of (l := l) fun y hy => h y (List.mem_cons_of_mem _ hy)
  exact ⟨s :: ss, by simp [h1, s2], by simp [s1]; exact h2⟩
theorem ab3 {α β : Type} {f : α → β} : ∀ {l : List α}, (l.map f).Nodup → l.Nodup
 | [], _ => List.nodup_nil
 | x :: l, h => by
  simp only [List.map_cons, List.nodup_cons] at h
  exact List.nodup_cons.2 ⟨fun hx => h.1 (List.mem_map.2 ⟨x, hx, rfl⟩), ab3 h.2⟩
theorem many_of {t : d7} {l : List Int} (hn : l.Nodup) (hl : 2000 < l.length) (h : ∀ x ∈ l, Rwd t x) : Many t := by
 obtain ⟨ss, h1, h2⟩ := states_of (l := l.take 2001) fun x hx => h x (List.mem_of_mem_take hx)
 refine ⟨ss, ab3 (f := wd) (by rw [h1]; exact hn.sublist (List.take_sublist _ _)), ?_, h2⟩
 have := congrArg List.length h1
 simp only [List.length_map, List.length_take] at this
 omega
theorem Rwd.next {t : d7} (ht : i5 t) {x : Int} (h : Rwd t x) {m : Mk} (hm : m ∈ mks t) (hc : canW m x) : Rwd t (tgtW m x) := by
 obtain ⟨s, s1, rfl⟩ := h
 obtain ⟨op, h0, h1, rfl⟩ := mks_mem hm
 have hs := s1.setN ht
 exact ⟨_, .step s1 h0 h1 ((ag2 ht hs h0 h1).1 hc), tgtW_eq ht hs h0 h1⟩
theorem Rwd.all {t : d7} (ht : i5 t) {l : List Int} (hi : wd t.init ∈ l) (hc : ∀ x ∈ l, ∀ m ∈ mks t, canW m x → tgtW m x ∈ l) {x : Int} (h : Rwd t x) : x ∈ l := by
 obtain ⟨s, h, rfl⟩ := h
 induction h with
 | init => exact hi
 | step h h0 h1 hcan ih =>
  have hs := h.setN ht
  have := hc _ ih _ (mks_of h0 h1) ((ag2 ht hs h0 h1).2 hcan)
  rwa [tgtW_eq ht hs h0 h1] at this
abbrev MpU := List (Int × Unit)
theorem mgetU {m : MpU} {x : Int} : mget m x = none ↔ x ∉ m.map (·.1) := by
 constructor
 ·exact mget_none
 ·intro h
  cases e : mget m x with
  | none => rfl
  | some u => exact absurd (List.mem_map.2 ⟨_, mget_mem e, rfl⟩) h
structure AlW (t : d7) (q : List Int) (f : MpU) (a : List Int) : Prop where
 nd : (f.map (·.1)).Nodup
 pm : (f.map (·.1)).Perm (q ++ a)
 rw : ∀ x ∈ f.map (·.1), Rwd t x
theorem all_in {t : d7} (ht : i5 t) {q a : List Int} {f : MpU} {x : Int} (hx : Rwd t x) (h : AlW t q f a) (hf : f.length ≤ 2000) (u : Unit) {c : List Int} (hc : n8 c 0 ((c.length : Int) - 1) = q) :
  ∃ f' q', D5 (mks t) c f x u = some (f', q') ∧ AlW t q' f' a ∧ (∀ y ∈ f.map (·.1), y ∈ f'.map (·.1)) ∧ ∀ m ∈ mks t, canW m x → tgtW m x ∈ f'.map (·.1) := by
 unfold D5
 have hml : (mks t).length ≤ 40 := by simp [mks]; exact ht.ops
 obtain ⟨r, h1, h2, h3, h4, h5⟩ := J6 (body := C9 (mks t) x u) (n := ((mks t).length : Int)) (s := (f, n8 c 0 ((c.length : Int) - 1)))
  (fun j s => AlW t s.2 s.1 a ∧ (∀ y ∈ f.map (·.1), y ∈ s.1.map (·.1)) ∧ s.1.length ≤ 2000 + j ∧ ∀ i m, i < j → ix (mks t) i = some m → canW m x → tgtW m x ∈ s.1.map (·.1)) (by omega)
  ⟨by rw [hc]; exact h, fun _ h => h, by simp only; omega, fun i m hi hm => by have := (x6 hm).1; omega⟩ (fun j s j0 j1 hP => by
   obtain ⟨f', q'⟩ := s
   obtain ⟨p1, p2, p3, p4⟩ := hP
   simp only at p1 p2 p3 p4
   obtain ⟨m, hm, _⟩ := p8 j0 j1
   have hmm := y6 hm
   unfold C9
   simp only [hm, oB]
   by_cases c1 : Go.bits .and .u32 x m.pre = m.pre
   ·rw [if_pos c1]
    have c1' : canW m x := c1
    have ee : Go.bits .or .u32 (Go.bits .andNot .u32 x m.del) m.add = tgtW m x := rfl
    rw [ee]
    by_cases c2 : mget f' (tgtW m x) = none
    ·rw [if_pos (by simp [c2])]
     have hq : q'.length ≤ f'.length := by have := p1.pm.length_eq; simp at this; omega
     have ha : app 4 q' [tgtW m x] = some (q' ++ [tgtW m x]) := by unfold app; rw [if_pos (by simp; omega)]
     simp only [ha, oB]
     have hmem := mgetU.1 c2
     refine ⟨_, rfl, ⟨?_, ?_, ?_⟩, ?_, ?_, ?_⟩
     ·simp only [M7 c2, List.map_append]
      refine List.nodup_append.2 ⟨p1.nd, by simp, fun y hy z hz e => ?_⟩
      simp at hz; subst hz; subst e; exact hmem hy
     ·simp only [M7 c2, List.map_append, List.map_cons, List.map_nil]
      refine (p1.pm.append_right _).trans ?_
      rw [List.append_assoc, List.append_assoc]
      exact List.Perm.append_left _ List.perm_append_comm
     ·intro y hy
      simp only [M7 c2, List.map_append, List.mem_append, List.map_cons, List.map_nil, List.mem_singleton] at hy
      rcases hy with hy | rfl
      ·exact p1.rw y hy
      ·exact hx.next ht hmm c1'
     ·intro y hy
      simp only [M7 c2, List.map_append, List.mem_append]
      exact .inl (p2 y hy)
     ·simp only [M7 c2, List.length_append, List.length_singleton]; omega
     ·intro i m' hi hm' hc'
      simp only [M7 c2, List.map_append, List.mem_append]
      by_cases e : i = j
      ·subst e; rw [hm] at hm'; cases hm'; exact .inr (by simp)
      ·exact .inl (p4 i m' (by omega) hm' hc')
    ·rw [if_neg (by simp; cases e : mget f' (tgtW m x) with | none => exact absurd e c2 | some _ => simp)]
     refine ⟨_, rfl, p1, p2, by simp only; omega, fun i m' hi hm' hc' => ?_⟩
     by_cases e : i = j
     ·subst e; rw [hm] at hm'; cases hm'
      exact Classical.byContradiction fun q => c2 (mgetU.2 q)
     ·exact p4 i m' (by omega) hm' hc'
   ·rw [if_neg c1]
    refine ⟨_, rfl, p1, p2, by simp only; omega, fun i m' hi hm' hc' => ?_⟩
    by_cases e : i = j
    ·subst e; rw [hm] at hm'; cases hm'; exact absurd hc' c1
    ·exact p4 i m' (by omega) hm' hc')
 refine ⟨r.1, r.2, by rw [h1]; rfl, h2, h3, fun m hm hcan => ?_⟩
 obtain ⟨i, i0, i1, hi⟩ := A9 hm
 exact h5 i m i1 hi hcan
theorem all_spec {t : d7} (ht : i5 t) (goal : Int) : ∃ l b, B7 (wd t.init) goal (mks t) = some (l, b) ∧ (b = false → Many t) ∧ (b = true → l.Nodup ∧ l.length ≤ 2000 ∧ ∀ x, x ∈ l ↔ Rwd t x) := by
 unfold B7
 simp only [t1, oB]
 have hi0 : Rwd t (wd t.init) := ⟨_, .init, rfl⟩
 obtain ⟨o, h1, h2⟩ := Q8 (body := D2 (wd t.init) goal (mks t)) (s := ([wd t.init], mset ([] : MpU) (wd t.init) (), []))
  (fun s => AlW t s.1 s.2.1 s.2.2 ∧ wd t.init ∈ s.2.1.map (·.1) ∧ s.2.1.length ≤ 2000 ∧ ∀ x ∈ s.2.2, ∀ m ∈ mks t, canW m x → tgtW m x ∈ s.2.1.map (·.1))
  (fun o => match o with | .inl l => l.Nodup ∧ l.length ≤ 2000 ∧ ∀ x, x ∈ l ↔ Rwd t x | .inr x => x = ([], false) ∧ Many t)
  (fun s => 2000 - s.2.2.length) ⟨⟨by simp [mset], by simp [mset], by simp [mset]; exact hi0⟩, by simp [mset], by simp [mset], by simp⟩ (by
   rintro ⟨q, f, a⟩ ⟨p1, p2, p3, p4⟩
   simp only at p1 p2 p3 p4
   have hlen : f.length = q.length + a.length := by have := p1.pm.length_eq; simpa using this
   unfold D2
   by_cases c : 0 < q.length
   ·simp only [show (0 : Int) < (q.length : Int) by omega, if_true]
    obtain ⟨x, hx, gx⟩ := p8 (l := q) (i := (q.length : Int) - 1) (by omega) (by omega)
    have hq : n8 q 0 ((q.length : Int) - 1) ++ [x] = q := by
     have : n8 q 0 ((q.length : Int) - 1) = q.take (q.length - 1) := by
      simp only [n8, Int.toNat_zero, List.drop_zero]
      rw [show ((q.length : Int) - 1).toNat = q.length - 1 by omega]
     rw [this]
     have e : q.take (q.length - 1 + 1) = q.take (q.length - 1) ++ [x] := by
      rw [List.take_add_one]
      rw [show ((q.length : Int) - 1).toNat = q.length - 1 by omega] at gx
      rw [gx]; rfl
     rw [← e, show q.length - 1 + 1 = q.length by omega, List.take_length]
    have hxm : x ∈ f.map (·.1) := p1.pm.mem_iff.2 (List.mem_append_left _ (y6 hx))
    have hxr := p1.rw x hxm
    have ha : app 4 a [x] = some (a ++ [x]) := by unfold app; rw [if_pos (by simp; omega)]
    have p1' : AlW t (n8 q 0 ((q.length : Int) - 1)) f (a ++ [x]) := ⟨p1.nd, p1.pm.trans (by
     rw (occs := .pos [1]) [← hq]
     rw [List.append_assoc]
     exact List.Perm.append_left _ List.perm_append_comm), p1.rw⟩
    obtain ⟨f', q', k1, k2, k3, k4⟩ := all_in ht hxr p1' p3 () rfl
    simp only [hx, ha, cutV, oB, x7]
    rw [if_pos (by omega)]
    simp only [oB, k1]
    by_cases big : 2000 < f'.length
    ·rw [if_pos (by omega)]
     exact .inr ⟨_, rfl, rfl, many_of k2.nd (by simpa using big) k2.rw⟩
    ·rw [if_neg (by omega)]
     have hlen' : f'.length = q'.length + (a ++ [x]).length := by have := k2.pm.length_eq; simpa using this
     refine .inl ⟨_, rfl, ⟨k2, k3 _ p2, by simp only; omega, fun y hy m hm hc => ?_⟩, by simp only [List.length_append, List.length_singleton] at hlen' ⊢; omega⟩
     simp only [List.mem_append, List.mem_singleton] at hy
     rcases hy with hy | rfl
     ·exact k3 _ (p4 y hy m hm hc)
     ·exact k4 m hm hc
   ·have : q = [] := List.eq_nil_of_length_eq_zero (by omega)
    subst this
    refine .inr ⟨.inl a, by simp, ?_⟩
    have hp : (f.map (·.1)).Perm a := by simpa using p1.pm
    refine ⟨hp.nodup_iff.1 p1.nd, by simp at hlen; omega, fun x => ⟨fun hx => p1.rw x (hp.mem_iff.2 hx), fun hx => ?_⟩⟩
    exact Rwd.all ht (hp.mem_iff.1 p2) (fun y hy m hm hc => hp.mem_iff.1 (p4 y hy m hm hc)) hx)
 rw [h1]
 rcases o with l | o
 ·exact ⟨l, true, rfl, by simp, fun _ => h2⟩
 ·obtain ⟨rfl, h3⟩ := h2
  exact ⟨[], false, rfl, fun _ => h3, by simp⟩
end Ab
end
