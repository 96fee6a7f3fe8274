/-
  Texts that the proof stands on.
-/
import Derived.Test.YtpccoiobnjnciaaKRwConNec4
set_option linter.all false
section
namespace Ab
open Go Go.Proofs
open Try
set_option maxHeartbeats 4000000
set_option linter.all false
attribute [local irreducible] AWP AOps thn inB Done e8 n5 Sub
theorem G8 {iv : Int} {kv : Int} {l : List Int} {l4 : List d4} {r : (List Int) × (List d4)} (h : r9 iv kv l l4 = some r) : FnOk prog 141 [.c (.own 0 0 l.length), .c (int iv), .c (int kv)] (U1 iv kv l l4) (fun tt ss => tt = .tup [] ∧ ss = [.one (prow 1 r.1), pool 4 b9 r.2]) := by
 refine FnOk.enter (rs := []) func141 Z ntmps141 results141 Z trivial (by kernel_rfl) Z ?_
 refine AWP.weak ?_
 unfold r9 at h
 refine AWP.q ?_
 obtain ⟨a12, ha12, a16, ha16, h⟩ := b2 h
 refine AWP.drawEI [13, 15] mixed Z Z Z ?_
 refine d6.consN Z Z (fun E => AOps.j Z Z .N) Z (.consN Z Z (fun E => AOps.j Z Z .N) Z (.consN Z Z (fun E => AOps.j Z Z .N) Z (.consN Z Z (fun E => AOps.j Z Z .N) Z (.consN Z Z (fun E => AOps.j Z Z .N) Z (.consN Z Z (fun E => AOps.j Z Z .N) Z (.consN Z Z (fun E => S.idxPb Z Z Z (by simpa only [List.length_set] using m4 ha12) Z Z .N) Z (.consN Z Z (fun E => S.loadP ha12 Z Z Z Z .N) Z (.consN Z Z (fun E => AOps.j Z Z .N) Z (.consN Z Z (fun E => AOps.j Z Z .N) Z (.consN Z Z (fun E => S.idxPb Z Z Z (by simpa only [List.length_set] using m4 ha16) Z Z .N) Z (.consN Z Z (fun E => S.loadP ha16 Z Z Z Z .N) Z (.consN Z Z (fun E => S.idxPb Z Z Z (by simpa only [List.length_set] using m4 ha16) Z Z .N) Z ?_))))))))))))
 apply d6.consE (v := .undef); exact Z; exact Z; intro E
 refine S.storeP (a := a12) (by simpa only [List.length_set] using f8 ha16) Z Z Z Z .N
 exact Z
 exact Z
 refine d6.consN Z Z (fun E => S.idxPb Z Z (by simp only [List.length_set]) (by simpa only [List.length_set] using m4 ha12) Z Z .N) Z ?_
 apply d6.consE (v := .undef); exact Z; exact Z; intro E
 refine S.storeP (a := a16) (by simpa only [List.length_set] using f8 ha12) Z Z Z Z .N
 exact Z
 exact Z
 refine d6.done Z ?_ ?_
 ·refine d5.cons Z Z ?_ ?_
  refine b7.go Z Z (fun E => AOps.j Z Z .N) ?_
  refine b7.skip Z (b7.skip Z (b7.nil))
  refine d5.cons Z Z ?_ ?_
  refine b7.go Z Z (fun E => AOps.j Z Z .N) ?_
  refine b7.skip Z (b7.skip Z (b7.nil))
  refine d5.cons Z Z ?_ ?_
  refine b7.go Z Z (fun E => AOps.j Z Z .N) ?_
  refine b7.go Z Z (fun E => AOps.j Z Z .N) ?_
  refine b7.skip Z (b7.nil)
  refine d5.cons Z Z ?_ ?_
  refine b7.go Z Z (fun E => AOps.j Z Z .N) ?_
  refine b7.go Z Z (fun E => AOps.j Z Z .N) ?_
  refine b7.skip Z (b7.nil)
  refine d5.cons Z Z ?_ ?_
  refine b7.go Z Z (fun E => AOps.j Z Z .N) ?_
  refine b7.skip Z (b7.skip Z (b7.nil))
  refine d5.cons Z Z ?_ ?_
  refine b7.go Z Z (fun E => AOps.j Z Z .N) ?_
  refine b7.skip Z (b7.skip Z (b7.nil))
  refine d5.cons Z Z ?_ ?_
  refine b7.go Z Z (fun E => S.idxPb Z Z Z (by simpa only [List.length_set] using m4 ha12) Z Z .N) ?_
  refine b7.skip Z (b7.skip Z (b7.nil))
  refine d5.cons Z Z ?_ ?_
  refine b7.go Z Z (fun E => S.loadP ha12 Z Z Z Z .N) ?_
  refine b7.skip Z (b7.skip Z (b7.nil))
  refine d5.cons Z Z ?_ ?_
  refine b7.go Z Z (fun E => AOps.j Z Z .N) ?_
  refine b7.skip Z (b7.skip Z (b7.nil))
  refine d5.cons Z Z ?_ ?_
  refine b7.go Z Z (fun E => AOps.j Z Z .N) ?_
  refine b7.skip Z (b7.skip Z (b7.nil))
  refine d5.cons Z Z ?_ ?_
  refine b7.go Z Z (fun E => S.idxPb Z Z Z (by simpa only [List.length_set] using m4 ha16) Z Z .N) ?_
  refine b7.skip Z (b7.skip Z (b7.nil))
  refine d5.cons Z Z ?_ ?_
  refine b7.go Z Z (fun E => S.loadP ha16 Z Z Z Z .N) ?_
  refine b7.skip Z (b7.skip Z (b7.nil))
  refine d5.cons Z Z ?_ ?_
  refine b7.go Z Z (fun E => S.idxPb Z Z Z (by simpa only [List.length_set] using m4 ha16) Z Z .N) ?_
  refine b7.skip Z (b7.skip Z (b7.nil))
  refine d5.skip Z ?_
  refine d5.cons Z Z ?_ ?_
  refine b7.skip Z ?_
  refine b7.go Z Z (fun E => S.idxPb Z Z (by simp only [List.length_set]) (by simpa only [List.length_set] using m4 ha12) Z Z .N) ?_
  refine b7.skip Z (b7.nil)
  refine d5.skip Z (d5.nil)
 dsimp only [i5]
 refine b6 ?_
 obtain ⟨ha57, hha57, ha58, hha58, en59, hen59, h⟩ := b3 h
 obtain ⟨en60, hen60, h⟩ := bind_some h
 refine AWP.drawEI [12, 15] mixed Z Z Z ?_
 refine d6.consN Z Z (fun E => AOps.j Z Z .N) Z (.consN Z Z (fun E => AOps.j Z Z .N) Z (.consN Z Z (fun E => S.idxPb Z Z (by simp only [List.length_set]) (by simpa only [List.length_set] using m4 ha16) Z Z .N) Z (.consN Z Z (fun E => S.loadP hha57 Z Z Z Z .N) Z (.consN Z Z (fun E => AOps.j Z Z .N) Z (.consN Z Z (fun E => AOps.j Z Z .N) Z (.consN Z Z (fun E => S.idxPb Z Z (by simp only [List.length_set]) (by simpa only [List.length_set] using m4 ha12) Z Z .N) Z (.consN Z Z (fun E => S.loadP hha58 Z Z Z Z .N) Z (.consN Z Z (fun E => AOps.j Z Z .N) Z (.consN Z Z (fun E => AOps.j Z Z .N) Z (.consN Z Z (fun E => S.nilCheckE Z Z (by simpa only [List.length_set] using f8 hen59) Z .N) Z (.consN Z Z (fun E => S.fieldE Z Z Z (by simpa only [List.length_set] using f8 hen59) Z .N) Z ?_)))))))))))
 apply d6.consE (v := .undef); exact Z; exact Z; intro E
 refine S.storeE (e' := (⟨en59.item, en59.key, en59.time, iv⟩ : d4)) hen59 Z Z Z Z Z Z .N
 exact Z
 exact Z
 refine d6.consN Z Z (fun E => S.nilCheckE Z Z (by simpa only [List.length_set] using f8 hen60) Z .N) Z (.consN Z Z (fun E => S.fieldE Z Z Z (by simpa only [List.length_set] using f8 hen60) Z .N) Z ?_)
 apply d6.consE (v := .undef); exact Z; exact Z; intro E
 refine S.storeE (e' := (⟨en60.item, en60.key, en60.time, kv⟩ : d4)) hen60 Z Z Z Z Z Z .N
 exact Z
 exact Z
 refine d6.done Z ?_ ?_
 ·refine d5.cons Z Z ?_ ?_
  refine b7.go Z Z (fun E => AOps.j Z Z .N) ?_
  refine b7.skip Z (b7.skip Z (b7.nil))
  refine d5.cons Z Z ?_ ?_
  refine b7.go Z Z (fun E => AOps.j Z Z .N) ?_
  refine b7.skip Z (b7.skip Z (b7.nil))
  refine d5.cons Z Z ?_ ?_
  refine b7.go Z Z (fun E => S.idxPb Z Z (by simp only [List.length_set]) (by simpa only [List.length_set] using m4 ha16) Z Z .N) ?_
  refine b7.skip Z (b7.skip Z (b7.nil))
  refine d5.cons Z Z ?_ ?_
  refine b7.go Z Z (fun E => S.loadP hha57 Z Z Z Z .N) ?_
  refine b7.skip Z (b7.skip Z (b7.nil))
  refine d5.cons Z Z ?_ ?_
  refine b7.go Z Z (fun E => AOps.j Z Z .N) ?_
  refine b7.skip Z (b7.skip Z (b7.nil))
  refine d5.cons Z Z ?_ ?_
  refine b7.go Z Z (fun E => AOps.j Z Z .N) ?_
  refine b7.skip Z (b7.skip Z (b7.nil))
  refine d5.cons Z Z ?_ ?_
  refine b7.go Z Z (fun E => S.idxPb Z Z (by simp only [List.length_set]) (by simpa only [List.length_set] using m4 ha12) Z Z .N) ?_
  refine b7.skip Z (b7.skip Z (b7.nil))
  refine d5.cons Z Z ?_ ?_
  refine b7.go Z Z (fun E => S.loadP hha58 Z Z Z Z .N) ?_
  refine b7.skip Z (b7.skip Z (b7.nil))
  refine d5.cons Z Z ?_ ?_
  refine b7.go Z Z (fun E => AOps.j Z Z .N) ?_
  refine b7.skip Z (b7.skip Z (b7.nil))
  refine d5.cons Z Z ?_ ?_
  refine b7.go Z Z (fun E => AOps.j Z Z .N) ?_
  refine b7.go Z Z (fun E => AOps.j Z Z .N) ?_
  refine b7.skip Z (b7.nil)
  refine d5.cons Z Z ?_ ?_
  refine b7.go Z Z (fun E => S.nilCheckE Z Z (by simpa only [List.length_set] using f8 hen59) Z .N) ?_
  refine b7.skip Z (b7.skip Z (b7.nil))
  refine d5.cons Z Z ?_ ?_
  refine b7.go Z Z (fun E => S.fieldE Z Z Z (by simpa only [List.length_set] using f8 hen59) Z .N) ?_
  refine b7.skip Z (b7.skip Z (b7.nil))
  refine d5.skip Z ?_
  refine d5.cons Z Z ?_ ?_
  refine b7.skip Z ?_
  refine b7.go Z Z (fun E => S.nilCheckE Z Z (by simpa only [List.length_set] using f8 hen60) Z .N) ?_
  refine b7.skip Z (b7.nil)
  refine d5.cons Z Z ?_ ?_
  refine b7.skip Z ?_
  refine b7.go Z Z (fun E => S.fieldE Z Z Z (by simpa only [List.length_set] using f8 hen60) Z .N) ?_
  refine b7.skip Z (b7.nil)
  refine d5.skip Z (d5.nil)
 dsimp only [i5]
 obtain rfl := oi h
 exact ⟨⟨[], [.one (prow 1 ((l.set iv.toNat a12).set kv.toNat a16)), pool 4 b9 ((l4.set ha57.toNat (⟨en59.item, en59.key, en59.time, iv⟩ : d4)).set ha58.toNat (⟨en60.item, en60.key, en60.time, kv⟩ : d4))]⟩, Sub.env trivial, Done.normal Z ⟨Z, Z⟩⟩
theorem T6 {iv : Int} {kv : Int} {l : List Int} {l4 : List d4} {r : Bool} (h : C0 iv kv l l4 = some r) : FnOk prog 140 [.c (.own 0 0 l.length), .c (int iv), .c (int kv)] (T5 iv kv l l4) (fun tt ss => tt = .c (bool r) ∧ ss = [.one (prow 1 l), pool 4 b9 l4]) := by
 refine FnOk.enter (rs := [.t 6]) func140 Z ntmps140 results140 Z ⟨trivial, Y⟩ (by kernel_rfl) Z ?_
 refine AWP.weak ?_
 unfold C0 at h
 refine AWP.q (.u (.v Z Z (.nil (b6 ?_))))
 obtain ⟨a9, ha9, en56, hen56, a16, ha16, h⟩ := b3 h
 obtain ⟨en57, hen57, h⟩ := bind_some h
 refine AWP.seqJ (⟨[(6, .c (bool ((decide (en56.key < en57.key)) || ((decide (en56.key = en57.key)) && (decide (en56.time < en57.time))))))], [.one (prow 1 l), pool 4 b9 l4]⟩) ?_ ?_
 ·rcases bft (decide (en56.key < en57.key)) with hb1 | hb1
  ·refine AWP.drawI mixed Z ?_
   refine i8.consF Z (fun E => AOps.j Z Z .N) Z (.consF Z (fun E => AOps.j Z Z .N) Z (.consF Z (fun E => S.idxPb Z Z Z (by simpa only [List.length_set] using m4 ha9) Z Z .N) Z (.consF Z (fun E => S.loadP ha9 Z Z Z Z .N) Z (.consF Z (fun E => S.nilCheckE Z Z (by simpa only [List.length_set] using f8 hen56) Z .N) Z (.consF Z (fun E => S.fieldE Z Z Z (by simpa only [List.length_set] using f8 hen56) Z .N) Z (.consF Z (fun E => AOps.E Z Z (m5 Z hen56) Z Z Z .N) Z (.consF Z (fun E => AOps.j Z Z .N) Z (.consF Z (fun E => AOps.j Z Z .N) Z (.consF Z (fun E => S.idxPb Z Z Z (by simpa only [List.length_set] using m4 ha16) Z Z .N) Z (.consF Z (fun E => S.loadP ha16 Z Z Z Z .N) Z (.consF Z (fun E => S.nilCheckE Z Z (by simpa only [List.length_set] using f8 hen57) Z .N) Z (.consF Z (fun E => S.fieldE Z Z Z (by simpa only [List.length_set] using f8 hen57) Z .N) Z (.consF Z (fun E => AOps.E Z Z (m5 Z hen57) Z Z Z .N) Z (.consF Z (fun E => AOps.J Z Z Z .N) Z (.consF Z (fun E => AOps.j Z Z .N) Z (.consF Z (fun E => AOps.B Z Z Z hb1 .N) Z (.consF Z (fun E => AOps.B Z Z Z hb1 .N) Z (.consF Z (fun E => AOps.B Z Z Z hb1 .N) Z (.consF Z (fun E => AOps.B Z Z Z hb1 .N) Z (.consF Z (fun E => AOps.B Z Z Z hb1 .N) Z (.consF Z (fun E => AOps.B Z Z Z hb1 .N) Z (.consF Z (fun E => AOps.B Z Z Z hb1 .N) Z (.consF Z (fun E => AOps.B Z Z Z hb1 .N) Z (.consF Z (fun E => AOps.B Z Z Z hb1 .N) Z (.consF Z (fun E => AOps.B Z Z Z hb1 .N) Z (.consF Z (fun E => AOps.B Z Z Z hb1 .N) Z (.consF Z (fun E => AOps.B Z Z Z hb1 .N) Z (.consF Z (fun E => AOps.B Z Z Z hb1 .N) Z (.consF Z (fun E => AOps.B Z Z Z hb1 .N) Z (.consF Z (fun E => AOps.B Z Z Z hb1 .N) Z (.consF Z (fun E => AOps.B Z Z Z hb1 .N) Z (.consF Z (fun E => AOps.af Z Z Z .N) Z (.consF Z (fun E => AOps.af Z Z Z .N) Z (.consF Z (fun E => AOps.af Z Z Z .N) Z (.consF Z (fun E => AOps.af Z Z Z .N) Z (.consF Z (fun E => AOps.af Z Z Z .N) Z (.consF Z (fun E => AOps.af Z Z Z .N) Z (.consF Z (fun E => AOps.af Z Z Z .N) Z (.consF Z (fun E => AOps.af Z Z Z .N) Z (.consF Z (fun E => AOps.af Z Z Z .N) Z (.consF Z (fun E => AOps.af Z Z Z .N) Z (.consF Z (fun E => AOps.af Z Z Z .N) Z (.consF Z (fun E => AOps.af Z Z Z .N) Z (.consF Z (fun E => AOps.af Z Z Z .N) Z (.consF Z (fun E => AOps.af Z Z Z .N) Z (.consF Z (fun E => AOps.af Z Z Z .N) Z (.consF Z (fun E => AOps.B Z Z Z hb1 .N) Z (.consF Z (fun E => AOps.U Z hb1 Z Z .N) Z (.consF Z (fun E => AOps.v Z Z .N) Z ?_)))))))))))))))))))))))))))))))))))))))))))))))))
   refine i8.done ?_
   dsimp only [i5]
   refine b6 ?_
   simp only [s5 hb1, or_t hb1, Bool.false_or, Bool.true_or, Bool.false_and, Bool.true_and]
   exact Sub.env ⟨Z, Y⟩
  ·rcases bft (decide (en56.key = en57.key)) with hb2 | hb2
   ·refine AWP.drawI mixed Z ?_
    refine i8.consF Z (fun E => AOps.j Z Z .N) Z (.consF Z (fun E => AOps.j Z Z .N) Z (.consF Z (fun E => S.idxPb Z Z Z (by simpa only [List.length_set] using m4 ha9) Z Z .N) Z (.consF Z (fun E => S.loadP ha9 Z Z Z Z .N) Z (.consF Z (fun E => S.nilCheckE Z Z (by simpa only [List.length_set] using f8 hen56) Z .N) Z (.consF Z (fun E => S.fieldE Z Z Z (by simpa only [List.length_set] using f8 hen56) Z .N) Z (.consF Z (fun E => AOps.E Z Z (m5 Z hen56) Z Z Z .N) Z (.consF Z (fun E => AOps.j Z Z .N) Z (.consF Z (fun E => AOps.j Z Z .N) Z (.consF Z (fun E => S.idxPb Z Z Z (by simpa only [List.length_set] using m4 ha16) Z Z .N) Z (.consF Z (fun E => S.loadP ha16 Z Z Z Z .N) Z (.consF Z (fun E => S.nilCheckE Z Z (by simpa only [List.length_set] using f8 hen57) Z .N) Z (.consF Z (fun E => S.fieldE Z Z Z (by simpa only [List.length_set] using f8 hen57) Z .N) Z (.consF Z (fun E => AOps.E Z Z (m5 Z hen57) Z Z Z .N) Z (.consF Z (fun E => AOps.J Z Z Z .N) Z (.consF Z (fun E => AOps.j Z Z .N) Z (.consF Z (fun E => AOps.z Z Z Z hb1 (.j Z Z .N)) Z (.consF Z (fun E => AOps.z Z Z Z hb1 (.j Z Z .N)) Z (.consF Z (fun E => AOps.z Z Z Z hb1 (S.idxPb Z Z Z (by simpa only [List.length_set] using m4 ha9) Z Z .N)) Z (.consF Z (fun E => AOps.z Z Z Z hb1 (S.loadP ha9 Z Z Z Z .N)) Z (.consF Z (fun E => AOps.z Z Z Z hb1 (S.nilCheckE Z Z (by simpa only [List.length_set] using f8 hen56) Z .N)) Z (.consF Z (fun E => AOps.z Z Z Z hb1 (S.fieldE Z Z Z (by simpa only [List.length_set] using f8 hen56) Z .N)) Z (.consF Z (fun E => AOps.z Z Z Z hb1 (.E Z Z (m5 Z hen56) Z Z Z .N)) Z (.consF Z (fun E => AOps.z Z Z Z hb1 (.j Z Z .N)) Z (.consF Z (fun E => AOps.z Z Z Z hb1 (.j Z Z .N)) Z (.consF Z (fun E => AOps.z Z Z Z hb1 (S.idxPb Z Z Z (by simpa only [List.length_set] using m4 ha16) Z Z .N)) Z (.consF Z (fun E => AOps.z Z Z Z hb1 (S.loadP ha16 Z Z Z Z .N)) Z (.consF Z (fun E => AOps.z Z Z Z hb1 (S.nilCheckE Z Z (by simpa only [List.length_set] using f8 hen57) Z .N)) Z (.consF Z (fun E => AOps.z Z Z Z hb1 (S.fieldE Z Z Z (by simpa only [List.length_set] using f8 hen57) Z .N)) Z (.consF Z (fun E => AOps.z Z Z Z hb1 (.E Z Z (m5 Z hen57) Z Z Z .N)) Z (.consF Z (fun E => AOps.z Z Z Z hb1 (.ab Z Z Z .N)) Z (.consF Z (fun E => AOps.z Z Z Z hb1 (.j Z Z .N)) Z (.consF Z (fun E => AOps.z Z Z Z hb2 (.j Z Z .N)) Z (.consF Z (fun E => AOps.z Z Z Z hb2 (.j Z Z .N)) Z (.consF Z (fun E => AOps.z Z Z Z hb2 (S.idxPb Z Z Z (by simpa only [List.length_set] using m4 ha9) Z Z .N)) Z (.consF Z (fun E => AOps.z Z Z Z hb2 (S.loadP ha9 Z Z Z Z .N)) Z (.consF Z (fun E => AOps.z Z Z Z hb2 (S.nilCheckE Z Z (by simpa only [List.length_set] using f8 hen56) Z .N)) Z (.consF Z (fun E => AOps.z Z Z Z hb2 (S.fieldE Z Z Z (by simpa only [List.length_set] using f8 hen56) Z .N)) Z (.consF Z (fun E => AOps.z Z Z Z hb2 (.E Z Z (m5 Z hen56) Z Z Z .N)) Z (.consF Z (fun E => AOps.z Z Z Z hb2 (.j Z Z .N)) Z (.consF Z (fun E => AOps.z Z Z Z hb2 (.j Z Z .N)) Z (.consF Z (fun E => AOps.z Z Z Z hb2 (S.idxPb Z Z Z (by simpa only [List.length_set] using m4 ha16) Z Z .N)) Z (.consF Z (fun E => AOps.z Z Z Z hb2 (S.loadP ha16 Z Z Z Z .N)) Z (.consF Z (fun E => AOps.z Z Z Z hb2 (S.nilCheckE Z Z (by simpa only [List.length_set] using f8 hen57) Z .N)) Z (.consF Z (fun E => AOps.z Z Z Z hb2 (S.fieldE Z Z Z (by simpa only [List.length_set] using f8 hen57) Z .N)) Z (.consF Z (fun E => AOps.z Z Z Z hb2 (.E Z Z (m5 Z hen57) Z Z Z .N)) Z (.consF Z (fun E => AOps.z Z Z Z hb2 (.J Z Z Z .N)) Z (.consF Z (fun E => AOps.z Z Z Z hb1 (.U Z hb2 Z Z .N)) Z (.consF Z (fun E => AOps.O Z hb1 Z Z .N) Z (.consF Z (fun E => AOps.v Z Z .N) Z ?_)))))))))))))))))))))))))))))))))))))))))))))))))
    refine i8.done ?_
    dsimp only [i5]
    refine b6 ?_
    simp only [E3 hb1, or_f hb1, s5 hb2, or_t hb2, Bool.false_or, Bool.true_or, Bool.false_and, Bool.true_and]
    exact Sub.env ⟨Z, Y⟩
   ·refine AWP.drawI mixed Z ?_
    refine i8.consF Z (fun E => AOps.j Z Z .N) Z (.consF Z (fun E => AOps.j Z Z .N) Z (.consF Z (fun E => S.idxPb Z Z Z (by simpa only [List.length_set] using m4 ha9) Z Z .N) Z (.consF Z (fun E => S.loadP ha9 Z Z Z Z .N) Z (.consF Z (fun E => S.nilCheckE Z Z (by simpa only [List.length_set] using f8 hen56) Z .N) Z (.consF Z (fun E => S.fieldE Z Z Z (by simpa only [List.length_set] using f8 hen56) Z .N) Z (.consF Z (fun E => AOps.E Z Z (m5 Z hen56) Z Z Z .N) Z (.consF Z (fun E => AOps.j Z Z .N) Z (.consF Z (fun E => AOps.j Z Z .N) Z (.consF Z (fun E => S.idxPb Z Z Z (by simpa only [List.length_set] using m4 ha16) Z Z .N) Z (.consF Z (fun E => S.loadP ha16 Z Z Z Z .N) Z (.consF Z (fun E => S.nilCheckE Z Z (by simpa only [List.length_set] using f8 hen57) Z .N) Z (.consF Z (fun E => S.fieldE Z Z Z (by simpa only [List.length_set] using f8 hen57) Z .N) Z (.consF Z (fun E => AOps.E Z Z (m5 Z hen57) Z Z Z .N) Z (.consF Z (fun E => AOps.J Z Z Z .N) Z (.consF Z (fun E => AOps.j Z Z .N) Z (.consF Z (fun E => AOps.z Z Z Z hb1 (.j Z Z .N)) Z (.consF Z (fun E => AOps.z Z Z Z hb1 (.j Z Z .N)) Z (.consF Z (fun E => AOps.z Z Z Z hb1 (S.idxPb Z Z Z (by simpa only [List.length_set] using m4 ha9) Z Z .N)) Z (.consF Z (fun E => AOps.z Z Z Z hb1 (S.loadP ha9 Z Z Z Z .N)) Z (.consF Z (fun E => AOps.z Z Z Z hb1 (S.nilCheckE Z Z (by simpa only [List.length_set] using f8 hen56) Z .N)) Z (.consF Z (fun E => AOps.z Z Z Z hb1 (S.fieldE Z Z Z (by simpa only [List.length_set] using f8 hen56) Z .N)) Z (.consF Z (fun E => AOps.z Z Z Z hb1 (.E Z Z (m5 Z hen56) Z Z Z .N)) Z (.consF Z (fun E => AOps.z Z Z Z hb1 (.j Z Z .N)) Z (.consF Z (fun E => AOps.z Z Z Z hb1 (.j Z Z .N)) Z (.consF Z (fun E => AOps.z Z Z Z hb1 (S.idxPb Z Z Z (by simpa only [List.length_set] using m4 ha16) Z Z .N)) Z (.consF Z (fun E => AOps.z Z Z Z hb1 (S.loadP ha16 Z Z Z Z .N)) Z (.consF Z (fun E => AOps.z Z Z Z hb1 (S.nilCheckE Z Z (by simpa only [List.length_set] using f8 hen57) Z .N)) Z (.consF Z (fun E => AOps.z Z Z Z hb1 (S.fieldE Z Z Z (by simpa only [List.length_set] using f8 hen57) Z .N)) Z (.consF Z (fun E => AOps.z Z Z Z hb1 (.E Z Z (m5 Z hen57) Z Z Z .N)) Z (.consF Z (fun E => AOps.z Z Z Z hb1 (.ab Z Z Z .N)) Z (.consF Z (fun E => AOps.z Z Z Z hb1 (.j Z Z .N)) Z (.consF Z (fun E => AOps.B Z Z Z hb2 .N) Z (.consF Z (fun E => AOps.B Z Z Z hb2 .N) Z (.consF Z (fun E => AOps.B Z Z Z hb2 .N) Z (.consF Z (fun E => AOps.B Z Z Z hb2 .N) Z (.consF Z (fun E => AOps.B Z Z Z hb2 .N) Z (.consF Z (fun E => AOps.B Z Z Z hb2 .N) Z (.consF Z (fun E => AOps.B Z Z Z hb2 .N) Z (.consF Z (fun E => AOps.B Z Z Z hb2 .N) Z (.consF Z (fun E => AOps.B Z Z Z hb2 .N) Z (.consF Z (fun E => AOps.B Z Z Z hb2 .N) Z (.consF Z (fun E => AOps.B Z Z Z hb2 .N) Z (.consF Z (fun E => AOps.B Z Z Z hb2 .N) Z (.consF Z (fun E => AOps.B Z Z Z hb2 .N) Z (.consF Z (fun E => AOps.B Z Z Z hb2 .N) Z (.consF Z (fun E => AOps.B Z Z Z hb2 .N) Z (.consF Z (fun E => AOps.z Z Z Z hb1 (.O Z hb2 Z Z .N)) Z (.consF Z (fun E => AOps.O Z hb1 Z Z .N) Z (.consF Z (fun E => AOps.v Z Z .N) Z ?_)))))))))))))))))))))))))))))))))))))))))))))))))
    refine i8.done ?_
    dsimp only [i5]
    refine b6 ?_
    simp only [E3 hb1, or_f hb1, E3 hb2, or_f hb2, Bool.false_or, Bool.true_or, Bool.false_and, Bool.true_and]
    exact Sub.env ⟨Z, Y⟩
 ·refine AWP.ret ?_
  obtain rfl := oi h
  exact ⟨⟨[(6, .c (bool ((decide (en56.key < en57.key)) || ((decide (en56.key = en57.key)) && (decide (en56.time < en57.time))))))], [.one (prow 1 l), pool 4 b9 l4]⟩, Sub.env ⟨Z, Y⟩, Done.ret Z ⟨Z, Z⟩⟩
theorem ab7 {i01 : Int} {nv : Int} {time : Int} {l : List Int} {l5 : List (Int × Int)} {l6 : List d4} {r : (List Int) × (List d4) × Bool} (h : C8 i01 nv time l l5 l6 = some r) : FnOk prog 93 [.c (.ifc 129 [.ptr 0 0 0] false), .c (int i01), .c (int nv)] (O2 i01 nv time l l5 l6) (fun tt ss => tt = .c (bool r.2.2) ∧ ss = [.one (.cells 3 [[.own 1 0 r.1.length, .map 2, int time]]), .one (prow 3 r.1), .one (pmap 3 vU l5), pool 4 b9 r.2.1]) := by
 refine FnOk.enter (rs := [.t 6]) func93 Z ntmps93 results93 Z ⟨trivial, Y⟩ (by kernel_rfl) Z ?_
 refine AWP.weak ?_
 unfold C8 at h
 refine AWP.q (.u (.v Z Z (.nil (b6 (.q (.u (.j Z Z (.v Z Z (.nil (b6 (.q (.aa ?_))))))))))))
 obtain ⟨⟨c63, c64, iv65⟩, ho1, h⟩ := bind_some h
 try dsimp only at h
 refine AWP.loopS ho1 (fun (c60, c61, iv62) => ⟨[(0, .c (.ifc 129 [.ptr 0 0 0] false)), (1, .c (int i01)), (2, .c (int nv)), (7, .c (int iv62))], [.one (.cells 3 [[.own 1 0 c60.length, .map 2, int time]]), .one (prow 3 c60), .one (pmap 3 vU l5), pool 4 b9 c61]⟩) (fun (c63, c64, iv65) e st => e = .exit 0 ∧ Sub (O2 i01 nv time l l5 l6) st ⟨[(1, .c (int i01)), (7, .c (int iv65))], [.one (.cells 3 [[.own 1 0 c63.length, .map 2, int time]]), .one (prow 3 c63), .one (pmap 3 vU l5), pool 4 b9 c64]⟩) ?_ ?_ ?_
 ·try dsimp only
  exact Sub.env ⟨Z, Z, Z, Z, Y⟩
 ·intro s o h
  obtain ⟨c60, c61, iv62⟩ := s
  unfold O3 at h
  try dsimp only at h ⊢
  refine AWP.aa (.q (.u (.j Z Z (S.mul Z Z Z (S.add Z Z Z (.v Z Z (.nil (b6 (.q (.seqJ (⟨[(0, .c (.ifc 129 [.ptr 0 0 0] false)), (1, .c (int i01)), (2, .c (int nv)), (7, .c (int iv62)), (8, .c (int (w64 ((w64 (2 * iv62)) + 1)))), (21, .c (bool ((decide (nv ≤ w64 ((w64 (2 * iv62)) + 1))) || (decide (w64 ((w64 (2 * iv62)) + 1) < 0)))))], [.one (.cells 3 [[.own 1 0 c60.length, .map 2, int time]]), .one (prow 3 c60), .one (pmap 3 vU l5), pool 4 b9 c61]⟩) ?_ ?_))))))))))
  ·rcases bft (decide (nv ≤ w64 ((w64 (2 * iv62)) + 1))) with hb1 | hb1
   ·refine AWP.u (.j Z Z (.j Z Z (.geq Z Z Z (.j Z Z (.B Z Z Z hb1 (.B Z Z Z hb1 (.U Z hb1 Z Z (.nil (b6 ?_)))))))))
    simp only [s5 hb1, or_t hb1, Bool.false_or, Bool.true_or, Bool.false_and, Bool.true_and]
    exact Sub.env ⟨Z, Z, Z, Z, Z, Z, Y⟩
   ·refine AWP.u (.j Z Z (.j Z Z (.geq Z Z Z (.j Z Z (.z Z Z Z hb1 (.j Z Z (.z Z Z Z hb1 (.J Z Z Z (.O Z hb1 Z Z (.nil (b6 ?_)))))))))))
    simp only [E3 hb1, or_f hb1, Bool.false_or, Bool.true_or, Bool.false_and, Bool.true_and]
    exact Sub.env ⟨Z, Z, Z, Z, Z, Z, Y⟩
  ·refine AWP.ad Z h (fun hc66 h => ?_) (fun hc66 h => ?_)
   ·refine AWP.exit (e7 (S3 Z ?_))
    obtain rfl := oi h
    refine e7 ⟨_, Z, Z, ?_⟩
    exact Sub.env ⟨Z, Z, Y⟩
   ·refine AWP.skip (b6 (.q (.u (.j Z Z (.v Z Z (.nil (b6 ?_)))))))
    obtain ⟨j67, hx68, h⟩ := bind_some h
    refine AWP.seqJ (⟨[(0, .c (.ifc 129 [.ptr 0 0 0] false)), (1, .c (int i01)), (2, .c (int nv)), (7, .c (int iv62)), (9, .c (int j67))], [.one (.cells 3 [[.own 1 0 c60.length, .map 2, int time]]), .one (prow 3 c60), .one (pmap 3 vU l5), pool 4 b9 c61]⟩) ?_ ?_
    ·refine AWP.q (.u (.j Z Z (S.add Z Z Z (.v Z Z (.nil (b6 ?_))))))
     obtain ⟨t69, hx70, hx68⟩ := bind_some hx68
     refine AWP.seqJ (⟨[(0, .c (.ifc 129 [.ptr 0 0 0] false)), (1, .c (int i01)), (2, .c (int nv)), (7, .c (int iv62)), (9, .c (int (w64 ((w64 (2 * iv62)) + 1)))), (10, .c (int (w64 ((w64 ((w64 (2 * iv62)) + 1)) + 1)))), (33, .c (bool t69))], [.one (.cells 3 [[.own 1 0 c60.length, .map 2, int time]]), .one (prow 3 c60), .one (pmap 3 vU l5), pool 4 b9 c61]⟩) ?_ ?_
     ·rcases bft (decide (w64 ((w64 ((w64 (2 * iv62)) + 1)) + 1) < nv)) with hb71 | hb71
      ·replace hx70 := L8 hb71 hx70
       obtain ⟨a32, ha32, hx70⟩ := bind_some hx70
       refine AWP.u (.j Z Z (.j Z Z (.J Z Z Z (.j Z Z (.z Z Z Z hb71 (.j Z Z (.z Z Z Z hb71 (.j Z Z (.z Z Z Z hb71 (.j Z Z (.z Z Z Z hb71 (S.invokeV (r2 := .c (bool a32)) (σ'' := [.one (.cells 3 [[.own 1 0 c60.length, .map 2, int time]]), .one (prow 3 c60), .one (pmap 3 vU l5), pool 4 b9 c61]) Z Z Z Z Z Z Z (FnOk.lend [1, 3] (u5 ha32) Z Z Z Z Z Z (by exact ⟨(.one (g9 Z)), (.any k7), Y⟩) Z (by exact ⟨(.live Z (.one (f9 fun _ => Z))), (.live Z RenE.pool), Y⟩) Z Z (by exact ⟨(.old Z Z Z), (.new 0 Z Z (.one (f9 fun _ => Z))), (.old Z Z Z), (.new 1 Z Z RenE.pool), Y⟩)) (.U Z hb71 Z Z (.nil ?_))))))))))))))
       obtain rfl := oi hx70
       refine b6 (Sub.env ⟨Z, Z, Z, Z, Z, Z, Z, Y⟩)
      ·replace hx70 := L5 hb71 hx70
       refine AWP.u (.j Z Z (.j Z Z (.J Z Z Z (.j Z Z (.B Z Z Z hb71 (.B Z Z Z hb71 (.B Z Z Z hb71 (.B Z Z Z hb71 (.O Z hb71 Z Z (.nil ?_))))))))))
       obtain rfl := oi hx70
       refine b6 (Sub.env ⟨Z, Z, Z, Z, Z, Z, Z, Y⟩)
     ·refine AWP.ad Z hx68 (fun hc72 hx68 => ?_) (fun hc72 hx68 => ?_)
      ·refine AWP.u (.j Z Z (.v Z Z (.nil ?_)))
       obtain rfl := oi hx68
       refine b6 (Sub.env ⟨Z, Z, Z, Z, Z, Y⟩)
      ·refine AWP.skip ?_
       obtain rfl := oi hx68
       refine b6 (Sub.env ⟨Z, Z, Z, Z, Z, Y⟩)
    ·refine AWP.q (.q ?_)
     obtain ⟨a38, ha38, h⟩ := bind_some h
     refine AWP.u (.j Z Z (.j Z Z (.j Z Z (S.invokeV (r2 := .c (bool a38)) (σ'' := [.one (.cells 3 [[.own 1 0 c60.length, .map 2, int time]]), .one (prow 3 c60), .one (pmap 3 vU l5), pool 4 b9 c61]) Z Z Z Z Z Z Z (FnOk.lend [1, 3] (T6 ha38) Z Z Z Z Z Z (by exact ⟨(.one (g9 Z)), (.any k7), Y⟩) Z (by exact ⟨(.live Z (.one (f9 fun _ => Z))), (.live Z RenE.pool), Y⟩) Z Z (by exact ⟨(.old Z Z Z), (.new 0 Z Z (.one (f9 fun _ => Z))), (.old Z Z Z), (.new 1 Z Z RenE.pool), Y⟩)) (.ae Z Z (.nil (b6 (.ad Z h (fun hc73 h => ?_) (fun hc73 h => ?_)))))))))
     ·refine AWP.exit (e7 (S3 Z ?_))
      obtain rfl := oi h
      refine e7 ⟨_, Z, Z, ?_⟩
      exact Sub.env ⟨Z, Z, Y⟩
     ·refine AWP.skip (b6 (.q ?_))
      obtain ⟨a43, ha43, u74, hu74, h⟩ := b2 h
      refine AWP.u (.j Z Z (.j Z Z (.j Z Z (S.invokeV (r2 := .tup []) (σ'' := [.one (.cells 3 [[.own 1 0 c60.length, .map 2, int time]]), .one (prow 3 a43.1), .one (pmap 3 vU l5), pool 4 b9 a43.2]) Z Z Z Z Z Z Z (FnOk.lend [1, 3] (G8 ha43) Z Z Z Z Z Z (by exact ⟨(.one (g9 Z)), (.any k7), Y⟩) Z (by exact ⟨(.live Z (.one (f9 fun _ => Z))), (.live Z RenE.pool), Y⟩) Z Z (by exact ⟨(.old Z Z Z), (.new 0 Z Z (.one (f9 fun _ => Z))), (.old Z Z Z), (.new 1 Z Z RenE.pool), Y⟩)) (.nil (b6 (.u (.j Z Z (.v Z Z (.nil (e9 ?_)))))))))))
      obtain rfl := oi h
      refine b6 ⟨_, Z, ?_⟩
      exact Sub.cut ⟨Z, Z, Z, Z, Y⟩ Z ⟨(.eq Z (by first | rfl | rw [(ab9 hu74)] | (simp only [List.length_set]; done))), (.one (g9 Z)), (.one (j5 Z)), (.any k7), Y⟩ Z
 ·intro e s hq
  obtain ⟨rfl, hs⟩ := hq
  refine ⟨_, hs, ?_⟩
  refine j7 (b6 (.q (.u (.j Z Z (.j Z Z (.gtr Z Z Z (.v Z Z (.nil (b6 (.ret ?_))))))))))
  obtain rfl := oi h
  exact ⟨⟨[(6, .c (bool (decide (i01 < iv65))))], [.one (.cells 3 [[.own 1 0 c63.length, .map 2, int time]]), .one (prow 3 c63), .one (pmap 3 vU l5), pool 4 b9 c64]⟩, Sub.env ⟨Z, Y⟩, Done.ret Z ⟨Z, Z⟩⟩
theorem V8 {time : Int} {l : List Int} {l3 : List (Int × Int)} {l4 : List d4} {r : (List Int) × Int} (h : x8 time l l3 l4 = some r) : FnOk prog 142 [.c (.ptr 0 0 0)] (V6 time l l3 l4) (fun tt ss => tt = .c (.ifc 124 [.ptr (3, [r.2.toNat]) 0 0] false) ∧ ss = [.one (.cells 3 [[.own 5 0 r.1.length, .map 2, int time]]), .dead, .one (pmap 3 vU l3), pool 4 b9 l4, .dead, .one (prow 3 r.1)]) := by
 refine FnOk.enter (rs := [.t 2]) func142 Z ntmps142 results142 Z ⟨trivial, Y⟩ (by kernel_rfl) Z ?_
 refine AWP.weak ?_
 unfold x8 at h
 refine AWP.j (env' := [(0, .c (.ptr 0 0 0))]) (σ' := [.one (.cells 3 [[.own 4 0 l.length, .map 2, int time]]), .dead, .one (pmap 3 vU l3), pool 4 b9 l4, .one (prow 3 l)]) 4 1 Z Z Z ⟨Z, Y⟩ Z ⟨⟨Z, Z⟩, trivial, ⟨j5 Z, t1 Z G4⟩, (n9.pool Z), ⟨g9 Z, t1 Z G5⟩, Y⟩ (.q (.u (.v Z Z (.nil (b6 (.q (.u (.j Z Z (.aj Z Z Z (.E Z Z Z Z Z Z (.v Z Z (.nil (b6 (.q ?_))))))))))))))
 obtain ⟨a12, ha12, h⟩ := bind_some h
 refine AWP.u (.j Z Z (.j Z Z (.lenOwnB Z Z Z (fun hl10 => .sub' Z Z Z (by omega) (S.idxPb Z Z Z (by simpa only [List.length_set] using m4 ha12) Z Z (S.loadP ha12 Z Z Z Z (.v Z Z (.nil (b6 (.q ?_))))))))))
 obtain ⟨a19, ha19, h⟩ := bind_some h
 refine AWP.u (.j Z Z (.j Z Z (.j Z Z (.lenOwnB Z Z Z (fun hl17 => .sub' Z Z Z (by omega) (S.shrinkP ha19 Z Z Z Z Z (.sub (Sub.reownP (env' := [(0, .c (.ptr 0 0 0)), (2, .c (.imm (.val .nilIface))), (4, .c (.ptr (3, [a12.toNat]) 0 0)), (5, .c (.ptr 0 0 0)), (6, .c (.ptr 0 0 0)), (10, .c (int (l.length : Int))), (11, .c (int ((l.length : Int) - 1))), (13, .c (.ptr (3, [a12.toNat]) 0 0)), (14, .c (.ptr 0 0 0)), (17, .c (int (l.length : Int))), (18, .c (int ((l.length : Int) - 1))), (19, .c (.own 5 0 a19.length))]) 19 ha19 Z Z Z Z Z Z Z (by exact ⟨.inr Z, .inr Z, .inr Z, .inr Z, .inr Z, .inr Z, .inr Z, .inr Z, .inr Z, .inr Z, .inr Z, .inl ⟨Z, Z⟩, Y⟩)) (.aj Z Z Z (W.store Z Z Z Z Z (.nil (b6 (.q (.u (.j Z Z (S.mkIfc Z Z Z (.v Z Z (.nil (b6 (.ret ?_)))))))))))))))))))
 obtain rfl := oi h
 exact ⟨⟨[(2, .c (.ifc 124 [.ptr (3, [a12.toNat]) 0 0] false))], [.one (.cells 3 [[.own 5 0 a19.length, .map 2, int time]]), .dead, .one (pmap 3 vU l3), pool 4 b9 l4, .dead, .one (prow 3 a19)]⟩, Sub.env ⟨Z, Y⟩, Done.ret Z ⟨Z, Z⟩⟩
theorem ae3 {time : Int} {l : List Int} {l3 : List (Int × Int)} {l4 : List d4} {r : (List d4) × (List Int) × Int} (h : B3 time l l3 l4 = some r) : FnOk prog 78 [.c (.ifc 129 [.ptr 0 0 0] false)] (ae1 time l l3 l4) (fun tt ss => tt = .c (.ifc 124 [.ptr (3, [r.2.2.toNat]) 0 0] false) ∧ ss = [.one (.cells 3 [[.own 5 0 r.2.1.length, .map 2, int time]]), .dead, .one (pmap 3 vU l3), pool 4 b9 r.1, .dead, .one (prow 3 r.2.1)]) := by
 refine FnOk.enter (rs := [.t 2]) func78 Z ntmps78 results78 Z ⟨trivial, Y⟩ (by kernel_rfl) Z ?_
 refine AWP.weak ?_
 unfold B3 at h
 refine AWP.q (.u (.v Z Z (.nil (b6 (.q ?_)))))
 obtain ⟨a5, ha5, h⟩ := bind_some h
 refine AWP.u (.j Z Z (S.invokeV (r2 := .c (int (l.length : Int))) (σ'' := [.one (.cells 3 [[.own 1 0 l.length, .map 2, int time]]), .one (prow 3 l), .one (pmap 3 vU l3), pool 4 b9 l4]) Z Z Z Z Z Z Z (FnOk.lend [1, 3] (B2 ha5) Z Z Z Z Z Z (by exact ⟨(.one (g9 Z)), (.any k7), Y⟩) Z (by exact ⟨(.live Z (.one (f9 fun _ => Z))), (.live Z RenE.pool), Y⟩) Z Z (by exact ⟨(.old Z Z Z), (.new 0 Z Z (.one (f9 fun _ => Z))), (.old Z Z Z), (.new 1 Z Z RenE.pool), Y⟩)) (S.sub Z Z Z (.v Z Z (.nil (b6 (.q ?_)))))))
 obtain ⟨a9, ha9, u58, hu58, h⟩ := b2 h
 refine AWP.u (.j Z Z (.j Z Z (S.invokeV (r2 := .tup []) (σ'' := [.one (.cells 3 [[.own 1 0 l.length, .map 2, int time]]), .one (prow 3 a9.1), .one (pmap 3 vU l3), pool 4 b9 a9.2]) Z Z Z Z Z Z Z (FnOk.lend [1, 3] (G8 ha9) Z Z Z Z Z Z (by exact ⟨(.one (g9 Z)), (.any k7), Y⟩) Z (by exact ⟨(.live Z (.one (f9 fun _ => Z))), (.live Z RenE.pool), Y⟩) Z Z (by exact ⟨(.old Z Z Z), (.new 0 Z Z (.one (f9 fun _ => Z))), (.old Z Z Z), (.new 1 Z Z RenE.pool), Y⟩)) (.nil (b6 (.q ?_))))))
 obtain ⟨a12, ha12, h⟩ := bind_some h
 refine AWP.u (.j Z Z (.j Z Z (.sub (s' := ⟨[(0, .c (.ifc 129 [.ptr 0 0 0] false)), (2, .c (.imm (.val .nilIface))), (3, .c (int (w64 ((l.length : Int) - 1)))), (4, .c (.ifc 129 [.ptr 0 0 0] false)), (5, .c (int (l.length : Int))), (6, .c (int (w64 ((l.length : Int) - 1)))), (7, .c (.ifc 129 [.ptr 0 0 0] false)), (8, .c (int (w64 ((l.length : Int) - 1)))), (9, .tup []), (10, .c (.ifc 129 [.ptr 0 0 0] false)), (11, .c (int (w64 ((l.length : Int) - 1))))], [.one (.cells 3 [[.own 1 0 a9.1.length, .map 2, int time]]), .one (prow 3 a9.1), .one (pmap 3 vU l3), pool 4 b9 a9.2]⟩) (Sub.cut ⟨Z, Z, Z, Z, Z, Z, Z, Z, Z, Z, Z, Y⟩ Z ⟨(.eq Z (by rw [(ab9 hu58)])), (.one (g9 Z)), (.one (j5 Z)), (.any k7), Y⟩ Z) (.callF (r2 := .c (bool a12.2.2)) (σ'' := [.one (.cells 3 [[.own 1 0 a12.1.length, .map 2, int time]]), .one (prow 3 a12.1), .one (pmap 3 vU l3), pool 4 b9 a12.2.1]) Z Z Z (FnOk.lend [0, 1, 2, 3] (ab7 ha12) Z Z Z Z Z Z (by exact ⟨(.one Z), (.one (g9 Z)), (.one (j5 Z)), (.any k7), Y⟩) Z (by exact ⟨(.live Z (.one Z)), (.live Z (.one (f9 fun _ => Z))), (.live Z (.one (j8 fun _ => Z))), (.live Z RenE.pool), Y⟩) Z Z (by exact ⟨(.new 0 Z Z (.one Z)), (.new 1 Z Z (.one (f9 fun _ => Z))), (.new 2 Z Z (.one (j8 fun _ => Z))), (.new 3 Z Z RenE.pool), Y⟩)) (.nil (b6 (.q ?_)))))))
 obtain ⟨a14, ha14, h⟩ := bind_some h
 refine AWP.u (.j Z Z (S.invokeP (r2 := .c (.ifc 124 [.ptr (3, [a14.2.toNat]) 0 0] false)) (σ'' := [.one (.cells 3 [[.own 5 0 a14.1.length, .map 2, int time]]), .dead, .one (pmap 3 vU l3), pool 4 b9 a12.2.1, .dead, .one (prow 3 a14.1)]) Z Z Z (FnOk.lend [0, 1, 2, 3] (V8 ha14) Z Z Z Z Z Z (by exact ⟨(.one Z), (.one (g9 Z)), (.one (j5 Z)), (.any k7), Y⟩) Z (by exact ⟨(.live Z (.one Z)), (.live Z (.one (f9 fun _ => Z))), (.live Z (.one (j8 fun _ => Z))), (.live Z RenE.pool), Y⟩) Z Z (by exact ⟨(.new 0 Z Z (.one Z)), .dead, (.new 2 Z Z (.one (j8 fun _ => Z))), (.new 3 Z Z RenE.pool), .dead, (.new 5 Z Z (.one (f9 fun _ => Z))), Y⟩)) (.v Z Z (.nil (b6 (.ret ?_))))))
 obtain rfl := oi h
 exact ⟨⟨[(2, .c (.ifc 124 [.ptr (3, [a14.2.toNat]) 0 0] false))], [.one (.cells 3 [[.own 5 0 a14.1.length, .map 2, int time]]), .dead, .one (pmap 3 vU l3), pool 4 b9 a12.2.1, .dead, .one (prow 3 a14.1)]⟩, Sub.env ⟨Z, Y⟩, Done.ret Z ⟨Z, Z⟩⟩
theorem U4 {time : Int} {l : List Int} {l3 : List (Int × Int)} {l4 : List d4} {r : (List (Int × Int)) × (List d4) × (List Int) × Int × Int × Bool} (h : r8 time l l3 l4 = some r) : FnOk prog 64 [.c (.ptr 0 0 0)] (T9 time l l3 l4) (fun tt ss => tt = .tup [.c (.imm (.val (.int .u32 r.2.2.2.1))), .c (int r.2.2.2.2.1), .c (bool r.2.2.2.2.2)] ∧ ss = [.one (.cells 3 [[.own 4 0 r.2.2.1.length, .map 2, int time]]), .dead, .one (pmap 3 vU r.1), pool 4 b9 r.2.1, .one (prow 3 r.2.2.1)]) := by
 refine FnOk.enter (rs := [.t 2, .t 3, .t 4]) func64 Z ntmps64 results64 Z ⟨trivial, trivial, trivial, Y⟩ (by kernel_rfl) Z ?_
 refine AWP.weak ?_
 unfold r8 at h
 refine AWP.j (env' := [(0, .c (.ptr 0 0 0))]) (σ' := [.one (.cells 3 [[.own 4 0 l.length, .map 2, int time]]), .dead, .one (pmap 3 vU l3), pool 4 b9 l4, .one (prow 3 l)]) 4 1 Z Z Z ⟨Z, Y⟩ Z ⟨⟨Z, Z⟩, trivial, ⟨j5 Z, t1 Z G4⟩, (n9.pool Z), ⟨g9 Z, t1 Z G5⟩, Y⟩ (.q (.u (.v Z Z (.v Z Z (.v Z Z (.nil (b6 (.q (.q (.u (.j Z Z (.aj Z Z Z (W.fieldAddr Z Z Z Z (.E Z Z Z Z Z Z (.lenOwnB Z Z Z (fun hl10 => .ab Z Z Z (.nil (b6 (.ite Z h (fun hc61 h => ?_) (fun hc61 h => ?_))))))))))))))))))))
 ·refine AWP.q (.u (.j Z Z (.v Z Z (.v Z Z (.v Z Z (.nil (b6 (.ret (e6 ?_)))))))))
  obtain rfl := oi h
  exact ⟨⟨[(2, .c (.imm (.val (.int .u32 0)))), (3, .c (int 0)), (4, .c (bool false))], [.one (.cells 3 [[.own 4 0 l.length, .map 2, int time]]), .dead, .one (pmap 3 vU l3), pool 4 b9 l4, .one (prow 3 l)]⟩, Sub.env ⟨Z, Z, Z, Y⟩, Done.ret Z ⟨Z, Z⟩⟩
 ·refine AWP.skip (b6 (.q ?_))
  obtain ⟨a17, ha17, h⟩ := bind_some h
  refine AWP.u (.j Z Z (.aj Z Z Z (W.fieldAddr Z Z Z Z (S.mkIfc Z Z Z (.callF (r2 := .c (.ifc 124 [.ptr (3, [a17.2.2.toNat]) 0 0] false)) (σ'' := [.one (.cells 3 [[.own 6 0 a17.2.1.length, .map 2, int time]]), .dead, .one (pmap 3 vU l3), pool 4 b9 a17.1, .dead, .dead, .one (prow 3 a17.2.1)]) Z Z Z (FnOk.lend [0, 4, 2, 3] (ae3 ha17) Z Z Z Z Z Z (by exact ⟨(.one Z), (.one (g9 Z)), (.one (j5 Z)), (.any k7), Y⟩) Z (by exact ⟨(.live Z (.one Z)), (.live Z (.one (f9 fun _ => Z))), (.live Z (.one (j8 fun _ => Z))), (.live Z RenE.pool), Y⟩) Z Z (by exact ⟨(.new 0 Z Z (.one Z)), .dead, (.new 2 Z Z (.one (j8 fun _ => Z))), (.new 3 Z Z RenE.pool), .dead, .dead, (.new 5 Z Z (.one (f9 fun _ => Z))), Y⟩)) (S.assert Z Z Z (.v Z Z (.nil (b6 (.q ?_))))))))))
  obtain ⟨en62, hen62, h⟩ := bind_some h
  refine AWP.drawEI [8] mixed Z Z Z ?_
  refine d6.consN Z Z (fun E => AOps.j Z Z .N) Z (.consN Z Z (fun E => AOps.aj Z Z Z .N) Z (.consN Z Z (fun E => W.fieldAddr Z Z Z Z .N) Z (.consN Z Z (fun E => AOps.E Z Z Z Z Z Z .N) Z (.consN Z Z (fun E => AOps.j Z Z .N) Z (.consN Z Z (fun E => S.nilCheckE Z Z (by simpa only [List.length_set] using f8 hen62) Z .N) Z (.consN Z Z (fun E => S.fieldE Z Z Z (by simpa only [List.length_set] using f8 hen62) Z .N) Z (.consN Z Z (fun E => AOps.E Z Z (m5 Z hen62) Z Z Z .N) Z ?_)))))))
  apply d6.consE (v := .undef); exact Z; exact Z; intro E
  refine S.deleteP (fk := vU) (k := en62.item) C2 Z Z Z Z Z .N
  exact Z
  exact Z
  refine d6.done Z ?_ ?_
  ·refine d5.cons Z Z ?_ ?_
   refine b7.go Z Z (fun E => AOps.j Z Z .N) ?_
   refine b7.skip Z (b7.nil)
   refine d5.cons Z Z ?_ ?_
   refine b7.go Z Z (fun E => AOps.aj Z Z Z .N) ?_
   refine b7.skip Z (b7.nil)
   refine d5.cons Z Z ?_ ?_
   refine b7.go Z Z (fun E => W.fieldAddr Z Z Z Z .N) ?_
   refine b7.skip Z (b7.nil)
   refine d5.cons Z Z ?_ ?_
   refine b7.go Z Z (fun E => AOps.E Z Z Z Z Z Z .N) ?_
   refine b7.skip Z (b7.nil)
   refine d5.cons Z Z ?_ ?_
   refine b7.go Z Z (fun E => AOps.j Z Z .N) ?_
   refine b7.skip Z (b7.nil)
   refine d5.cons Z Z ?_ ?_
   refine b7.go Z Z (fun E => S.nilCheckE Z Z (by simpa only [List.length_set] using f8 hen62) Z .N) ?_
   refine b7.skip Z (b7.nil)
   refine d5.cons Z Z ?_ ?_
   refine b7.go Z Z (fun E => S.fieldE Z Z Z (by simpa only [List.length_set] using f8 hen62) Z .N) ?_
   refine b7.skip Z (b7.nil)
   refine d5.cons Z Z ?_ ?_
   refine b7.go Z Z (fun E => AOps.E Z Z (m5 Z hen62) Z Z Z .N) ?_
   refine b7.skip Z (b7.nil)
   refine d5.skip Z (d5.nil)
  dsimp only [i5]
  refine b6 (.q (.drawI mixed Z ?_))
  refine i8.consF Z (fun E => AOps.j Z Z .N) Z (.consF Z (fun E => S.nilCheckE Z Z (by simpa only [List.length_set] using f8 hen62) Z .N) Z (.consF Z (fun E => S.fieldE Z Z Z (by simpa only [List.length_set] using f8 hen62) Z .N) Z (.consF Z (fun E => AOps.E Z Z (m5 Z hen62) Z Z Z .N) Z (.consF Z (fun E => AOps.j Z Z .N) Z (.consF Z (fun E => S.nilCheckE Z Z (by simpa only [List.length_set] using f8 hen62) Z .N) Z (.consF Z (fun E => S.fieldE Z Z Z (by simpa only [List.length_set] using f8 hen62) Z .N) Z (.consF Z (fun E => AOps.E Z Z (m5 Z hen62) Z Z Z .N) Z (.consF Z (fun E => AOps.v Z Z .N) Z (.consF Z (fun E => AOps.v Z Z .N) Z (.consF Z (fun E => AOps.v Z Z .N) Z ?_))))))))))
  refine i8.done ?_
  dsimp only [i5]
  refine b6 (.ret ?_)
  obtain rfl := oi h
  exact ⟨⟨[(2, .c (.imm (.val (.int .u32 en62.item)))), (3, .c (int en62.key)), (4, .c (bool true))], [.one (.cells 3 [[.own 4 0 a17.2.1.length, .map 2, int time]]), .dead, .one (pmap 3 vU (mdel l3 en62.item)), pool 4 b9 a17.1, .one (prow 3 a17.2.1)]⟩, (Sub.move (env' := [(2, .c (.imm (.val (.int .u32 en62.item)))), (3, .c (int en62.key)), (4, .c (bool true))]) (σ' := [.one (.cells 3 [[.own 4 0 a17.2.1.length, .map 2, int time]]), .dead, .one (pmap 3 vU (mdel l3 en62.item)), pool 4 b9 a17.1, .one (prow 3 a17.2.1), .dead]) 4 6 Z Z Z ⟨Z, Z, Z, Y⟩ Z ⟨⟨Z, Z⟩, trivial, ⟨j5 Z, t1 Z G4⟩, (n9.pool Z), ⟨g9 Z, t1 Z G5⟩, trivial, Y⟩).trans (Sub.cut ⟨Z, Z, Z, Y⟩ Z ⟨.one Z, .dead, (.one (j5 Z)), (.any k7), (.one (g9 Z)), Y⟩ Z), Done.ret Z ⟨Z, Z⟩⟩
theorem V5 {item : Int} {key : Int} {time : Int} {l : List Int} {l5 : List (Int × Int)} {l6 : List d4} {r : (List (Int × Int)) × (List Int) × (List d4)} (h : x7 item key time l l5 l6 = some r) : FnOk prog 61 [.c (.ptr 0 0 0), .c (.imm (.val (.int .u32 item))), .c (int key)] (V7 item key time l l5 l6) (fun tt ss => tt = .tup [] ∧ ss = [.one (.cells 3 [[.own 4 0 r.2.1.length, .map 2, int (w64 (time + 1))]]), .dead, .one (pmap 5 vU r.1), .dead, .one (prow 5 r.2.1), pool 4 b9 r.2.2]) := by
 refine FnOk.enter (rs := []) func61 Z ntmps61 results61 Z trivial (by kernel_rfl) Z ?_
 refine AWP.weak ?_
 unfold x7 at h
 refine AWP.j (env' := [(0, .c (.ptr 0 0 0)), (1, .c (.imm (.val (.int .u32 item)))), (2, .c (int key))]) (σ' := [.one (.cells 3 [[.own 4 0 l.length, .map 2, int time]]), .dead, .one (pmap 3 vU l5), pool 4 b9 l6, .one (prow 3 l)]) 4 1 Z Z Z ⟨Z, Z, Z, Y⟩ Z ⟨⟨Z, Z⟩, trivial, ⟨j5 Z, t1 Z G4⟩, (n9.pool Z), ⟨g9 Z, t1 Z G5⟩, Y⟩ (.moveM (env' := [(0, .c (.ptr 0 0 0)), (1, .c (.imm (.val (.int .u32 item)))), (2, .c (int key))]) (σ' := [.one (.cells 3 [[.own 4 0 l.length, .map 2, int time]]), .dead, .one (pmap 5 vU l5), .dead, .one (prow 5 l), pool 4 b9 l6]) 5 3 Z Z Z ⟨Z, Z, Z, Y⟩ Z ⟨(.one Z Z), .dead, (.one (j5 Z) (B6 Z Z (j8 fun _ => Z))), .dead, (.one (g9 Z) (B6 Z Z (f9 fun _ => Z))), (EntR.pool Z Z), Y⟩ ?_)
 refine AWP.q (.u (.j Z Z (.aj Z Z Z (W.fieldAddr Z Z Z Z (.E Z Z Z Z Z Z (S.add Z Z Z (.aj Z Z Z (W.fieldAddr Z Z Z Z (W.store Z Z Z Z Z (.nil (b6 (.q (.q (.u (.j Z Z (.aj Z Z Z (W.fieldAddr Z Z Z Z (.E Z Z Z Z Z Z (.j Z Z (S.lookupOkP (fk := vU) (k := item) C2 Z Z Z Z Z (.j Z Z (.ac Z Z Z (.ac Z Z Z (.v Z Z (.v Z Z (.nil (b6 (.q (.u (.j Z Z (.nil (b6 (.ad Z h (fun hc60 h => ?_) (fun hc60 h => ?_))))))))))))))))))))))))))))))))))
 ·obtain ⟨ap61, hap61, h⟩ := bind_some h
  refine AWP.sub (s' := ⟨[(0, .c (.ptr 0 0 0)), (1, .c (.imm (.val (.int .u32 item)))), (2, .c (int key)), (6, .c (.ptr (5, [ap61.toNat]) 0 0)), (7, .c (bool (Option.isSome (mget l5 item)))), (9, .c (.ptr 0 0 0)), (10, .c (.ptr 0 0 0)), (11, .c (.ptr 0 0 2)), (12, .c (int time)), (13, .c (int (w64 (time + 1)))), (14, .c (.ptr 0 0 0)), (15, .c (.ptr 0 0 2)), (17, .c (.ptr 0 0 0)), (18, .c (.ptr 0 0 0)), (19, .c (.ptr 0 0 1)), (20, .c (.map 2)), (21, .c (.imm (.val (.int .u32 item)))), (23, .c (.ptr (5, [ap61.toNat]) 0 0)), (24, .c (bool (Option.isSome (mget l5 item)))), (25, .c (bool (Option.isSome (mget l5 item))))], [.one (.cells 3 [[.own 4 0 l.length, .map 2, int (w64 (time + 1))]]), .dead, .one (pmap 5 vU l5), .dead, .one (prow 5 l), pool 4 b9 l6]⟩) (Sub.env ⟨Z, Z, Z, (af1 hap61), Z, Z, Z, Z, Z, Z, Z, Z, Z, Z, Z, Z, Z, (af1 hap61), Z, Z, Y⟩) (.q ?_)
  obtain ⟨en62, hen62, h⟩ := bind_some h
  refine AWP.u (.j Z Z (.j Z Z (.j Z Z (.j Z Z (.aj Z Z Z (W.fieldAddr Z Z Z Z (.E Z Z Z Z Z Z (S.nilCheckE Z Z (by simpa only [List.length_set] using f8 hen62) Z (S.fieldE Z Z Z (by simpa only [List.length_set] using f8 hen62) Z (S.storeE (e' := (⟨en62.item, key, en62.time, en62.fat⟩ : d4)) hen62 Z Z Z Z Z Z (S.nilCheckE Z Z (by simpa only [List.length_set] using f8 hen62) Z (S.fieldE Z Z Z (by simpa only [List.length_set] using f8 hen62) Z (S.storeE (e' := (⟨en62.item, key, w64 (time + 1), en62.fat⟩ : d4)) (S0 hen62) Z Z Z Z Z Z (.nil (b6 (.q ?_))))))))))))))))
  obtain ⟨a45, ha45, h⟩ := bind_some h
  refine AWP.drawEI [8] mixed Z Z Z ?_
  refine d6.consN Z Z (fun E => AOps.j Z Z .N) Z (.consN Z Z (fun E => AOps.aj Z Z Z .N) Z (.consN Z Z (fun E => W.fieldAddr Z Z Z Z .N) Z (.consN Z Z (fun E => S.mkIfc Z Z Z .N) Z (.consN Z Z (fun E => AOps.j Z Z .N) Z (.consN Z Z (fun E => S.nilCheckE Z Z (by simpa only [List.length_set] using f8 hen62) Z .N) Z (.consN Z Z (fun E => S.fieldE Z Z Z (by simpa only [List.length_set] using f8 hen62) Z .N) Z (.consN Z Z (fun E => AOps.E Z Z (m5 Z (S0 (S0 hen62))) Z Z Z .N) Z ?_)))))))
  apply d6.consE; exact Z; exact Z; intro E
  refine AOps.callF (r2 := .tup []) (σ'' := [.one (.cells 3 [[.own 4 0 a45.1.length, .map 2, int (w64 (time + 1))]]), .dead, .one (pmap 5 vU l5), .dead, .one (prow 5 a45.1), pool 4 b9 a45.2]) Z Z Z (FnOk.lend [0, 4, 2, 5] (R3 ha45) Z Z Z Z Z Z (by exact ⟨(.one Z), (.one (g9 Z)), (.one (j5 Z)), (.any k7), Y⟩) Z (by exact ⟨(.live Z (.one Z)), (.live Z (.one (f9 fun _ => Z))), (.live Z (.one (j8 fun _ => Z))), (.live Z RenE.pool), Y⟩) Z Z (by exact ⟨(.new 0 Z Z (.one Z)), .dead, (.new 2 Z Z (.one (j8 fun _ => Z))), .dead, (.new 1 Z Z (.one (f9 fun _ => Z))), (.new 3 Z Z RenE.pool), Y⟩)) .N
  exact Z
  exact Z
  refine d6.done Z ?_ ?_
  ·refine d5.cons Z Z ?_ ?_
   refine b7.go Z Z (fun E => AOps.j Z Z .N) ?_
   refine b7.skip Z (b7.nil)
   refine d5.cons Z Z ?_ ?_
   refine b7.go Z Z (fun E => AOps.aj Z Z Z .N) ?_
   refine b7.skip Z (b7.nil)
   refine d5.cons Z Z ?_ ?_
   refine b7.go Z Z (fun E => W.fieldAddr Z Z Z Z .N) ?_
   refine b7.skip Z (b7.nil)
   refine d5.cons Z Z ?_ ?_
   refine b7.go Z Z (fun E => S.mkIfc Z Z Z .N) ?_
   refine b7.skip Z (b7.nil)
   refine d5.cons Z Z ?_ ?_
   refine b7.go Z Z (fun E => AOps.j Z Z .N) ?_
   refine b7.skip Z (b7.nil)
   refine d5.cons Z Z ?_ ?_
   refine b7.go Z Z (fun E => S.nilCheckE Z Z (by simpa only [List.length_set] using f8 hen62) Z .N) ?_
   refine b7.skip Z (b7.nil)
   refine d5.cons Z Z ?_ ?_
   refine b7.go Z Z (fun E => S.fieldE Z Z Z (by simpa only [List.length_set] using f8 hen62) Z .N) ?_
   refine b7.skip Z (b7.nil)
   refine d5.cons Z Z ?_ ?_
   refine b7.go Z Z (fun E => AOps.E Z Z (m5 Z (S0 (S0 hen62))) Z Z Z .N) ?_
   refine b7.skip Z (b7.nil)
   refine d5.skip Z (d5.nil)
  dsimp only [i5]
  refine b6 (.ret (e6 ?_))
  obtain rfl := oi h
  exact ⟨⟨[], [.one (.cells 3 [[.own 4 0 a45.1.length, .map 2, int (w64 (time + 1))]]), .dead, .one (pmap 5 vU l5), .dead, .one (prow 5 a45.1), pool 4 b9 a45.2]⟩, Sub.env trivial, Done.ret Z ⟨Z, Z⟩⟩
 ·refine AWP.skip (b6 (.q ?_))
  obtain ⟨u63, hu63, u64, hu64, h⟩ := b2 h
  refine AWP.u (.j Z Z (.j Z Z (.j Z Z (.aj Z Z Z (W.fieldAddr Z Z Z Z (.E Z Z Z Z Z Z (W.build Z Z Z Z (W.box Z Z Z Z Z Z (.sub (Sub.move (env' := [(0, .c (.ptr 0 0 0)), (1, .c (.imm (.val (.int .u32 item)))), (2, .c (int key)), (7, .c (bool (Option.isSome (mget l5 item)))), (9, .c (.ptr 0 0 0)), (10, .c (.ptr 0 0 0)), (11, .c (.ptr 0 0 2)), (12, .c (int time)), (13, .c (int (w64 (time + 1)))), (14, .c (.ptr 0 0 0)), (15, .c (.ptr 0 0 2)), (17, .c (.ptr 0 0 0)), (18, .c (.ptr 0 0 0)), (19, .c (.ptr 0 0 1)), (20, .c (.map 2)), (21, .c (.imm (.val (.int .u32 item)))), (24, .c (bool (Option.isSome (mget l5 item)))), (25, .c (bool (Option.isSome (mget l5 item)))), (46, .c (.imm (.val (.int .u32 item)))), (47, .c (int key)), (48, .c (.ptr 0 0 0)), (49, .c (.ptr 0 0 0)), (50, .c (.ptr 0 0 2)), (51, .c (int (w64 (time + 1)))), (52, .agg [.imm (.val (.int .u32 item)), int key, int (w64 (time + 1)), int 0]), (53, .c (.ptr (5, [(l6.length : Int).toNat]) 0 0))]) (σ' := [.one (.cells 3 [[.own 4 0 l.length, .map 2, int (w64 (time + 1))]]), .dead, .one (pmap 5 vU l5), .dead, .one (prow 5 l), pool 4 b9 (l6 ++ [(⟨item, key, w64 (time + 1), 0⟩ : d4)])]) (5, [l6.length]) (6, []) Z Z Z ⟨Z, Z, Z, Z, Z, Z, Z, Z, Z, Z, Z, Z, Z, Z, Z, Z, Z, Z, Z, Z, Z, Z, Z, Z, Z, ptr_adopt, Y⟩ Z ⟨⟨Z, Z⟩, trivial, ⟨j5 Z, U6 Z (pmap_adopt hu63) aa0⟩, trivial, ⟨g9 Z, U6 Z (prow_adopt hu64) aa0⟩, (n9.adopt Z Z), Y⟩) (.v Z Z (.nil (b6 (.q (.u (.j Z Z (.aj Z Z Z (W.fieldAddr Z Z Z Z (.E Z Z Z Z Z Z (.j Z Z (.j Z Z (S.mapUpdateP (fk := vU) (k := item) (a := (l6.length : Int)) C2 Z Z Z Z Z (.nil (b6 ?_)))))))))))))))))))))))
  obtain ⟨a66, ha66, h⟩ := bind_some h
  refine AWP.u (.j Z Z (.aj Z Z Z (W.fieldAddr Z Z Z Z (S.mkIfc Z Z Z (.j Z Z (S.mkIfc Z Z Z (.callF (r2 := .tup []) (σ'' := [.one (.cells 3 [[.own 8 0 a66.2.length, .map 2, int (w64 (time + 1))]]), .dead, .one (pmap 5 vU (mset l5 item (l6.length : Int))), .dead, .dead, pool 4 b9 a66.1, .dead, .dead, .one (prow 5 a66.2)]) Z Z Z (FnOk.lend [0, 5, 4, 2] (P7 ha66) Z Z Z Z Z Z (by exact ⟨(.one Z), (.any k7), (.one (g9 Z)), (.one (j5 Z)), Y⟩) Z (by exact ⟨(.live Z (.one Z)), (.live Z RenE.pool), (.live Z (.one (f9 fun _ => Z))), (.live Z (.one (j8 fun _ => Z))), Y⟩) Z Z (by exact ⟨(.new 0 Z Z (.one Z)), .dead, (.new 3 Z Z (.one (j8 fun _ => Z))), .dead, .dead, (.new 1 Z Z RenE.pool), .dead, .dead, (.new 6 Z Z (.one (f9 fun _ => Z))), Y⟩)) (.nil ?_))))))))
  obtain rfl := oi h
  exact ⟨⟨[], [.one (.cells 3 [[.own 4 0 a66.2.length, .map 2, int (w64 (time + 1))]]), .dead, .one (pmap 5 vU (mset l5 item (l6.length : Int))), .dead, .one (prow 5 a66.2), pool 4 b9 a66.1]⟩, (Sub.move (env' := []) (σ' := [.one (.cells 3 [[.own 4 0 a66.2.length, .map 2, int (w64 (time + 1))]]), .dead, .one (pmap 5 vU (mset l5 item (l6.length : Int))), .dead, .one (prow 5 a66.2), pool 4 b9 a66.1, .dead, .dead]) 4 8 Z Z Z trivial Z ⟨⟨Z, Z⟩, trivial, ⟨j5 Z, t1 Z G4⟩, trivial, ⟨g9 Z, t1 Z G5⟩, (n9.pool Z), trivial, trivial, Y⟩).trans (Sub.cut trivial Z ⟨.one Z, .dead, (.one (j5 Z)), .dead, (.one (g9 Z)), (.any k7), Y⟩ Z), Done.normal Z ⟨Z, Z⟩⟩
theorem al2 {l : List Int} {start : Int} {goal : Int} {l4 : List i6} {r : (List (Int × Int))} (h : K1 l start goal l4 = some r) : FnOk prog 41 [.c (.ptr 0 0 0), .c (row 1 eU32 l)] (J6 l start goal l4) (fun tt ss => tt = .c (.map 4) ∧ ss = [.one (.cells 3 [(wW start goal 1 l4.length)]), .one (vec 4 d7 l4), .dead, .dead, .one (mapB vU vI r)]) := by
 refine FnOk.enter (rs := [.t 4]) func41 Z ntmps41 results41 Z ⟨trivial, Y⟩ (by kernel_rfl) Z ?_
 refine AWP.weak ?_
 unfold K1 at h
 refine AWP.q (.u (.v Z Z (.nil (b6 (.q (.u (W.makeMapM 2 2 vU i7 Z Z Z (W.alloc Z Z Z Z (W.store Z Z Z Z Z (.nil (b6 (.q (.u (W.makeMap vU vI Z Z Z (.v Z Z (.nil (b6 (.q ?_))))))))))))))))))
 obtain ⟨a18, ha18, h⟩ := bind_some h
 refine AWP.u (.callF (r2 := .c (.ptr 7 0 0)) (σ'' := [.one (.cells 3 [(wW start goal 1 l4.length)]), .one (vec 4 d7 l4), mmap 2 2 vU i7 ([] : List (Int × List q9)), .one (.cells 1 [[.map 2]]), .one (mapB vU vI ([] : List (Int × Int))), .one (pmap 6 vU ([] : List (Int × Int))), pool 4 b9 ([] : List d4), .one (.cells 3 [[.own 8 0 (([] : List Int).length), .map 5, int 0]]), .one (prow 6 ([] : List Int))]) Z Z Z (FnOk.lend [] (ad7 ha18) Z Z Z Z Z Z (by exact trivial) Z (by exact trivial) Z Z (by exact ⟨(.old Z Z Z), (.old Z Z Z), (.old Z Z Z), (.old Z Z Z), (.old Z Z Z), (.new 0 Z Z (.one (j8 fun _ => Z))), (.new 1 Z Z RenE.pool), (.new 2 Z Z (.one Z)), (.new 3 Z Z (.one (f9 fun _ => Z))), Y⟩)) (.v Z Z (.nil (b6 (.q (.q (.u (.j Z Z (S.len Z Z (fun hl20 => .j Z Z (.nil (b6 (.aa ?_)))))))))))))
 obtain ⟨⟨c56, c57, c58, c59, c60, c61⟩, ho1, h⟩ := bind_some h
 try dsimp only at h
 refine AWP.forS ho1 (fun t62 (c56, c57, c58, c59, c60, c61) => ⟨[(0, .c (.ptr 0 0 0)), (5, .c (.ptr 3 0 0)), (6, .c (.map 4)), (7, .c (.ptr 7 0 0)), (19, .c (row 1 eU32 l)), (20, .c (int (l.length : Int))), (21, .c (int t62))], [.one (.cells 3 [(wW start goal 1 l4.length)]), .one (vec 4 d7 l4), mmap 2 2 vU i7 c56, .one (.cells 1 [[.map 2]]), .one (mapB vU vI c57), .one (pmap 6 vU c58), pool 4 b9 c59, .one (.cells 3 [[.own 8 0 c61.length, .map 5, int c60]]), .one (prow 6 c61)]⟩) (fun (c56, c57, c58, c59, c60, c61) e st => e = .exit 0 ∧ Sub (J6 l start goal l4) st ⟨[(5, .c (.ptr 3 0 0)), (6, .c (.map 4)), (7, .c (.ptr 7 0 0))], [.one (.cells 3 [(wW start goal 1 l4.length)]), .one (vec 4 d7 l4), mmap 2 2 vU i7 c56, .one (.cells 1 [[.map 2]]), .one (mapB vU vI c57), .one (pmap 6 vU c58), pool 4 b9 c59, .one (.cells 3 [[.own 8 0 c61.length, .map 5, int c60]]), .one (prow 6 c61)]⟩) ?_ ?_ ?_ ?_
 ·try dsimp only
  exact Sub.env ⟨Z, Z, Z, Z, Z, Z, Z, Y⟩
 ·intro t62 s hlot62 hltt62 _
  obtain ⟨c56, c57, c58, c59, c60, c61⟩ := s
  try dsimp only
  refine AWP.q (.u (.J Z Z Z (.nil (b6 (.q (.ag Z hltt62 (.exit (e7 (e7 ⟨Z, ?_⟩)))))))))
  exact Sub.env ⟨Z, Z, Z, Y⟩
 ·intro t62 s o hlot62 hltt62 h
  obtain ⟨c56, c57, c58, c59, c60, c61⟩ := s
  unfold F3 at h
  try dsimp only at h ⊢
  refine AWP.q (.u (.J Z Z Z (.nil (b6 (.q (.ah Z hltt62 (.skip (b6 (.q (.aa (.q ?_)))))))))))
  obtain ⟨a23, ha23, h⟩ := bind_some h
  refine AWP.u (S.idx ha23 Z Z Z Z (.ai Z Z Z Z (W.alloc Z Z Z Z (W.store Z Z Z Z Z (.nil (b6 (.q (.u (.j Z Z (.E Z Z Z Z Z Z (W.mapUpdate (fk := vU) (fv := vI) (k := a23) (a := 1000000000) C2 Z Z Z Z Z (.nil (b6 ?_)))))))))))))
  obtain ⟨⟨c63, c64, c65, c66, c67⟩, hx68, h⟩ := bind_some h
  refine AWP.seqJ (⟨[(0, .c (.ptr 0 0 0)), (5, .c (.ptr 3 0 0)), (6, .c (.map 4)), (7, .c (.ptr 7 0 0)), (9, .c (.ptr 9 0 0)), (19, .c (row 1 eU32 l)), (20, .c (int (l.length : Int))), (21, .c (int t62))], [.one (.cells 3 [(wW start goal 1 l4.length)]), .one (vec 4 d7 l4), mmap 2 2 vU i7 c56, .one (.cells 1 [[.map 2]]), .one (mapB vU vI c63), .one (pmap 11 vU c64), .dead, .one (.cells 3 [[.own 10 0 c66.length, .map 5, int c65]]), .dead, .one (.cells 1 [[.imm (.val (.int .u32 a23))]]), .one (prow 11 c66), pool 4 b9 c67]⟩) ?_ ?_
  ·refine AWP.q ?_
   obtain ⟨a29, ha29, hx68⟩ := bind_some hx68
   refine AWP.u (.j Z Z (.E Z Z Z Z Z Z (.callF (r2 := .c (bool (decide (Go.bits .and .u32 a23 goal = goal)))) (σ'' := [.one (.cells 3 [(wW start goal 1 l4.length)]), .one (vec 4 d7 l4), mmap 2 2 vU i7 c56, .one (.cells 1 [[.map 2]]), .one (mapB vU vI (mset c57 a23 1000000000)), .one (pmap 6 vU c58), pool 4 b9 c59, .one (.cells 3 [[.own 8 0 c61.length, .map 5, int c60]]), .one (prow 6 c61), .one (.cells 1 [[.imm (.val (.int .u32 a23))]])]) Z Z Z (FnOk.lend [0, 1] (af3 ha29) Z Z Z Z Z Z (by exact ⟨(.one Z), .vec, Y⟩) Z (by exact ⟨(.live Z (.one Z)), (.live Z .vec), Y⟩) Z Z (by exact ⟨(.new 0 Z Z (.one Z)), (.new 1 Z Z .vec), (.old Z Z Z), (.old Z Z Z), (.old Z Z Z), (.old Z Z Z), (.old Z Z Z), (.old Z Z Z), (.old Z Z Z), (.old Z Z Z), Y⟩)) (.nil (b6 (.ite Z hx68 (fun hc69 hx68 => ?_) (fun hc69 hx68 => ?_)))))))
   ·refine AWP.q (.u (.j Z Z (.E Z Z Z Z Z Z (W.mapUpdate (fk := vU) (fv := vI) (k := a23) (a := 0) C2 Z Z Z Z Z (.nil (b6 ?_))))))
    obtain ⟨a34, ha34, hx68⟩ := bind_some hx68
    refine AWP.u (.j Z Z (.E Z Z Z Z Z Z (.callF (r2 := .tup []) (σ'' := [.one (.cells 3 [(wW start goal 1 l4.length)]), .one (vec 4 d7 l4), mmap 2 2 vU i7 c56, .one (.cells 1 [[.map 2]]), .one (mapB vU vI (mset (mset c57 a23 1000000000) a23 0)), .one (pmap 11 vU a34.1), .dead, .one (.cells 3 [[.own 10 0 a34.2.1.length, .map 5, int (w64 (c60 + 1))]]), .dead, .one (.cells 1 [[.imm (.val (.int .u32 a23))]]), .one (prow 11 a34.2.1), pool 4 b9 a34.2.2]) Z Z Z (FnOk.lend [7, 8, 5, 6] (V4 ha34) Z Z Z Z Z Z (by exact ⟨(.one Z), (.one (g9 Z)), (.one (j5 Z)), (.any k7), Y⟩) Z (by exact ⟨(.live Z (.one Z)), (.live Z (.one (f9 fun _ => Z))), (.live Z (.one (j8 fun _ => Z))), (.live Z RenE.pool), Y⟩) Z Z (by exact ⟨(.old Z Z Z), (.old Z Z Z), (.old Z Z Z), (.old Z Z Z), (.old Z Z Z), (.new 2 Z Z (.one (j8 fun _ => Z))), .dead, (.new 0 Z Z (.one Z)), .dead, (.old Z Z Z), (.new 4 Z Z (.one (f9 fun _ => Z))), (.new 5 Z Z RenE.pool), Y⟩)) (.nil ?_))))
    have ej := Option.some.inj hx68
    simp only [Prod.mk.injEq] at ej
    obtain ⟨ej0, ej1, ej2, ej3, ej4⟩ := ej
    subst ej0
    subst ej1
    subst ej2
    subst ej3
    subst ej4
    refine b6 (Sub.env ⟨Z, Z, Z, Z, Z, Z, Z, Z, Y⟩)
   ·refine AWP.skip ?_
    have ej := Option.some.inj hx68
    simp only [Prod.mk.injEq] at ej
    obtain ⟨ej0, ej1, ej2, ej3, ej4⟩ := ej
    subst ej0
    subst ej1
    subst ej2
    subst ej3
    subst ej4
    refine b6 ((Sub.move (env' := [(0, .c (.ptr 0 0 0)), (5, .c (.ptr 3 0 0)), (6, .c (.map 4)), (7, .c (.ptr 7 0 0)), (9, .c (.ptr 9 0 0)), (19, .c (row 1 eU32 l)), (20, .c (int (l.length : Int))), (21, .c (int t62))]) (σ' := [.one (.cells 3 [(wW start goal 1 l4.length)]), .one (vec 4 d7 l4), mmap 2 2 vU i7 c56, .one (.cells 1 [[.map 2]]), .one (mapB vU vI (mset c57 a23 1000000000)), .one (pmap 6 vU c58), pool 4 b9 c59, .one (.cells 3 [[.own 10 0 c61.length, .map 5, int c60]]), .dead, .one (.cells 1 [[.imm (.val (.int .u32 a23))]]), .one (prow 6 c61)]) 10 8 Z Z Z ⟨Z, Z, Z, Z, Z, Z, Z, Z, Y⟩ Z ⟨⟨Z, Z⟩, ⟨Blk.im_ok _ _ _, f7 Z⟩, (n9.mmap Z Z Z), ⟨Z, Z⟩, ⟨Z, Z⟩, ⟨j5 Z, t1 Z G4⟩, (n9.pool Z), ⟨Z, Z⟩, trivial, ⟨Z, Z⟩, ⟨g9 Z, t1 Z G5⟩, Y⟩).trans ((Sub.moveM (env' := [(0, .c (.ptr 0 0 0)), (5, .c (.ptr 3 0 0)), (6, .c (.map 4)), (7, .c (.ptr 7 0 0)), (9, .c (.ptr 9 0 0)), (19, .c (row 1 eU32 l)), (20, .c (int (l.length : Int))), (21, .c (int t62))]) (σ' := [.one (.cells 3 [(wW start goal 1 l4.length)]), .one (vec 4 d7 l4), mmap 2 2 vU i7 c56, .one (.cells 1 [[.map 2]]), .one (mapB vU vI (mset c57 a23 1000000000)), .one (pmap 11 vU c58), .dead, .one (.cells 3 [[.own 10 0 c61.length, .map 5, int c60]]), .dead, .one (.cells 1 [[.imm (.val (.int .u32 a23))]]), .one (prow 11 c61), pool 4 b9 c59]) 11 6 Z Z Z ⟨Z, Z, Z, Z, Z, Z, Z, Z, Y⟩ Z ⟨(.one Z Z), (.vec Z), (EntR.mmap Z Z Z), (.one Z Z), (.one Z Z), (.one (j5 Z) (B6 Z Z (j8 fun _ => Z))), .dead, (.one Z Z), .dead, (.one Z Z), (.one (g9 Z) (B6 Z Z (f9 fun _ => Z))), (EntR.pool Z Z), Y⟩).trans (Sub.env ⟨Z, Z, Z, Z, Z, Z, Z, Z, Y⟩)))
  ·try dsimp only at h
   refine AWP.q ?_
   obtain ⟨a37, ha37, h⟩ := bind_some h
   refine AWP.u (.j Z Z (.E Z Z Z Z Z Z (.callF (r2 := .c (.fn 77 [.ptr 12 0 0, .ptr 13 0 0])) (σ'' := [.one (.cells 3 [(wW start goal 1 l4.length)]), .one (vec 4 d7 l4), mmap 2 2 vU i7 c56, .one (.cells 1 [[.map 2]]), .one (mapB vU vI c63), .one (pmap 11 vU c64), .dead, .one (.cells 3 [[.own 10 0 c66.length, .map 5, int c65]]), .dead, .one (.cells 1 [[.imm (.val (.int .u32 a23))]]), .one (prow 11 c66), pool 4 b9 c67, .one (.cells 1 [[.ptr 0 0 0]]), .one (.cells 1 [[.imm (.val (.int .u32 a23))]])]) Z Z Z (FnOk.lend [0, 1] (R7 ha37) Z Z Z Z Z Z (by exact ⟨(.one Z), .vec, Y⟩) Z (by exact ⟨(.live Z (.one Z)), (.live Z .vec), Y⟩) Z Z (by exact ⟨(.new 0 Z Z (.one Z)), (.new 1 Z Z .vec), (.old Z Z Z), (.old Z Z Z), (.old Z Z Z), (.old Z Z Z), .dead, (.old Z Z Z), .dead, (.old Z Z Z), (.old Z Z Z), (.old Z Z Z), (.new 2 Z Z (.one Z)), (.new 3 Z Z (.one Z)), Y⟩)) (.nil (b6 (.aa ?_))))))
   obtain ⟨c71, hr70, h⟩ := bind_some h
   refine AWP.rangeB [(5, none), (9, none)] Z Z Z (fun as70 bo70 hA70 hB70 => ⟨[.one (.cells 3 [(wW start goal 1 l4.length)]), .one (vec 4 d7 l4), mmap 2 2 vU i7 c56, .one (.cells 1 [[.map 2]]), .one (mapB vU vI c63), .one (pmap 11 vU c64), .dead, .one (.cells 3 [[.own 10 0 c66.length, .map 5, int c65]]), .dead, .one (.cells 1 [[.imm (.val (.int .u32 a23))]]), .one (prow 11 c66), pool 4 b9 c67, .one (.cells 1 [[.ptr 0 0 0]]), .one (.cells 1 [[.imm (.val (.int .u32 a23))]]), .one (o5 96 [38] as70 bo70 .ready none [(5, none), (9, none)] [.ptr 3 0 0, .ptr 9 0 0])], fun tt ss => tt = .tup [] ∧ ss = [.one (.cells 3 [(wW start goal 1 l4.length)]), .one (vec 4 d7 l4), .dead, .one (.cells 1 [[.map 15]]), .one (mapB vU vI c63), .one (pmap 11 vU c64), .dead, .one (.cells 3 [[.own 10 0 c66.length, .map 5, int c65]]), .dead, .one (.cells 1 [[.imm (.val (.int .u32 a23))]]), .one (prow 11 c66), pool 4 b9 c67, .one (.cells 1 [[.ptr 0 0 0]]), .one (.cells 1 [[.imm (.val (.int .u32 a23))]]), .one (o5 96 [38] as70 bo70 .ready none [(5, none), (9, none)] [.ptr 3 0 0, .ptr 9 0 0]), mmap 15 2 vU i7 c71], Z, ?_, ?_⟩)
   ·refine FnOk.enter (rs := []) func77 Z ntmps77 results77 Z trivial (by kernel_rfl) Z ?_
    refine AWP.weak ?_
    unfold J5 at hr70
    try dsimp only at hr70
    refine AWP.moveM (env' := [(0, .c (.yld 14)), (1, .c (.ptr 12 0 0)), (2, .c (.ptr 13 0 0))]) (σ' := [.one (.cells 3 [(wW start goal 1 l4.length)]), .one (vec 4 d7 l4), .dead, .one (.cells 1 [[.map 15]]), .one (mapB vU vI c63), .one (pmap 11 vU c64), .dead, .one (.cells 3 [[.own 10 0 c66.length, .map 5, int c65]]), .dead, .one (.cells 1 [[.imm (.val (.int .u32 a23))]]), .one (prow 11 c66), pool 4 b9 c67, .one (.cells 1 [[.ptr 0 0 0]]), .one (.cells 1 [[.imm (.val (.int .u32 a23))]]), .one (o5 96 [38] as70 bo70 .ready none [(5, none), (9, none)] [.ptr 3 0 0, .ptr 9 0 0]), mmap 15 2 vU i7 c56]) 15 2 Z Z Z ⟨Z, Z, Z, Y⟩ Z ⟨(.one Z Z), (.vec Z), .dead, (.one Z Z), (.one Z Z), (.one (j5 Z) (B6 Z Z (j8 fun _ => Z))), .dead, (.one Z Z), .dead, (.one Z Z), (.one (g9 Z) (B6 Z Z (f9 fun _ => Z))), (EntR.pool Z Z), (.one Z Z), (.one Z Z), (.one Z Z), (EntR.mmap Z Z Z), Y⟩ ?_
    refine AWP.q (.u (.E Z Z Z Z Z Z (.aj Z Z Z (W.fieldAddr Z Z Z Z (.E Z Z Z Z Z Z (S.lenO Z Z Z (fun hl10 => .j Z Z (.nil (b6 (.aa ?_))))))))))
    obtain ⟨c72, ho2, hr70⟩ := bind_some hr70
    refine AWP.forS ho2 (fun t73 c72 => ⟨[(0, .c (.yld 14)), (2, .c (.ptr 13 0 0)), (9, .c (.own 1 0 l4.length)), (10, .c (int (l4.length : Int))), (11, .c (int t73))], [.one (.cells 3 [(wW start goal 1 l4.length)]), .one (vec 4 d7 l4), .dead, .one (.cells 1 [[.map 15]]), .one (mapB vU vI c63), .one (pmap 11 vU c64), .dead, .one (.cells 3 [[.own 10 0 c66.length, .map 5, int c65]]), .dead, .one (.cells 1 [[.imm (.val (.int .u32 a23))]]), .one (prow 11 c66), pool 4 b9 c67, .one (.cells 1 [[.ptr 0 0 0]]), .one (.cells 1 [[.imm (.val (.int .u32 a23))]]), .one (o5 96 [38] as70 bo70 .ready none [(5, none), (9, none)] [.ptr 3 0 0, .ptr 9 0 0]), mmap 15 2 vU i7 c72]⟩) (fun c72 e st => e = .exit 0 ∧ Sub ([.one (.cells 3 [(wW start goal 1 l4.length)]), .one (vec 4 d7 l4), mmap 2 2 vU i7 c56, .one (.cells 1 [[.map 2]]), .one (mapB vU vI c63), .one (pmap 11 vU c64), .dead, .one (.cells 3 [[.own 10 0 c66.length, .map 5, int c65]]), .dead, .one (.cells 1 [[.imm (.val (.int .u32 a23))]]), .one (prow 11 c66), pool 4 b9 c67, .one (.cells 1 [[.ptr 0 0 0]]), .one (.cells 1 [[.imm (.val (.int .u32 a23))]]), .one (o5 96 [38] as70 bo70 .ready none [(5, none), (9, none)] [.ptr 3 0 0, .ptr 9 0 0])] : b8) st ⟨[], [.one (.cells 3 [(wW start goal 1 l4.length)]), .one (vec 4 d7 l4), .dead, .one (.cells 1 [[.map 15]]), .one (mapB vU vI c63), .one (pmap 11 vU c64), .dead, .one (.cells 3 [[.own 10 0 c66.length, .map 5, int c65]]), .dead, .one (.cells 1 [[.imm (.val (.int .u32 a23))]]), .one (prow 11 c66), pool 4 b9 c67, .one (.cells 1 [[.ptr 0 0 0]]), .one (.cells 1 [[.imm (.val (.int .u32 a23))]]), .one (o5 96 [38] as70 bo70 .ready none [(5, none), (9, none)] [.ptr 3 0 0, .ptr 9 0 0]), mmap 15 2 vU i7 c72]⟩) ?_ ?_ ?_ ?_
    ·try dsimp only
     exact Sub.env ⟨Z, Z, Z, Z, Z, Y⟩
    ·intro t73 c72 hlot73 hltt73 _
     try dsimp only
     refine AWP.q (.u (.J Z Z Z (.nil (b6 (.q (.ag Z hltt73 (.exit (e7 (e7 ⟨Z, ?_⟩)))))))))
     exact Sub.env trivial
    ·intro t73 c72 o hlot73 hltt73 h
     unfold J4 at h
     try dsimp only at h ⊢
     refine AWP.q (.u (.J Z Z Z (.nil (b6 (.q (.ah Z hltt73 (.skip (b6 (.q (.aa (.q ?_)))))))))))
     obtain ⟨ai14, hai14, h⟩ := bind_some h
     refine AWP.u (.j Z Z (S.idxO hai14 Z Z Z Z Z (S.loadOAgg hai14 Z Z Z Z Z Z Z (W.alloc Z Z Z Z (.v Z Z (W.storeAgg Z Z Z Z Z Z Z (.nil (b6 (.q ?_)))))))))
     rcases bft (decide (Go.bits .and .u32 a23 ai14.pre = ai14.pre)) with hb74 | hb74
     ·replace h := L8 hb74 h
      refine AWP.u (.E Z Z Z Z Z Z (W.fieldAddr Z Z Z Z (.E Z Z Z Z Z Z (.bits Z Z Z (by simp) (W.fieldAddr Z Z Z Z (.E Z Z Z Z Z Z (.ab Z Z Z (.j Z Z (.z Z Z Z hb74 (.j Z Z (.z Z Z Z hb74 (.j Z Z (.z Z Z Z hb74 (W.fieldAddr Z Z Z Z (.z Z Z Z hb74 (.E Z Z Z Z Z Z (.z Z Z Z hb74 (.E Z Z Z Z Z Z (.z Z Z Z hb74 (W.fieldAddr Z Z Z Z (.z Z Z Z hb74 (.E Z Z Z Z Z Z (.z Z Z Z hb74 (.bits Z Z Z (by simp) (.z Z Z Z hb74 (W.fieldAddr Z Z Z Z (.z Z Z Z hb74 (.E Z Z Z Z Z Z (.z Z Z Z hb74 (.bits Z Z Z (by simp) (.z Z Z Z hb74 (W.build Z Z Z Z ?_))))))))))))))))))))))))))))))))
      refine AOps.z Z Z Z hb74 ?_; refine AOps.yieldB (E1 := [(10, .c (.ptr 17 0 0)), (38, .agg [int t73, int ai14.cost, .imm (.val (.int .u32 (Go.bits .or .u32 (Go.bits .andNot .u32 a23 ai14.del) ai14.add)))]), (5, .c (.ptr 3 0 0)), (9, .c (.ptr 9 0 0))]) (σ1 := [.one (.cells 3 [(wW start goal 1 l4.length)]), .one (vec 4 d7 l4), .dead, .one (.cells 1 [[.map 15]]), .one (mapB vU vI c63), .one (pmap 11 vU c64), .dead, .one (.cells 3 [[.own 10 0 c66.length, .map 5, int c65]]), .dead, .one (.cells 1 [[.imm (.val (.int .u32 a23))]]), .one (prow 11 c66), pool 4 b9 c67, .one (.cells 1 [[.ptr 0 0 0]]), .one (.cells 1 [[.imm (.val (.int .u32 a23))]]), .one (o5 96 [38] as70 bo70 .ready none [(5, none), (9, none)] [.ptr 3 0 0, .ptr 9 0 0]), mmap 15 2 vU i7 c72, .one (.cells 4 [[.imm (.val (.int .u32 ai14.pre)), .imm (.val (.int .u32 ai14.add)), .imm (.val (.int .u32 ai14.del)), int ai14.cost]]), .one (.cells 3 [[int t73, int ai14.cost, .imm (.val (.int .u32 (Go.bits .or .u32 (Go.bits .andNot .u32 a23 ai14.del) ai14.add)))]])]) hA70 hB70 Z Z Z Z Z Z Z Z Z Z ?_ ?_
      ·refine AWP.u (W.alloc Z Z Z Z (W.storeAgg Z Z Z Z Z Z Z (.nil ?_)))
       exact ⟨Z, Z⟩
      refine AWP.sub (s' := ⟨[(5, .c (.ptr 3 0 0)), (9, .c (.ptr 9 0 0)), (10, .c (.ptr 17 0 0))], [.one (.cells 3 [(wW start goal 1 l4.length)]), .one (vec 4 d7 l4), .dead, .one (.cells 1 [[.map 15]]), .one (mapB vU vI c63), .one (pmap 11 vU c64), .dead, .one (.cells 3 [[.own 10 0 c66.length, .map 5, int c65]]), .dead, .one (.cells 1 [[.imm (.val (.int .u32 a23))]]), .one (prow 11 c66), pool 4 b9 c67, .one (.cells 1 [[.ptr 0 0 0]]), .one (.cells 1 [[.imm (.val (.int .u32 a23))]]), .one (o5 96 [38] as70 bo70 .busy none [(5, none), (9, none)] [.ptr 3 0 0, .ptr 9 0 0]), mmap 15 2 vU i7 c72, .one (.cells 4 [[.imm (.val (.int .u32 ai14.pre)), .imm (.val (.int .u32 ai14.add)), .imm (.val (.int .u32 ai14.del)), int ai14.cost]]), .one (.cells 3 [[int t73, int ai14.cost, .imm (.val (.int .u32 (Go.bits .or .u32 (Go.bits .andNot .u32 a23 ai14.del) ai14.add)))]])]⟩) (Sub.env ⟨Z, Z, Z, Y⟩) (.aa ?_)
      obtain ⟨ab51, hab51, h⟩ := bind_some h
      refine AWP.drawEI [11, 12, 13] mixed Z Z Z ?_
      refine d6.consN Z Z (fun E => AOps.E Z Z Z Z Z Z .N) Z (.consN Z Z (fun E => W.fieldAddr Z Z Z Z .N) Z (.consN Z Z (fun E => AOps.E Z Z Z Z Z Z .N) Z (.consN Z Z (fun E => AOps.E Z Z Z Z Z Z .N) Z (.consN Z Z (fun E => W.fieldAddr Z Z Z Z .N) Z (.consN Z Z (fun E => AOps.E Z Z Z Z Z Z .N) Z (.consN Z Z (fun E => S.lookupM (fk := vU) (key := Go.bits .or .u32 (Go.bits .andNot .u32 a23 ai14.del) ai14.add) C2 Z Z Z Z Z .N) Z (.consN Z Z (fun E => AOps.E Z Z Z Z Z Z .N) Z (.consN Z Z (fun E => W.fieldAddr Z Z Z Z .N) Z (.consN Z Z (fun E => AOps.E Z Z Z Z Z Z .N) Z (.consN Z Z (fun E => W.build Z Z Z Z .N) Z ?_))))))))))
      apply d6.consE; exact Z; exact Z; intro E
      refine S.lit (f := i7) (l := [(⟨a23, ai14.cost⟩ : q9)]) (ess := [[.imm (.val (.int .u32 a23)), int ai14.cost]]) Z Z Z Z Z Z Z ⟨⟨.inl Z, .inl Z, Y⟩, Y⟩ Z Z Z .N
      exact Z
      exact Z
      apply d6.consE; exact Z; exact Z; intro E
      refine S.appendMM (f := i7) hab51 Z Z Z Z Z (.own Z Z) Z Z Z Z .N
      exact Z
      exact Z
      apply d6.consE (v := .undef); exact Z; exact Z; intro E
      refine S.updateMM (fk := vU) (key := Go.bits .or .u32 (Go.bits .andNot .u32 a23 ai14.del) ai14.add) C2 Z Z Z Z Z .N
      exact Z
      exact Z
      refine d6.done Z ?_ ?_
      ·refine d5.cons Z Z ?_ ?_
       refine b7.go Z Z (fun E => AOps.E Z Z Z Z Z Z .N) ?_
       refine b7.go Z Z (fun E => AOps.E Z Z Z Z Z Z .N) ?_
       refine b7.go Z Z (fun E => AOps.E Z Z Z Z Z Z .N) ?_
       refine b7.skip Z (b7.nil)
       refine d5.cons Z Z ?_ ?_
       refine b7.go Z Z (fun E => W.fieldAddr Z Z Z Z .N) ?_
       refine b7.go Z Z (fun E => W.fieldAddr Z Z Z Z .N) ?_
       refine b7.go Z Z (fun E => W.fieldAddr Z Z Z Z .N) ?_
       refine b7.skip Z (b7.nil)
       refine d5.cons Z Z ?_ ?_
       refine b7.go Z Z (fun E => AOps.E Z Z Z Z Z Z .N) ?_
       refine b7.go Z Z (fun E => AOps.E Z Z Z Z Z Z .N) ?_
       refine b7.go Z Z (fun E => AOps.E Z Z Z Z Z Z .N) ?_
       refine b7.skip Z (b7.nil)
       refine d5.cons Z Z ?_ ?_
       refine b7.go Z Z (fun E => AOps.E Z Z Z Z Z Z .N) ?_
       refine b7.go Z Z (fun E => AOps.E Z Z Z Z Z Z .N) ?_
       refine b7.skip Z (b7.skip Z (b7.nil))
       refine d5.cons Z Z ?_ ?_
       refine b7.go Z Z (fun E => W.fieldAddr Z Z Z Z .N) ?_
       refine b7.go Z Z (fun E => W.fieldAddr Z Z Z Z .N) ?_
       refine b7.skip Z (b7.skip Z (b7.nil))
       refine d5.cons Z Z ?_ ?_
       refine b7.go Z Z (fun E => AOps.E Z Z Z Z Z Z .N) ?_
       refine b7.go Z Z (fun E => AOps.E Z Z Z Z Z Z .N) ?_
       refine b7.skip Z (b7.skip Z (b7.nil))
       refine d5.cons Z Z ?_ ?_
       refine b7.go Z Z (fun E => S.lookupM (fk := vU) (key := Go.bits .or .u32 (Go.bits .andNot .u32 a23 ai14.del) ai14.add) C2 Z Z Z Z Z .N) ?_
       refine b7.go Z Z (fun E => S.lookupM (fk := vU) (key := Go.bits .or .u32 (Go.bits .andNot .u32 a23 ai14.del) ai14.add) C2 Z Z Z Z Z .N) ?_
       refine b7.skip Z (b7.skip Z (b7.nil))
       refine d5.cons Z Z ?_ ?_
       refine b7.go Z Z (fun E => AOps.E Z Z Z Z Z Z .N) ?_
       refine b7.skip Z (b7.skip Z (b7.skip Z (b7.nil)))
       refine d5.cons Z Z ?_ ?_
       refine b7.go Z Z (fun E => W.fieldAddr Z Z Z Z .N) ?_
       refine b7.skip Z (b7.skip Z (b7.skip Z (b7.nil)))
       refine d5.cons Z Z ?_ ?_
       refine b7.go Z Z (fun E => AOps.E Z Z Z Z Z Z .N) ?_
       refine b7.skip Z (b7.skip Z (b7.skip Z (b7.nil)))
       refine d5.cons Z Z ?_ ?_
       refine b7.go Z Z (fun E => W.build Z Z Z Z .N) ?_
       refine b7.skip Z (b7.skip Z (b7.skip Z (b7.nil)))
       refine d5.skip Z (d5.skip Z (d5.skip Z (d5.nil)))
      dsimp only [i5]
      refine e9 (ae0 Z Z (.z Z Z Z hb74 (.ae Z Z (.U Z hb74 Z Z (.nil (b6 (.j (env' := [(0, .c (.yld 14)), (2, .c (.ptr 13 0 0)), (9, .c (.own 1 0 l4.length)), (10, .c (int (l4.length : Int))), (11, .c (int t73)), (38, .c (bool false))]) (σ' := [.one (.cells 3 [(wW start goal 1 l4.length)]), .one (vec 4 d7 l4), .dead, .one (.cells 1 [[.map 15]]), .one (mapB vU vI c63), .one (pmap 11 vU c64), .dead, .one (.cells 3 [[.own 10 0 c66.length, .map 5, int c65]]), .dead, .one (.cells 1 [[.imm (.val (.int .u32 a23))]]), .one (prow 11 c66), pool 4 b9 c67, .one (.cells 1 [[.ptr 0 0 0]]), .one (.cells 1 [[.imm (.val (.int .u32 a23))]]), .one (o5 96 [38] as70 bo70 .ready none [(5, none), (9, none)] [.ptr 3 0 0, .ptr 9 0 0]), mmap 15 2 vU i7 (mset c72 (Go.bits .or .u32 (Go.bits .andNot .u32 a23 ai14.del) ai14.add) ab51), .one (.cells 4 [[.imm (.val (.int .u32 ai14.pre)), .imm (.val (.int .u32 ai14.add)), .imm (.val (.int .u32 ai14.del)), int ai14.cost]]), .one (.cells 3 [[int t73, int ai14.cost, .imm (.val (.int .u32 (Go.bits .or .u32 (Go.bits .andNot .u32 a23 ai14.del) ai14.add)))]]), .one (vec 2 i7 [(⟨a23, ai14.cost⟩ : q9)])]) (15, [posM c72 (Go.bits .or .u32 (Go.bits .andNot .u32 a23 ai14.del) ai14.add)]) (19, []) Z Z Z ⟨Z, Z, Z, Z, Z, Z, Y⟩ Z ⟨⟨Z, Z⟩, ⟨Blk.im_ok _ _ _, f7 Z⟩, trivial, ⟨Z, Z⟩, ⟨Z, Z⟩, ⟨j5 Z, U6 Z (pmap_mvR Z) aa0⟩, trivial, ⟨Z, Z⟩, trivial, ⟨Z, Z⟩, ⟨g9 Z, U6 Z (prow_mvR Z) aa0⟩, (n9.poolR Z Z), ⟨Z, Z⟩, ⟨Z, Z⟩, ⟨Z, Z⟩, (n9.putMM Z Z Z Z), ⟨Z, Z⟩, ⟨Z, Z⟩, ⟨Blk.im_ok _ _ _, f7 Z⟩, Y⟩ (.condF Z (.skip (e9 (b6 (.u (.add Z Z Z (by omega) (.j Z Z (.nil ?_)))))))))))))))
      obtain rfl := oi h
      refine b6 (Sub.cut ⟨Z, Z, Z, Z, Z, Y⟩ Z ⟨.one Z, .vec, .dead, .one Z, .one Z, (.one (j5 Z)), .dead, .one Z, .dead, .one Z, (.one (g9 Z)), (.any k7), .one Z, .one Z, .one Z, (.any (mm_ok Z)), Y⟩ Z)
     ·replace h := L5 hb74 h
      refine AWP.u (.E Z Z Z Z Z Z (W.fieldAddr Z Z Z Z (.E Z Z Z Z Z Z (.bits Z Z Z (by simp) (W.fieldAddr Z Z Z Z (.E Z Z Z Z Z Z (.ab Z Z Z (.j Z Z (.B Z Z Z hb74 (.B Z Z Z hb74 (.B Z Z Z hb74 (.B Z Z Z hb74 (.B Z Z Z hb74 (.B Z Z Z hb74 (.B Z Z Z hb74 (.B Z Z Z hb74 (.B Z Z Z hb74 (.B Z Z Z hb74 (.B Z Z Z hb74 (.B Z Z Z hb74 (.B Z Z Z hb74 (.B Z Z Z hb74 (.O Z hb74 Z Z (.nil (b6 (.condF Z (.skip (e9 (b6 (.u (.add Z Z Z (by omega) (.j Z Z (.nil ?_)))))))))))))))))))))))))))))))))
      obtain rfl := oi h
      refine b6 (Sub.cut ⟨Z, Z, Z, Z, Z, Y⟩ Z ⟨.one Z, .vec, .dead, .one Z, .one Z, (.one (j5 Z)), .dead, .one Z, .dead, .one Z, (.one (g9 Z)), (.any k7), .one Z, .one Z, .one Z, (.any (mm_ok Z)), Y⟩ Z)
    ·intro e s hq
     obtain ⟨rfl, hs⟩ := hq
     refine ⟨_, hs, ?_⟩
     refine j7 ?_
     obtain rfl := oi hr70
     exact ⟨⟨[], [.one (.cells 3 [(wW start goal 1 l4.length)]), .one (vec 4 d7 l4), .dead, .one (.cells 1 [[.map 15]]), .one (mapB vU vI c63), .one (pmap 11 vU c64), .dead, .one (.cells 3 [[.own 10 0 c66.length, .map 5, int c65]]), .dead, .one (.cells 1 [[.imm (.val (.int .u32 a23))]]), .one (prow 11 c66), pool 4 b9 c67, .one (.cells 1 [[.ptr 0 0 0]]), .one (.cells 1 [[.imm (.val (.int .u32 a23))]]), .one (o5 96 [38] as70 bo70 .ready none [(5, none), (9, none)] [.ptr 3 0 0, .ptr 9 0 0]), mmap 15 2 vU i7 c72]⟩, Sub.env trivial, Done.normal Z ⟨Z, Z⟩⟩
   ·rintro tt ss ⟨rfl, rfl⟩
    try dsimp only at h ⊢
    refine ak8 Z Z (e9 (e9 (b6 (.u (.add Z Z Z (by omega) (.j Z Z (.nil ?_)))))))
    obtain rfl := oi h
    refine b6 ((Sub.moveM (env' := [(0, .c (.ptr 0 0 0)), (5, .c (.ptr 3 0 0)), (6, .c (.map 4)), (7, .c (.ptr 7 0 0)), (19, .c (row 1 eU32 l)), (20, .c (int (l.length : Int))), (21, .c (int (t62 + 1)))]) (σ' := [.one (.cells 3 [(wW start goal 1 l4.length)]), .one (vec 4 d7 l4), mmap 2 2 vU i7 c71, .one (.cells 1 [[.map 2]]), .one (mapB vU vI c63), .one (pmap 11 vU c64), .dead, .one (.cells 3 [[.own 10 0 c66.length, .map 5, int c65]]), .dead, .one (.cells 1 [[.imm (.val (.int .u32 a23))]]), .one (prow 11 c66), pool 4 b9 c67, .one (.cells 1 [[.ptr 0 0 0]]), .one (.cells 1 [[.imm (.val (.int .u32 a23))]]), .dead]) 2 15 Z Z Z ⟨Z, Z, Z, Z, Z, Z, Z, Y⟩ Z ⟨(.one Z Z), (.vec Z), (EntR.mmap Z Z Z), (.one Z Z), (.one Z Z), (.one (j5 Z) (B6 Z Z (j8 fun _ => Z))), .dead, (.one Z Z), .dead, (.one Z Z), (.one (g9 Z) (B6 Z Z (f9 fun _ => Z))), (EntR.pool Z Z), (.one Z Z), (.one Z Z), .dead, Y⟩).trans ((Sub.move (env' := [(0, .c (.ptr 0 0 0)), (5, .c (.ptr 3 0 0)), (6, .c (.map 4)), (7, .c (.ptr 7 0 0)), (19, .c (row 1 eU32 l)), (20, .c (int (l.length : Int))), (21, .c (int (t62 + 1)))]) (σ' := [.one (.cells 3 [(wW start goal 1 l4.length)]), .one (vec 4 d7 l4), mmap 2 2 vU i7 c71, .one (.cells 1 [[.map 2]]), .one (mapB vU vI c63), .one (pmap 11 vU c64), .dead, .one (.cells 3 [[.own 8 0 c66.length, .map 5, int c65]]), .one (prow 11 c66), .one (.cells 1 [[.imm (.val (.int .u32 a23))]]), .dead, pool 4 b9 c67, .one (.cells 1 [[.ptr 0 0 0]]), .one (.cells 1 [[.imm (.val (.int .u32 a23))]]), .dead]) 8 10 Z Z Z ⟨Z, Z, Z, Z, Z, Z, Z, Y⟩ Z ⟨⟨Z, Z⟩, ⟨Blk.im_ok _ _ _, f7 Z⟩, (n9.mmap Z Z Z), ⟨Z, Z⟩, ⟨Z, Z⟩, ⟨j5 Z, t1 Z G4⟩, trivial, ⟨Z, Z⟩, ⟨g9 Z, t1 Z G5⟩, ⟨Z, Z⟩, trivial, (n9.pool Z), ⟨Z, Z⟩, ⟨Z, Z⟩, trivial, Y⟩).trans ((Sub.moveM (env' := [(0, .c (.ptr 0 0 0)), (5, .c (.ptr 3 0 0)), (6, .c (.map 4)), (7, .c (.ptr 7 0 0)), (19, .c (row 1 eU32 l)), (20, .c (int (l.length : Int))), (21, .c (int (t62 + 1)))]) (σ' := [.one (.cells 3 [(wW start goal 1 l4.length)]), .one (vec 4 d7 l4), mmap 2 2 vU i7 c71, .one (.cells 1 [[.map 2]]), .one (mapB vU vI c63), .one (pmap 6 vU c64), pool 4 b9 c67, .one (.cells 3 [[.own 8 0 c66.length, .map 5, int c65]]), .one (prow 6 c66), .one (.cells 1 [[.imm (.val (.int .u32 a23))]]), .dead, .dead, .one (.cells 1 [[.ptr 0 0 0]]), .one (.cells 1 [[.imm (.val (.int .u32 a23))]]), .dead]) 6 11 Z Z Z ⟨Z, Z, Z, Z, Z, Z, Z, Y⟩ Z ⟨(.one Z Z), (.vec Z), (EntR.mmap Z Z Z), (.one Z Z), (.one Z Z), (.one (j5 Z) (B6 Z Z (j8 fun _ => Z))), (EntR.pool Z Z), (.one Z Z), (.one (g9 Z) (B6 Z Z (f9 fun _ => Z))), (.one Z Z), .dead, .dead, (.one Z Z), (.one Z Z), .dead, Y⟩).trans (Sub.cut ⟨Z, Z, Z, Z, Z, Z, Z, Y⟩ Z ⟨.one Z, .vec, (.any (mm_ok Z)), .one Z, .one Z, (.one (j5 Z)), (.any k7), .one Z, (.one (g9 Z)), Y⟩ Z))))
 ·intro e s hq
  obtain ⟨rfl, hs⟩ := hq
  refine ⟨_, hs, ?_⟩
  refine j7 (b6 (.q (.aa ?_)))
  obtain ⟨c80, ho4, h⟩ := bind_some h
  refine AWP.loopS ho4 (fun (c75, c76, c77, c78, c79) => ⟨[(5, .c (.ptr 3 0 0)), (6, .c (.map 4)), (7, .c (.ptr 7 0 0))], [.one (.cells 3 [(wW start goal 1 l4.length)]), .one (vec 4 d7 l4), mmap 2 2 vU i7 c56, .one (.cells 1 [[.map 2]]), .one (mapB vU vI c75), .one (pmap 6 vU c76), pool 4 b9 c77, .one (.cells 3 [[.own 8 0 c79.length, .map 5, int c78]]), .one (prow 6 c79)]⟩) (fun c80 e st => e = .exit 4 ∧ Sub (J6 l start goal l4) st ⟨[(6, .c (.map 4))], [.one (.cells 3 [(wW start goal 1 l4.length)]), .one (vec 4 d7 l4), .dead, .dead, .one (mapB vU vI c80)]⟩) ?_ ?_ ?_
  ·try dsimp only
   exact Sub.env ⟨Z, Z, Z, Y⟩
  ·intro s o h
   obtain ⟨c75, c76, c77, c78, c79⟩ := s
   unfold F1 at h
   try dsimp only at h ⊢
   refine AWP.q (.q ?_)
   obtain ⟨a54, ha54, h⟩ := bind_some h
   refine AWP.u (.j Z Z (.callF (r2 := .c (int (c79.length : Int))) (σ'' := [.one (.cells 3 [(wW start goal 1 l4.length)]), .one (vec 4 d7 l4), mmap 2 2 vU i7 c56, .one (.cells 1 [[.map 2]]), .one (mapB vU vI c75), .one (pmap 6 vU c76), pool 4 b9 c77, .one (.cells 3 [[.own 8 0 c79.length, .map 5, int c78]]), .one (prow 6 c79)]) Z Z Z (FnOk.lend [7, 8, 5, 6] (W5 ha54) Z Z Z Z Z Z (by exact ⟨(.one Z), (.one (g9 Z)), (.one (j5 Z)), (.any k7), Y⟩) Z (by exact ⟨(.live Z (.one Z)), (.live Z (.one (f9 fun _ => Z))), (.live Z (.one (j8 fun _ => Z))), (.live Z RenE.pool), Y⟩) Z Z (by exact ⟨(.old Z Z Z), (.old Z Z Z), (.old Z Z Z), (.old Z Z Z), (.old Z Z Z), (.new 2 Z Z (.one (j8 fun _ => Z))), (.new 3 Z Z RenE.pool), (.new 0 Z Z (.one Z)), (.new 1 Z Z (.one (f9 fun _ => Z))), Y⟩)) (.gtr Z Z Z (.nil (b6 (.ite Z h (fun hc81 h => ?_) (fun hc81 h => ?_)))))))
   ·refine AWP.skip (b6 (.aa (.q ?_)))
    obtain ⟨a58, ha58, h⟩ := bind_some h
    refine AWP.u (.j Z Z (.callF (r2 := .tup [.c (.imm (.val (.int .u32 a58.2.2.2.1))), .c (int a58.2.2.2.2.1), .c (bool a58.2.2.2.2.2)]) (σ'' := [.one (.cells 3 [(wW start goal 1 l4.length)]), .one (vec 4 d7 l4), mmap 2 2 vU i7 c56, .one (.cells 1 [[.map 2]]), .one (mapB vU vI c75), .one (pmap 6 vU a58.1), pool 4 b9 a58.2.1, .one (.cells 3 [[.own 9 0 a58.2.2.1.length, .map 5, int c78]]), .dead, .one (prow 6 a58.2.2.1)]) Z Z Z (FnOk.lend [7, 8, 5, 6] (U4 ha58) Z Z Z Z Z Z (by exact ⟨(.one Z), (.one (g9 Z)), (.one (j5 Z)), (.any k7), Y⟩) Z (by exact ⟨(.live Z (.one Z)), (.live Z (.one (f9 fun _ => Z))), (.live Z (.one (j8 fun _ => Z))), (.live Z RenE.pool), Y⟩) Z Z (by exact ⟨(.old Z Z Z), (.old Z Z Z), (.old Z Z Z), (.old Z Z Z), (.old Z Z Z), (.new 2 Z Z (.one (j8 fun _ => Z))), (.new 3 Z Z RenE.pool), (.new 0 Z Z (.one Z)), .dead, (.new 4 Z Z (.one (f9 fun _ => Z))), Y⟩)) (.j Z Z (.ac Z Z Z (.ac Z Z Z (.ac Z Z Z (.v Z Z (.v Z Z (.v Z Z (.nil (b6 (.q (.u (.E Z Z Z Z Z Z (.j Z Z (S.lookupM (fk := vU) (key := a58.2.2.2.1) C2 Z Z Z Z Z (S.lenMM Z Z Z (fun hl65 => .j Z Z (.nil (b6 (.aa ?_)))))))))))))))))))))
    obtain ⟨⟨c82, c83, c84, c85, c86⟩, ho5, h⟩ := bind_some h
    try dsimp only at h
    refine AWP.forS ho5 (fun t87 (c82, c83, c84, c85, c86) => ⟨[(5, .c (.ptr 3 0 0)), (6, .c (.map 4)), (7, .c (.ptr 7 0 0)), (12, .c (int a58.2.2.2.2.1)), (64, .c (rowC 2 c56 a58.2.2.2.1)), (65, .c (int ((rowM c56 a58.2.2.2.1).length : Int))), (66, .c (int t87))], [.one (.cells 3 [(wW start goal 1 l4.length)]), .one (vec 4 d7 l4), mmap 2 2 vU i7 c56, .one (.cells 1 [[.map 2]]), .one (mapB vU vI c82), .one (pmap 6 vU c83), pool 4 b9 c84, .one (.cells 3 [[.own 9 0 c86.length, .map 5, int c85]]), .dead, .one (prow 6 c86)]⟩) (fun (c82, c83, c84, c85, c86) e st => e = .exit 6 ∧ Sub (J6 l start goal l4) st ⟨[(5, .c (.ptr 3 0 0)), (6, .c (.map 4)), (7, .c (.ptr 7 0 0))], [.one (.cells 3 [(wW start goal 1 l4.length)]), .one (vec 4 d7 l4), mmap 2 2 vU i7 c56, .one (.cells 1 [[.map 2]]), .one (mapB vU vI c82), .one (pmap 6 vU c83), pool 4 b9 c84, .one (.cells 3 [[.own 9 0 c86.length, .map 5, int c85]]), .dead, .one (prow 6 c86)]⟩) ?_ ?_ ?_ ?_
    ·try dsimp only
     exact Sub.env ⟨Z, Z, Z, Z, Z, Z, Z, Y⟩
    ·intro t87 s hlot87 hltt87 _
     obtain ⟨c82, c83, c84, c85, c86⟩ := s
     try dsimp only
     refine AWP.q (.u (.J Z Z Z (.nil (b6 (.q (.ag Z hltt87 (.exit (e7 (e7 ⟨Z, ?_⟩)))))))))
     exact Sub.env ⟨Z, Z, Z, Y⟩
    ·intro t87 s o hlot87 hltt87 h
     obtain ⟨c82, c83, c84, c85, c86⟩ := s
     unfold F4 at h
     try dsimp only at h ⊢
     refine AWP.q (.u (.J Z Z Z (.nil (b6 (.q (.ah Z hltt87 (.skip (b6 ?_))))))))
     obtain ⟨⟨c88, c89, c90, c91, c92⟩, hx93, h⟩ := bind_some h
     refine AWP.seqJ (⟨[(5, .c (.ptr 3 0 0)), (6, .c (.map 4)), (7, .c (.ptr 7 0 0)), (12, .c (int a58.2.2.2.2.1)), (64, .c (rowC 2 c56 a58.2.2.2.1)), (65, .c (int ((rowM c56 a58.2.2.2.1).length : Int))), (66, .c (int t87))], [.one (.cells 3 [(wW start goal 1 l4.length)]), .one (vec 4 d7 l4), mmap 2 2 vU i7 c56, .one (.cells 1 [[.map 2]]), .one (mapB vU vI c88), .one (pmap 12 vU c89), .dead, .one (.cells 3 [[.own 11 0 c91.length, .map 5, int c90]]), .dead, .dead, .dead, .one (prow 12 c91), pool 4 b9 c92]⟩) ?_ ?_
     ·refine AWP.aa (.q ?_)
      obtain ⟨a68, ha68, hx93⟩ := bind_some hx93
      refine AWP.u (S.idxMM ha68 Z Z Z Z (S.loadOAgg ha68 Z Z (mm_get Z ha68) Z Z Z Z (W.alloc Z Z Z Z (W.storeAgg Z Z Z Z Z Z Z (.nil (b6 (.q (.u (.j Z Z (W.fieldAddr Z Z Z Z (.E Z Z Z Z Z Z (S.add Z Z Z (.j Z Z (W.fieldAddr Z Z Z Z (.E Z Z Z Z Z Z (W.lookup (fk := vU) (fv := vI) (k := a68.ffrom) (z := 0) C2 Z (fun _ => Z) Z Z Z Z ?_))))))))))))))))
      refine AOps.J Z Z Z (.nil (b6 (.ite Z hx93 (fun hc94 hx93 => ?_) (fun hc94 hx93 => ?_))))
      ·refine AWP.q (.u (.j Z Z (W.fieldAddr Z Z Z Z (.E Z Z Z Z Z Z (.j Z Z (W.fieldAddr Z Z Z Z (.E Z Z Z Z Z Z (S.add Z Z Z (W.mapUpdate (fk := vU) (fv := vI) (k := a68.ffrom) (a := w64 (a58.2.2.2.2.1 + a68.cost)) C2 Z Z Z Z Z (.nil (b6 ?_)))))))))))
       obtain ⟨a93, ha93, hx93⟩ := bind_some hx93
       refine AWP.u (.j Z Z (W.fieldAddr Z Z Z Z (.E Z Z Z Z Z Z (.j Z Z (W.fieldAddr Z Z Z Z (.E Z Z Z Z Z Z (S.add Z Z Z (.callF (r2 := .tup []) (σ'' := [.one (.cells 3 [(wW start goal 1 l4.length)]), .one (vec 4 d7 l4), mmap 2 2 vU i7 c56, .one (.cells 1 [[.map 2]]), .one (mapB vU vI (mset c82 a68.ffrom (w64 (a58.2.2.2.2.1 + a68.cost)))), .one (pmap 12 vU a93.1), .dead, .one (.cells 3 [[.own 11 0 a93.2.1.length, .map 5, int (w64 (c85 + 1))]]), .dead, .dead, .one (.cells 2 [[.imm (.val (.int .u32 a68.ffrom)), int a68.cost]]), .one (prow 12 a93.2.1), pool 4 b9 a93.2.2]) Z Z Z (FnOk.lend [7, 9, 5, 6] (V5 ha93) Z Z Z Z Z Z (by exact ⟨(.one Z), (.one (g9 Z)), (.one (j5 Z)), (.any k7), Y⟩) Z (by exact ⟨(.live Z (.one Z)), (.live Z (.one (f9 fun _ => Z))), (.live Z (.one (j8 fun _ => Z))), (.live Z RenE.pool), Y⟩) Z Z (by exact ⟨(.old Z Z Z), (.old Z Z Z), (.old Z Z Z), (.old Z Z Z), (.old Z Z Z), (.new 2 Z Z (.one (j8 fun _ => Z))), .dead, (.new 0 Z Z (.one Z)), .dead, .dead, (.old Z Z Z), (.new 4 Z Z (.one (f9 fun _ => Z))), (.new 5 Z Z RenE.pool), Y⟩)) (.nil (e9 ?_))))))))))
       have ej := Option.some.inj hx93
       simp only [Prod.mk.injEq] at ej
       obtain ⟨ej0, ej1, ej2, ej3, ej4⟩ := ej
       subst ej0
       subst ej1
       subst ej2
       subst ej3
       subst ej4
       refine b6 (Sub.cut ⟨Z, Z, Z, Z, Z, Z, Z, Y⟩ Z ⟨.one Z, .vec, (.any (mm_ok Z)), .one Z, .one Z, (.one (j5 Z)), .dead, .one Z, .dead, .dead, .dead, (.one (g9 Z)), (.any k7), Y⟩ (eOk1 Z (eOk1 Z (eOk1 Z (eOk1 Z (eOk1 (Y8 Z) (eOk1 Z (eOk1 Z Z))))))))
      ·refine AWP.skip (e9 ?_)
       have ej := Option.some.inj hx93
       simp only [Prod.mk.injEq] at ej
       obtain ⟨ej0, ej1, ej2, ej3, ej4⟩ := ej
       subst ej0
       subst ej1
       subst ej2
       subst ej3
       subst ej4
       refine b6 ((Sub.move (env' := [(5, .c (.ptr 3 0 0)), (6, .c (.map 4)), (7, .c (.ptr 7 0 0)), (12, .c (int a58.2.2.2.2.1)), (64, .c (rowC 2 c56 a58.2.2.2.1)), (65, .c (int ((rowM c56 a58.2.2.2.1).length : Int))), (66, .c (int t87))]) (σ' := [.one (.cells 3 [(wW start goal 1 l4.length)]), .one (vec 4 d7 l4), mmap 2 2 vU i7 c56, .one (.cells 1 [[.map 2]]), .one (mapB vU vI c82), .one (pmap 6 vU c83), pool 4 b9 c84, .one (.cells 3 [[.own 11 0 c86.length, .map 5, int c85]]), .dead, .dead, .one (.cells 2 [[.imm (.val (.int .u32 a68.ffrom)), int a68.cost]]), .one (prow 6 c86)]) 11 9 Z Z Z ⟨Z, Z, Z, Z, rowC_mv (fun _ => Z) Z, Z, Z, Y⟩ (eOk1 Z (eOk1 Z (eOk1 Z (eOk1 Z (eOk1 (Y8 Z) (eOk1 Z (eOk1 Z Z))))))) ⟨⟨Z, Z⟩, ⟨Blk.im_ok _ _ _, f7 Z⟩, (n9.mmap Z Z Z), ⟨Z, Z⟩, ⟨Z, Z⟩, ⟨j5 Z, t1 Z G4⟩, (n9.pool Z), ⟨Z, Z⟩, trivial, trivial, ⟨Z, Z⟩, ⟨g9 Z, t1 Z G5⟩, Y⟩).trans ((Sub.moveM (env' := [(5, .c (.ptr 3 0 0)), (6, .c (.map 4)), (7, .c (.ptr 7 0 0)), (12, .c (int a58.2.2.2.2.1)), (64, .c (rowC 2 c56 a58.2.2.2.1)), (65, .c (int ((rowM c56 a58.2.2.2.1).length : Int))), (66, .c (int t87))]) (σ' := [.one (.cells 3 [(wW start goal 1 l4.length)]), .one (vec 4 d7 l4), mmap 2 2 vU i7 c56, .one (.cells 1 [[.map 2]]), .one (mapB vU vI c82), .one (pmap 12 vU c83), .dead, .one (.cells 3 [[.own 11 0 c86.length, .map 5, int c85]]), .dead, .dead, .one (.cells 2 [[.imm (.val (.int .u32 a68.ffrom)), int a68.cost]]), .one (prow 12 c86), pool 4 b9 c84]) 12 6 Z Z Z ⟨Z, Z, Z, Z, rowC_mv (fun _ => Z) Z, Z, Z, Y⟩ (eOk1 Z (eOk1 Z (eOk1 Z (eOk1 Z (eOk1 (Y8 Z) (eOk1 Z (eOk1 Z Z))))))) ⟨(.one Z Z), (.vec Z), (EntR.mmap Z Z Z), (.one Z Z), (.one Z Z), (.one (j5 Z) (B6 Z Z (j8 fun _ => Z))), .dead, (.one Z Z), .dead, .dead, (.one Z Z), (.one (g9 Z) (B6 Z Z (f9 fun _ => Z))), (EntR.pool Z Z), Y⟩).trans (Sub.cut ⟨Z, Z, Z, Z, Z, Z, Z, Y⟩ Z ⟨.one Z, .vec, (.any (mm_ok Z)), .one Z, .one Z, (.one (j5 Z)), .dead, .one Z, .dead, .dead, .dead, (.one (g9 Z)), (.any k7), Y⟩ (eOk1 Z (eOk1 Z (eOk1 Z (eOk1 Z (eOk1 (Y8 Z) (eOk1 Z (eOk1 Z Z))))))))))
     ·try dsimp only at h
      refine AWP.u (.add Z Z Z (by omega) (.j Z Z (.nil ?_)))
      obtain rfl := oi h
      refine b6 ((Sub.move (env' := [(5, .c (.ptr 3 0 0)), (6, .c (.map 4)), (7, .c (.ptr 7 0 0)), (12, .c (int a58.2.2.2.2.1)), (64, .c (rowC 2 c56 a58.2.2.2.1)), (65, .c (int ((rowM c56 a58.2.2.2.1).length : Int))), (66, .c (int (t87 + 1)))]) (σ' := [.one (.cells 3 [(wW start goal 1 l4.length)]), .one (vec 4 d7 l4), mmap 2 2 vU i7 c56, .one (.cells 1 [[.map 2]]), .one (mapB vU vI c88), .one (pmap 12 vU c89), .dead, .one (.cells 3 [[.own 9 0 c91.length, .map 5, int c90]]), .dead, .one (prow 12 c91), .dead, .dead, pool 4 b9 c92]) 9 11 Z Z Z ⟨Z, Z, Z, Z, rowC_mv (fun _ => Z) Z, Z, Z, Y⟩ (eOk1 Z (eOk1 Z (eOk1 Z (eOk1 Z (eOk1 (Y8 Z) (eOk1 Z (eOk1 Z Z))))))) ⟨⟨Z, Z⟩, ⟨Blk.im_ok _ _ _, f7 Z⟩, (n9.mmap Z Z Z), ⟨Z, Z⟩, ⟨Z, Z⟩, ⟨j5 Z, t1 Z G4⟩, trivial, ⟨Z, Z⟩, trivial, ⟨g9 Z, t1 Z G5⟩, trivial, trivial, (n9.pool Z), Y⟩).trans ((Sub.moveM (env' := [(5, .c (.ptr 3 0 0)), (6, .c (.map 4)), (7, .c (.ptr 7 0 0)), (12, .c (int a58.2.2.2.2.1)), (64, .c (rowC 2 c56 a58.2.2.2.1)), (65, .c (int ((rowM c56 a58.2.2.2.1).length : Int))), (66, .c (int (t87 + 1)))]) (σ' := [.one (.cells 3 [(wW start goal 1 l4.length)]), .one (vec 4 d7 l4), mmap 2 2 vU i7 c56, .one (.cells 1 [[.map 2]]), .one (mapB vU vI c88), .one (pmap 6 vU c89), pool 4 b9 c92, .one (.cells 3 [[.own 9 0 c91.length, .map 5, int c90]]), .dead, .one (prow 6 c91), .dead, .dead]) 6 12 Z Z Z ⟨Z, Z, Z, Z, rowC_mv (fun _ => Z) Z, Z, Z, Y⟩ (eOk1 Z (eOk1 Z (eOk1 Z (eOk1 Z (eOk1 (Y8 Z) (eOk1 Z (eOk1 Z Z))))))) ⟨(.one Z Z), (.vec Z), (EntR.mmap Z Z Z), (.one Z Z), (.one Z Z), (.one (j5 Z) (B6 Z Z (j8 fun _ => Z))), (EntR.pool Z Z), (.one Z Z), .dead, (.one (g9 Z) (B6 Z Z (f9 fun _ => Z))), .dead, .dead, Y⟩).trans (Sub.cut ⟨Z, Z, Z, Z, Z, Z, Z, Y⟩ Z ⟨.one Z, .vec, (.any (mm_ok Z)), .one Z, .one Z, (.one (j5 Z)), (.any k7), .one Z, .dead, (.one (g9 Z)), Y⟩ (eOk1 Z (eOk1 Z (eOk1 Z (eOk1 Z (eOk1 (Y8 Z) (eOk1 Z (eOk1 Z Z))))))))))
    ·intro e s hq
     obtain ⟨rfl, hs⟩ := hq
     refine ⟨_, hs, ?_⟩
     refine j7 (e9 ?_)
     obtain rfl := oi h
     refine b6 ⟨_, Z, ?_⟩
     exact (Sub.move (env' := [(5, .c (.ptr 3 0 0)), (6, .c (.map 4)), (7, .c (.ptr 7 0 0))]) (σ' := [.one (.cells 3 [(wW start goal 1 l4.length)]), .one (vec 4 d7 l4), mmap 2 2 vU i7 c56, .one (.cells 1 [[.map 2]]), .one (mapB vU vI c82), .one (pmap 6 vU c83), pool 4 b9 c84, .one (.cells 3 [[.own 8 0 c86.length, .map 5, int c85]]), .one (prow 6 c86)]) 8 9 Z Z Z ⟨Z, Z, Z, Y⟩ Z ⟨⟨Z, Z⟩, ⟨Blk.im_ok _ _ _, f7 Z⟩, (n9.mmap Z Z Z), ⟨Z, Z⟩, ⟨Z, Z⟩, ⟨j5 Z, t1 Z G4⟩, (n9.pool Z), ⟨Z, Z⟩, ⟨g9 Z, t1 Z G5⟩, Y⟩).trans (Sub.env ⟨Z, Z, Z, Y⟩)
   ·refine AWP.exit (e7 ?_)
    obtain rfl := oi h
    refine e7 ⟨_, Z, Z, ?_⟩
    exact Sub.cut ⟨Z, Y⟩ Z ⟨.one Z, .vec, .dead, .dead, .one Z, Y⟩ Z
  ·intro e s hq
   obtain ⟨rfl, hs⟩ := hq
   refine ⟨_, hs, ?_⟩
   refine j7 (b6 (.q (.u (.j Z Z (.v Z Z (.nil (b6 (.ret ?_))))))))
   obtain rfl := oi h
   exact ⟨⟨[(4, .c (.map 4))], [.one (.cells 3 [(wW start goal 1 l4.length)]), .one (vec 4 d7 l4), .dead, .dead, .one (mapB vU vI c80)]⟩, Sub.env ⟨Z, Y⟩, Done.ret Z ⟨Z, Z⟩⟩
theorem M1 {t : d9} {r : Int × i9} (h : A0 t = some r) : e8 prog 19 [.agg (tT t)] (.tup [.c (int r.1), .agg [int r.2.code, int r.2.index]]) := by
 unfold e8
 refine FnOk.enter (rs := [.t 2, .cell 3 27 2]) func19 Z ntmps19 results19 Z ⟨trivial, rv _ Z, Y⟩ (by kernel_rfl) Z ?_
 unfold A0 at h
 refine AWP.q (.u (W.box Z Z Z Z Z Z (.v Z Z (W.alloc Z Z Z Z (.nil (b6 (.q ?_)))))))
 obtain ⟨fk2, hfk2, h⟩ := bind_some h
 rcases fk2 with fk2 | fk2
 ·try dsimp only at h
  refine AWP.u (W.loadAgg Z Z Z Z Z Z Z (.callF (r2 := .tup [.c (.imm (.val (.pointer none))), .c (row 1 eU32 []), .agg [int fk2.1, int fk2.2]]) (σ'' := [.one (.cells 4 [(tT t)]), .one (.cells 2 [[int 0, int 0]]), .dead, .one (.cells 2 [[int fk2.1, int fk2.2]])]) Z Z Z (FnOk.lend [] (FnOk.alt1 (ab0 hfk2)) Z Z Z Z Z Z (by exact trivial) Z (by exact trivial) Z Z (by exact ⟨(.old Z Z Z), (.old Z Z Z), .dead, (.new 1 Z Z (.one Z)), Y⟩)) (.j Z Z (.ac Z Z Z (.ac Z Z Z (.ac Z Z Z (W.alloc Z Z Z Z (.v Z Z (.v Z Z (W.storeAgg Z Z Z Z Z Z Z (.nil (b6 (.q (.q (.u (W.loadAgg Z Z Z Z Z Z Z (W.build Z Z Z Z (.neqP Z Z Z Z Z Z Z (.nil (b6 (.ad Z h (fun hc3 h => ?_) (fun hc3 h => ?_))))))))))))))))))))))
  ·refine AWP.q (.drawEI [2] mixed Z Z Z ?_)
   refine d6.consN Z Z (fun E => W.loadAgg Z Z Z Z Z Z Z .N) Z (.consN Z Z (fun E => AOps.v Z Z .N) Z ?_)
   apply d6.consE (v := .undef); exact Z; exact Z; intro E
   refine W.storeAgg Z Z Z Z Z Z Z .N
   exact Z
   exact Z
   refine d6.done Z ?_ ?_
   ·refine d5.cons Z Z ?_ ?_
    refine b7.go Z Z (fun E => W.loadAgg Z Z Z Z Z Z Z .N) ?_
    refine b7.skip Z (b7.nil)
    refine d5.cons Z Z ?_ ?_
    refine b7.go Z Z (fun E => AOps.v Z Z .N) ?_
    refine b7.skip Z (b7.nil)
    refine d5.skip Z (d5.nil)
   dsimp only [i5]
   refine b6 (.ret (e6 ?_))
   obtain rfl := oi h
   exact Done.ret Z Z
  ·cases h
 ·try dsimp only at h
  refine AWP.u (W.loadAgg Z Z Z Z Z Z Z (.callF (r2 := .tup [.c (.ptr 6 0 0), .c (row 1 eU32 fk2.2.2.2), .agg [int 0, int 0]]) (σ'' := [.one (.cells 4 [(tT t)]), .one (.cells 2 [[int 0, int 0]]), .dead, .one (.cells 2 [[int 0, int 0]]), .dead, .dead, .one (.cells 3 [[.imm (.val (.int .u32 fk2.1)), .imm (.val (.int .u32 fk2.2.1)), .own 7 0 fk2.2.2.1.length]]), .one (vec 4 d7 fk2.2.2.1)]) Z Z Z (FnOk.lend [] (FnOk.alt2 (ab0 hfk2)) Z Z Z Z Z Z (by exact trivial) Z (by exact trivial) Z Z (by exact ⟨(.old Z Z Z), (.old Z Z Z), .dead, (.new 1 Z Z (.one Z)), .dead, .dead, (.new 4 Z Z (.one Z)), (.new 5 Z Z .vec), Y⟩)) (.j Z Z (.ac Z Z Z (.ac Z Z Z (.ac Z Z Z (W.alloc Z Z Z Z (.v Z Z (.v Z Z (W.storeAgg Z Z Z Z Z Z Z (.nil (b6 (.q (.q (.u (W.loadAgg Z Z Z Z Z Z Z (W.build Z Z Z Z (.neqP Z Z Z Z Z Z Z (.nil (b6 (.ad Z h (fun hc3 h => ?_) (fun hc3 h => ?_))))))))))))))))))))))
  ·refine AWP.q (.drawEI [2] mixed Z Z Z ?_)
   refine d6.consN Z Z (fun E => W.loadAgg Z Z Z Z Z Z Z .N) Z (.consN Z Z (fun E => AOps.v Z Z .N) Z ?_)
   apply d6.consE (v := .undef); exact Z; exact Z; intro E
   refine W.storeAgg Z Z Z Z Z Z Z .N
   exact Z
   exact Z
   refine d6.done Z ?_ ?_
   ·refine d5.cons Z Z ?_ ?_
    refine b7.go Z Z (fun E => W.loadAgg Z Z Z Z Z Z Z .N) ?_
    refine b7.skip Z (b7.nil)
    refine d5.cons Z Z ?_ ?_
    refine b7.go Z Z (fun E => AOps.v Z Z .N) ?_
    refine b7.skip Z (b7.nil)
    refine d5.skip Z (d5.nil)
   dsimp only [i5]
   refine b6 (.ret (e6 ?_))
   obtain rfl := oi h
   exact Done.ret Z Z
  ·refine AWP.skip (b6 (.q ?_))
   obtain ⟨a19, ha19, a21, ha21, h⟩ := b2 h
   refine AWP.u (.j Z Z (.j Z Z (.callF (r2 := .c (.map 11)) (σ'' := [.one (.cells 4 [(tT t)]), .one (.cells 2 [[int 0, int 0]]), .dead, .one (.cells 2 [[int 0, int 0]]), .dead, .dead, .one (.cells 3 [[.imm (.val (.int .u32 fk2.1)), .imm (.val (.int .u32 fk2.2.1)), .own 7 0 fk2.2.2.1.length]]), .one (vec 4 d7 fk2.2.2.1), .one (.cells 2 [[int 0, int 0]]), .dead, .dead, .one (mapB vU vI a19)]) Z Z Z (FnOk.lend [6, 7] (al2 ha19) Z Z Z Z Z Z (by exact ⟨(.one Z), .vec, Y⟩) Z (by exact ⟨(.live Z (.one Z)), (.live Z .vec), Y⟩) Z Z (by exact ⟨(.old Z Z Z), (.old Z Z Z), .dead, (.old Z Z Z), .dead, .dead, (.new 0 Z Z (.one Z)), (.new 1 Z Z .vec), (.old Z Z Z), .dead, .dead, (.new 4 Z Z (.one Z)), Y⟩)) (.j Z Z (.callF (r2 := .c (.imm (.val (.int .u32 fk2.1)))) (σ'' := [.one (.cells 4 [(tT t)]), .one (.cells 2 [[int 0, int 0]]), .dead, .one (.cells 2 [[int 0, int 0]]), .dead, .dead, .one (.cells 3 [[.imm (.val (.int .u32 fk2.1)), .imm (.val (.int .u32 fk2.2.1)), .own 7 0 fk2.2.2.1.length]]), .one (vec 4 d7 fk2.2.2.1), .one (.cells 2 [[int 0, int 0]]), .dead, .dead, .one (mapB vU vI a19)]) Z Z Z (FnOk.lend [6, 7] (J2 ha21) Z Z Z Z Z Z (by exact ⟨(.one Z), .vec, Y⟩) Z (by exact ⟨(.live Z (.one Z)), (.live Z .vec), Y⟩) Z Z (by exact ⟨(.old Z Z Z), (.old Z Z Z), .dead, (.old Z Z Z), .dead, .dead, (.new 0 Z Z (.one Z)), (.new 1 Z Z .vec), (.old Z Z Z), .dead, .dead, (.old Z Z Z), Y⟩)) (W.lookup (fk := vU) (fv := vI) (k := fk2.1) (z := 0) C2 Z (fun _ => Z) Z Z Z Z ?_))))))
   refine W.build Z Z Z Z (.v Z Z (W.storeAgg Z Z Z Z Z Z Z (.nil (b6 (.ret ?_)))))
   obtain rfl := oi h
   exact Done.ret Z Z
theorem ad3 {t : d9} {op : Int} {r : Int × i9} (h : F0 t op = some r) : e8 prog 9 [.agg (tT t), .c (int op)] (.tup [.c (int r.1), .agg [int r.2.code, int r.2.index]]) := by
 unfold e8
 refine FnOk.enter (rs := [.t 4, .cell 5 27 2]) func9 Z ntmps9 results9 Z ⟨trivial, rv _ Z, Y⟩ (by kernel_rfl) Z ?_
 unfold F0 at h
 refine AWP.q (.u (W.box Z Z Z Z Z Z (.v Z Z (W.alloc Z Z Z Z (.nil (b6 (.q (.q ?_))))))))
 obtain ⟨a11, ha11, h⟩ := bind_some h
 refine AWP.u (W.loadAgg Z Z Z Z Z Z Z (.j Z Z (.F Z Z Z Z (R5 ha11) Z (W.alloc Z Z Z Z (W.storeAgg Z Z Z Z Z Z Z (.nil (b6 (.q (.u (W.loadAgg Z Z Z Z Z Z Z (W.build Z Z Z Z (.neqP Z Z Z Z Z Z Z (.nil (b6 (.ad Z h (fun hc3 h => ?_) (fun hc3 h => ?_))))))))))))))))
 ·refine AWP.q (.drawEI [2] mixed Z Z Z ?_)
  refine d6.consN Z Z (fun E => W.loadAgg Z Z Z Z Z Z Z .N) Z (.consN Z Z (fun E => AOps.v Z Z .N) Z ?_)
  apply d6.consE (v := .undef); exact Z; exact Z; intro E
  refine W.storeAgg Z Z Z Z Z Z Z .N
  exact Z
  exact Z
  refine d6.done Z ?_ ?_
  ·refine d5.cons Z Z ?_ ?_
   refine b7.go Z Z (fun E => W.loadAgg Z Z Z Z Z Z Z .N) ?_
   refine b7.skip Z (b7.nil)
   refine d5.cons Z Z ?_ ?_
   refine b7.go Z Z (fun E => AOps.v Z Z .N) ?_
   refine b7.skip Z (b7.nil)
   refine d5.skip Z (d5.nil)
  dsimp only [i5]
  refine b6 (.ret (e6 ?_))
  obtain rfl := oi h
  exact Done.ret Z Z
 ·refine AWP.skip (b6 (.q ?_))
  obtain ⟨a19, ha19, h⟩ := bind_some h
  refine AWP.u (W.loadAgg Z Z Z Z Z Z Z (.j Z Z (.F Z Z Z Z (aj5 ha19) Z (.j Z Z (.ac Z Z Z (.ac Z Z Z (W.alloc Z Z Z Z (W.alloc Z Z Z Z (W.storeAgg Z Z Z Z Z Z Z (W.storeAgg Z Z Z Z Z Z Z (.nil (b6 (.q (.q (.u (W.loadAgg Z Z Z Z Z Z Z (W.build Z Z Z Z (.neqP Z Z Z Z Z Z Z (.nil (b6 (.ad Z h (fun hc4 h => ?_) (fun hc4 h => ?_))))))))))))))))))))))
  ·refine AWP.q (.drawEI [2] mixed Z Z Z ?_)
   refine d6.consN Z Z (fun E => W.loadAgg Z Z Z Z Z Z Z .N) Z (.consN Z Z (fun E => AOps.v Z Z .N) Z ?_)
   apply d6.consE (v := .undef); exact Z; exact Z; intro E
   refine W.storeAgg Z Z Z Z Z Z Z .N
   exact Z
   exact Z
   refine d6.done Z ?_ ?_
   ·refine d5.cons Z Z ?_ ?_
    refine b7.go Z Z (fun E => W.loadAgg Z Z Z Z Z Z Z .N) ?_
    refine b7.skip Z (b7.nil)
    refine d5.cons Z Z ?_ ?_
    refine b7.go Z Z (fun E => AOps.v Z Z .N) ?_
    refine b7.skip Z (b7.nil)
    refine d5.skip Z (d5.nil)
   dsimp only [i5]
   refine b6 (.ret (e6 ?_))
   obtain rfl := oi h
   exact Done.ret Z Z
  ·refine AWP.skip (b6 (.q ?_))
   obtain ⟨a27, ha27, h⟩ := bind_some h
   refine AWP.u (W.loadAgg Z Z Z Z Z Z Z (.F Z Z Z Z (M1 ha27) Z (.ac Z Z Z (.ac Z Z Z (.v Z Z (W.storeAgg Z Z Z Z Z Z Z (.nil (b6 (.ret ?_)))))))))
   obtain rfl := oi h
   exact Done.ret Z Z
theorem aj1 {t : d9} {r : (List Int) × (List Int) × (List f5)} (h : L6 t = some r) : FnOk prog 49 [.agg (tT t)] (Y2 t) (fun tt ss => tt = .agg [int t.facts, .own 2 0 r.1.length, .own 3 0 r.2.1.length, .own 5 0 r.2.2.length] ∧ ss = [.dead, .one (.cells 4 [[int t.facts, .own 2 0 r.1.length, .own 3 0 r.2.1.length, .own 5 0 r.2.2.length]]), .one (vec 1 intI r.1), .one (vec 1 intI r.2.1), .dead, .one (vec 4 i3 r.2.2)]) := by
 refine FnOk.enter (rs := [.cell 2 25 4]) func49 Z ntmps49 results49 Z ⟨rv _ Z, Y⟩ (by kernel_rfl) Z ?_
 refine AWP.weak ?_
 unfold L6 at h
 refine AWP.q (.u (W.box Z Z Z Z Z Z (W.alloc Z Z Z Z (.nil (b6 (.q ?_))))))
 obtain ⟨a10, ha10, a13, ha13, h⟩ := b2 h
 refine AWP.sub (s' := ⟨[(0, .agg (tT t)), (1, .c (.ptr 0 0 0)), (2, .c (.ptr 1 0 0))], [.one (.cells 4 [(tT t)]), .one (.cells 4 [[int 0, .imm (.val nL), .imm (.val nL), .imm (.val nL)]]), .dead, .dead, .dead]⟩) (Sub.cut ⟨Z, Z, Z, Y⟩ Z ⟨.one Z, .one Z, .dead, .dead, .dead, Y⟩ Z) (.drawTI [.c (.ptr 0 0 0), .c (int t.facts), .c (.ptr 0 0 1), .c (row 1 intI t.init), .c (.own 2 0 a10.length), .c (.ptr 0 0 2), .c (row 1 intI t.goal), .c (.own 3 0 a13.length), .agg [int t.facts, .own 2 0 a10.length, .own 3 0 a13.length, .imm (.val nL)], .c (.ptr 4 0 0), .undef] [4, 7, 9, 10] [([], [.one (.cells 4 [(tT t)]), .one (.cells 4 [[int 0, .imm (.val nL), .imm (.val nL), .imm (.val nL)]]), .dead, .dead, .dead]), ([4], [.one (.cells 4 [(tT t)]), .one (.cells 4 [[int 0, .imm (.val nL), .imm (.val nL), .imm (.val nL)]]), .one (vec 1 intI a10), .dead, .dead]), ([4, 7], [.one (.cells 4 [(tT t)]), .one (.cells 4 [[int 0, .imm (.val nL), .imm (.val nL), .imm (.val nL)]]), .one (vec 1 intI a10), .one (vec 1 intI a13), .dead]), ([9], [.one (.cells 4 [(tT t)]), .one (.cells 4 [[int 0, .imm (.val nL), .imm (.val nL), .imm (.val nL)]]), .dead, .dead, .one (.cells 4 [[int 0, .imm (.val nL), .imm (.val nL), .imm (.val nL)]])]), ([4, 9], [.one (.cells 4 [(tT t)]), .one (.cells 4 [[int 0, .imm (.val nL), .imm (.val nL), .imm (.val nL)]]), .one (vec 1 intI a10), .dead, .one (.cells 4 [[int 0, .imm (.val nL), .imm (.val nL), .imm (.val nL)]])]), ([4, 7, 9], [.one (.cells 4 [(tT t)]), .one (.cells 4 [[int 0, .imm (.val nL), .imm (.val nL), .imm (.val nL)]]), .one (vec 1 intI a10), .one (vec 1 intI a13), .one (.cells 4 [[int 0, .imm (.val nL), .imm (.val nL), .imm (.val nL)]])]), ([4, 7, 9, 10], [.one (.cells 4 [(tT t)]), .one (.cells 4 [[int 0, .imm (.val nL), .imm (.val nL), .imm (.val nL)]]), .one (vec 1 intI a10), .one (vec 1 intI a13), .one (.cells 4 [[int t.facts, .own 2 0 a10.length, .own 3 0 a13.length, .imm (.val nL)]])])] [.one (.cells 4 [(tT t)]), .one (.cells 4 [[int 0, .imm (.val nL), .imm (.val nL), .imm (.val nL)]]), .one (vec 1 intI a10), .one (vec 1 intI a13), .one (.cells 4 [[int t.facts, .own 2 0 a10.length, .own 3 0 a13.length, .imm (.val nL)]])] mixed Z Z Z Z Z ?_ ?_)
 ·refine x4.cons ?_ ?_
  ·apply d8.go; exact Z; exact Z; exact Z; intro E hE; (refine W.fieldAddr Z Z Z Z ?_); exact AOps.nil ⟨Z, Z⟩
   apply d8.go; exact Z; exact Z; exact Z; intro E hE; (refine AOps.E Z Z Z Z Z Z ?_); exact AOps.nil ⟨Z, Z⟩
   apply d8.go; exact Z; exact Z; exact Z; intro E hE; (refine W.fieldAddr Z Z Z Z ?_); exact AOps.nil ⟨Z, Z⟩
   apply d8.go; exact Z; exact Z; exact Z; intro E hE; (refine AOps.E Z Z Z Z Z Z ?_); exact AOps.nil ⟨Z, Z⟩
   apply d8.eff; exact Z; exact Z; exact Z; exact Z; intro E hE; (refine AOps.newAt 2 (.c (.own 2 0 a10.length)) (vec 1 intI a10) (.inl Z) Z hE Z Z Z Z (.vec) (.vec) Z Z Z ⟨.one Z, .one Z, .dead, .dead, .dead, Y⟩ (fun hh => by (refine S.fresh Z Z Z Z (h9 ha10) Z Z ?_; exact hh)) ?_); exact AOps.nil ⟨Z, Z⟩
   apply d8.go; exact Z; exact Z; exact Z; intro E hE; (refine W.fieldAddr Z Z Z Z ?_); exact AOps.nil ⟨Z, Z⟩
   apply d8.go; exact Z; exact Z; exact Z; intro E hE; (refine AOps.E Z Z Z Z Z Z ?_); exact AOps.nil ⟨Z, Z⟩
   refine d8.no Z (d8.no Z ?_)
   apply d8.eff; exact Z; exact Z; exact Z; exact Z; intro E hE; (refine AOps.allocAt 4 hE Z Z Z Z Z Z Z ⟨.one Z, .one Z, .dead, .dead, .dead, Y⟩ Z ?_); exact AOps.nil ⟨Z, Z⟩
   refine d8.no Z (d8.nil)
  refine x4.cons ?_ ?_
  ·apply d8.go; exact Z; exact Z; exact Z; intro E hE; (refine W.fieldAddr Z Z Z Z ?_); exact AOps.nil ⟨Z, Z⟩
   apply d8.go; exact Z; exact Z; exact Z; intro E hE; (refine AOps.E Z Z Z Z Z Z ?_); exact AOps.nil ⟨Z, Z⟩
   refine d8.no Z (d8.no Z (d8.no Z ?_))
   apply d8.go; exact Z; exact Z; exact Z; intro E hE; (refine W.fieldAddr Z Z Z Z ?_); exact AOps.nil ⟨Z, Z⟩
   apply d8.go; exact Z; exact Z; exact Z; intro E hE; (refine AOps.E Z Z Z Z Z Z ?_); exact AOps.nil ⟨Z, Z⟩
   apply d8.eff; exact Z; exact Z; exact Z; exact Z; intro E hE; (refine AOps.newAt 3 (.c (.own 3 0 a13.length)) (vec 1 intI a13) (.inl Z) Z hE Z Z Z Z (.vec) (.vec) Z Z Z ⟨.one Z, .one Z, .vec, .dead, .dead, Y⟩ (fun hh => by (refine S.fresh Z Z Z Z (h9 ha13) Z Z ?_; exact hh)) ?_); exact AOps.nil ⟨Z, Z⟩
   refine d8.no Z ?_
   apply d8.eff; exact Z; exact Z; exact Z; exact Z; intro E hE; (refine AOps.allocAt 4 hE Z Z Z Z Z Z Z ⟨.one Z, .one Z, .vec, .dead, .dead, Y⟩ Z ?_); exact AOps.nil ⟨Z, Z⟩
   refine d8.no Z (d8.nil)
  refine x4.cons ?_ ?_
  ·apply d8.go; exact Z; exact Z; exact Z; intro E hE; (refine W.fieldAddr Z Z Z Z ?_); exact AOps.nil ⟨Z, Z⟩
   apply d8.go; exact Z; exact Z; exact Z; intro E hE; (refine AOps.E Z Z Z Z Z Z ?_); exact AOps.nil ⟨Z, Z⟩
   refine d8.no Z (d8.no Z (d8.no Z (d8.no Z (d8.no Z (d8.no Z ?_)))))
   apply d8.go; exact Z; exact Z; exact Z; intro E hE; (refine W.build Z Z Z Z ?_); exact AOps.nil ⟨Z, Z⟩
   apply d8.eff; exact Z; exact Z; exact Z; exact Z; intro E hE; (refine AOps.allocAt 4 hE Z Z Z Z Z Z Z ⟨.one Z, .one Z, .vec, .vec, .dead, Y⟩ Z ?_); exact AOps.nil ⟨Z, Z⟩
   refine d8.no Z (d8.nil)
  refine x4.cons ?_ ?_
  ·apply d8.go; exact Z; exact Z; exact Z; intro E hE; (refine W.fieldAddr Z Z Z Z ?_); exact AOps.nil ⟨Z, Z⟩
   apply d8.go; exact Z; exact Z; exact Z; intro E hE; (refine AOps.E Z Z Z Z Z Z ?_); exact AOps.nil ⟨Z, Z⟩
   apply d8.go; exact Z; exact Z; exact Z; intro E hE; (refine W.fieldAddr Z Z Z Z ?_); exact AOps.nil ⟨Z, Z⟩
   apply d8.go; exact Z; exact Z; exact Z; intro E hE; (refine AOps.E Z Z Z Z Z Z ?_); exact AOps.nil ⟨Z, Z⟩
   apply d8.eff; exact Z; exact Z; exact Z; exact Z; intro E hE; (refine AOps.newAt 2 (.c (.own 2 0 a10.length)) (vec 1 intI a10) (.inl Z) Z hE Z Z Z Z (.vec) (.vec) Z Z Z ⟨.one Z, .one Z, .dead, .dead, .one Z, Y⟩ (fun hh => by (refine S.fresh Z Z Z Z (h9 ha10) Z Z ?_; exact hh)) ?_); exact AOps.nil ⟨Z, Z⟩
   apply d8.go; exact Z; exact Z; exact Z; intro E hE; (refine W.fieldAddr Z Z Z Z ?_); exact AOps.nil ⟨Z, Z⟩
   apply d8.go; exact Z; exact Z; exact Z; intro E hE; (refine AOps.E Z Z Z Z Z Z ?_); exact AOps.nil ⟨Z, Z⟩
   refine d8.no Z (d8.no Z (d8.no Z (d8.no Z (d8.nil))))
  refine x4.cons ?_ ?_
  ·apply d8.go; exact Z; exact Z; exact Z; intro E hE; (refine W.fieldAddr Z Z Z Z ?_); exact AOps.nil ⟨Z, Z⟩
   apply d8.go; exact Z; exact Z; exact Z; intro E hE; (refine AOps.E Z Z Z Z Z Z ?_); exact AOps.nil ⟨Z, Z⟩
   refine d8.no Z (d8.no Z (d8.no Z ?_))
   apply d8.go; exact Z; exact Z; exact Z; intro E hE; (refine W.fieldAddr Z Z Z Z ?_); exact AOps.nil ⟨Z, Z⟩
   apply d8.go; exact Z; exact Z; exact Z; intro E hE; (refine AOps.E Z Z Z Z Z Z ?_); exact AOps.nil ⟨Z, Z⟩
   apply d8.eff; exact Z; exact Z; exact Z; exact Z; intro E hE; (refine AOps.newAt 3 (.c (.own 3 0 a13.length)) (vec 1 intI a13) (.inl Z) Z hE Z Z Z Z (.vec) (.vec) Z Z Z ⟨.one Z, .one Z, .vec, .dead, .one Z, Y⟩ (fun hh => by (refine S.fresh Z Z Z Z (h9 ha13) Z Z ?_; exact hh)) ?_); exact AOps.nil ⟨Z, Z⟩
   refine d8.no Z (d8.no Z (d8.no Z (d8.nil)))
  refine x4.cons ?_ ?_
  ·apply d8.go; exact Z; exact Z; exact Z; intro E hE; (refine W.fieldAddr Z Z Z Z ?_); exact AOps.nil ⟨Z, Z⟩
   apply d8.go; exact Z; exact Z; exact Z; intro E hE; (refine AOps.E Z Z Z Z Z Z ?_); exact AOps.nil ⟨Z, Z⟩
   refine d8.no Z (d8.no Z (d8.no Z (d8.no Z (d8.no Z (d8.no Z ?_)))))
   apply d8.go; exact Z; exact Z; exact Z; intro E hE; (refine W.build Z Z Z Z ?_); exact AOps.nil ⟨Z, Z⟩
   refine d8.no Z ?_
   apply d8.eff; exact Z; exact Z; exact Z; exact Z; intro E hE; (refine W.storeAgg Z Z Z Z Z Z Z ?_); exact AOps.nil ⟨Z, Z⟩
   exact d8.nil
  refine x4.cons ?_ ?_
  ·refine d8.no Z (d8.no Z (d8.no Z (d8.no Z (d8.no Z (d8.no Z (d8.no Z (d8.no Z (d8.no Z (d8.no Z (d8.no Z (d8.nil)))))))))))
  exact x4.nil
 dsimp only [i5]
 refine b6 (.q (.q (.u (W.fieldAddr Z Z Z Z (.E Z Z Z Z Z Z (S.len Z Z (fun hl17 => .j Z Z (.nil (b6 (.aa (.virtB 4 i3 (b := 4) (o := 3) Z Z Z Z Z Z ?_)))))))))))
 obtain ⟨c55, ho1, h⟩ := bind_some h
 refine AWP.forS ho1 (fun t56 c55 => ⟨[(2, .c (.ptr 1 0 0)), (3, .c (.ptr 4 0 0)), (16, .c (row 4 i3 t.operators)), (17, .c (int (t.operators.length : Int))), (18, .c (int t56))], [.dead, .one (.cells 4 [[int 0, .imm (.val nL), .imm (.val nL), .imm (.val nL)]]), .one (vec 1 intI a10), .one (vec 1 intI a13), .one (.cells 4 [[int t.facts, .own 2 0 a10.length, .own 3 0 a13.length, .own 5 0 c55.length]]), .one (vec 4 i3 c55)]⟩) (fun c55 e st => e = .exit 0 ∧ Sub (Y2 t) st ⟨[(2, .c (.ptr 1 0 0)), (3, .c (.ptr 4 0 0))], [.dead, .one (.cells 4 [[int 0, .imm (.val nL), .imm (.val nL), .imm (.val nL)]]), .one (vec 1 intI a10), .one (vec 1 intI a13), .one (.cells 4 [[int t.facts, .own 2 0 a10.length, .own 3 0 a13.length, .own 5 0 c55.length]]), .one (vec 4 i3 c55)]⟩) ?_ ?_ ?_ ?_
 ·try dsimp only
  exact Sub.cut ⟨Z, Z, Z, Z, Z, Y⟩ Z ⟨.dead, .one Z, .vec, .vec, (.eq Z (by first | rfl | (simp only [List.length_set]; done))), .vec, Y⟩ Z
 ·intro t56 c55 hlot56 hltt56 _
  try dsimp only
  refine AWP.q (.u (.J Z Z Z (.nil (b6 (.q (.ag Z hltt56 (.exit (e7 (e7 ⟨Z, ?_⟩)))))))))
  exact Sub.env ⟨Z, Z, Y⟩
 ·intro t56 c55 o hlot56 hltt56 h
  unfold Y3 at h
  try dsimp only at h ⊢
  refine AWP.q (.u (.J Z Z Z (.nil (b6 (.q (.ah Z hltt56 (.skip (b6 (.q (.aa (.q ?_)))))))))))
  obtain ⟨a20, ha20, h⟩ := bind_some h
  refine AWP.u (S.idx ha20 Z Z Z Z (W.loadIAgg Z Z Z Z Z (W.alloc Z Z Z Z (W.storeAgg Z Z Z Z Z Z Z (.nil (b6 ?_))))))
  obtain ⟨a26, ha26, a29, ha29, a32, ha32, h⟩ := b3 h
  obtain ⟨a37, ha37, h⟩ := bind_some h
  refine AWP.drawEI [14, 15, 17] mixed Z Z Z ?_
  refine d6.consN Z Z (fun E => W.fieldAddr Z Z Z Z .N) Z (.consN Z Z (fun E => AOps.E Z Z Z Z Z Z .N) Z (.consN Z Z (fun E => W.fieldAddr Z Z Z Z .N) Z (.consN Z Z (fun E => AOps.E Z Z Z Z Z Z .N) Z (.consN Z Z (fun E => AOps.F Z Z Z Z (n5.data (h9 ha26)) Z .N) Z (.consN Z Z (fun E => W.fieldAddr Z Z Z Z .N) Z (.consN Z Z (fun E => AOps.E Z Z Z Z Z Z .N) Z (.consN Z Z (fun E => AOps.F Z Z Z Z (n5.data (h9 ha29)) Z .N) Z (.consN Z Z (fun E => W.fieldAddr Z Z Z Z .N) Z (.consN Z Z (fun E => AOps.E Z Z Z Z Z Z .N) Z (.consN Z Z (fun E => AOps.F Z Z Z Z (n5.data (h9 ha32)) Z .N) Z (.consN Z Z (fun E => W.fieldAddr Z Z Z Z .N) Z (.consN Z Z (fun E => AOps.E Z Z Z Z Z Z .N) Z (.consN Z Z (fun E => W.build Z Z Z Z .N) Z ?_)))))))))))))
  apply d6.consE; exact Z; exact Z; intro E
  refine S.lit (f := i3) (l := [(⟨a26, a29, a32, a20.cost⟩ : f5)]) (ess := [[row 1 intI a26, row 1 intI a29, row 1 intI a32, int a20.cost]]) Z Z Z Z Z Z Z ⟨⟨.inl Z, .inl Z, .inl Z, .inl Z, Y⟩, Y⟩ Z Z Z .N
  exact Z
  exact Z
  apply d6.consE; exact Z; exact Z; intro E
  refine S.append (f := i3) ha37 Z Z Z Z Z Z (.own Z Z) Z Z Z Z .N
  exact Z
  exact Z
  refine d6.consN Z Z (fun E => W.fieldAddr Z Z Z Z .N) Z ?_
  apply d6.consE (v := .undef); exact Z; exact Z; intro E
  refine W.store Z Z Z Z Z .N
  exact Z
  exact Z
  refine d6.done Z ?_ ?_
  ·refine d5.cons Z Z ?_ ?_
   refine b7.go Z Z (fun E => W.fieldAddr Z Z Z Z .N) ?_
   refine b7.go Z Z (fun E => W.fieldAddr Z Z Z Z .N) ?_
   refine b7.skip Z (b7.skip Z (b7.nil))
   refine d5.cons Z Z ?_ ?_
   refine b7.go Z Z (fun E => AOps.E Z Z Z Z Z Z .N) ?_
   refine b7.go Z Z (fun E => AOps.E Z Z Z Z Z Z .N) ?_
   refine b7.skip Z (b7.skip Z (b7.nil))
   refine d5.cons Z Z ?_ ?_
   refine b7.go Z Z (fun E => W.fieldAddr Z Z Z Z .N) ?_
   refine b7.skip Z (b7.skip Z (b7.skip Z (b7.nil)))
   refine d5.cons Z Z ?_ ?_
   refine b7.go Z Z (fun E => AOps.E Z Z Z Z Z Z .N) ?_
   refine b7.skip Z (b7.skip Z (b7.skip Z (b7.nil)))
   refine d5.cons Z Z ?_ ?_
   refine b7.go Z Z (fun E => AOps.F Z Z Z Z (n5.data (h9 ha26)) Z .N) ?_
   refine b7.skip Z (b7.skip Z (b7.skip Z (b7.nil)))
   refine d5.cons Z Z ?_ ?_
   refine b7.go Z Z (fun E => W.fieldAddr Z Z Z Z .N) ?_
   refine b7.skip Z (b7.skip Z (b7.skip Z (b7.nil)))
   refine d5.cons Z Z ?_ ?_
   refine b7.go Z Z (fun E => AOps.E Z Z Z Z Z Z .N) ?_
   refine b7.skip Z (b7.skip Z (b7.skip Z (b7.nil)))
   refine d5.cons Z Z ?_ ?_
   refine b7.go Z Z (fun E => AOps.F Z Z Z Z (n5.data (h9 ha29)) Z .N) ?_
   refine b7.skip Z (b7.skip Z (b7.skip Z (b7.nil)))
   refine d5.cons Z Z ?_ ?_
   refine b7.go Z Z (fun E => W.fieldAddr Z Z Z Z .N) ?_
   refine b7.skip Z (b7.skip Z (b7.skip Z (b7.nil)))
   refine d5.cons Z Z ?_ ?_
   refine b7.go Z Z (fun E => AOps.E Z Z Z Z Z Z .N) ?_
   refine b7.skip Z (b7.skip Z (b7.skip Z (b7.nil)))
   refine d5.cons Z Z ?_ ?_
   refine b7.go Z Z (fun E => AOps.F Z Z Z Z (n5.data (h9 ha32)) Z .N) ?_
   refine b7.skip Z (b7.skip Z (b7.skip Z (b7.nil)))
   refine d5.cons Z Z ?_ ?_
   refine b7.go Z Z (fun E => W.fieldAddr Z Z Z Z .N) ?_
   refine b7.skip Z (b7.skip Z (b7.skip Z (b7.nil)))
   refine d5.cons Z Z ?_ ?_
   refine b7.go Z Z (fun E => AOps.E Z Z Z Z Z Z .N) ?_
   refine b7.skip Z (b7.skip Z (b7.skip Z (b7.nil)))
   refine d5.cons Z Z ?_ ?_
   refine b7.go Z Z (fun E => W.build Z Z Z Z .N) ?_
   refine b7.skip Z (b7.skip Z (b7.skip Z (b7.nil)))
   refine d5.skip Z (d5.skip Z ?_)
   refine d5.cons Z Z ?_ ?_
   refine b7.skip Z (b7.skip Z ?_)
   refine b7.go Z Z (fun E => W.fieldAddr Z Z Z Z .N) ?_
   refine b7.skip Z (b7.nil)
   refine d5.skip Z (d5.nil)
  dsimp only [i5]
  refine e9 (b6 (.j (env' := [(2, .c (.ptr 1 0 0)), (3, .c (.ptr 4 0 0)), (16, .c (row 4 i3 t.operators)), (17, .c (int (t.operators.length : Int))), (18, .c (int t56))]) (σ' := [.dead, .one (.cells 4 [[int 0, .imm (.val nL), .imm (.val nL), .imm (.val nL)]]), .one (vec 1 intI a10), .one (vec 1 intI a13), .one (.cells 4 [[int t.facts, .own 2 0 a10.length, .own 3 0 a13.length, .own 5 0 a37.length]]), .one (vec 4 i3 a37), .one (.cells 4 [[row 1 intI a20.pre, row 1 intI a20.add, row 1 intI a20.del, int a20.cost]]), .one (vec 4 i3 [(⟨a26, a29, a32, a20.cost⟩ : f5)])]) 5 8 Z Z Z ⟨Z, Z, Z, Z, Z, Y⟩ Z ⟨trivial, ⟨Z, Z⟩, ⟨Blk.im_ok _ _ _, f7 Z⟩, ⟨Blk.im_ok _ _ _, f7 Z⟩, ⟨Z, Z⟩, ⟨Blk.im_ok _ _ _, f7 Z⟩, ⟨Z, Z⟩, ⟨Blk.im_ok _ _ _, f7 Z⟩, Y⟩ (.u (.add Z Z Z (by omega) (.j Z Z (.nil ?_))))))
  obtain rfl := oi h
  refine b6 (Sub.cut ⟨Z, Z, Z, Z, Z, Y⟩ Z ⟨.dead, .one Z, .vec, .vec, .one Z, .vec, Y⟩ Z)
 ·intro e s hq
  obtain ⟨rfl, hs⟩ := hq
  refine ⟨_, hs, ?_⟩
  refine j7 (b6 (.q (.u (W.loadAgg Z Z Z Z Z Z Z (W.storeAgg Z Z Z Z Z Z Z (.nil (b6 (.ret ?_))))))))
  obtain rfl := oi h
  exact ⟨⟨[(2, .c (.ptr 1 0 0))], [.dead, .one (.cells 4 [[int t.facts, .own 2 0 a10.length, .own 3 0 a13.length, .own 5 0 c55.length]]), .one (vec 1 intI a10), .one (vec 1 intI a13), .dead, .one (vec 4 i3 c55)]⟩, Sub.cut ⟨Z, Y⟩ Z ⟨.dead, .one Z, .vec, .vec, .dead, .vec, Y⟩ Z, Done.ret Z ⟨Z, Z⟩⟩
theorem ak9 {t : d9} {op : Int} {r : d9 × i9} (h : K4 t op = some r) : e8 prog 30 [.agg (tT t), .c (int op)] (.tup [.agg (tT r.1), .agg [int r.2.code, int r.2.index]]) := by
 unfold e8
 refine FnOk.enter (rs := [.cell 4 25 4, .cell 5 27 2]) func30 Z ntmps30 results30 Z ⟨rv _ Z, rv _ Z, Y⟩ (by kernel_rfl) Z ?_
 unfold K4 at h
 refine AWP.q (.u (W.box Z Z Z Z Z Z (W.alloc Z Z Z Z (W.alloc Z Z Z Z (.nil (b6 (.q (.q ?_))))))))
 obtain ⟨a10, ha10, h⟩ := bind_some h
 refine AWP.u (W.loadAgg Z Z Z Z Z Z Z (.j Z Z (.F Z Z Z Z (R4 ha10) Z (W.alloc Z Z Z Z (W.storeAgg Z Z Z Z Z Z Z (.nil (b6 (.q (.u (W.loadAgg Z Z Z Z Z Z Z (W.build Z Z Z Z (.neqP Z Z Z Z Z Z Z (.nil (b6 (.ad Z h (fun hc3 h => ?_) (fun hc3 h => ?_))))))))))))))))
 ·refine AWP.q (.drawEI [2, 3] mixed Z Z Z ?_)
  refine d6.consN Z Z (fun E => W.build Z Z Z Z .N) Z (.consN Z Z (fun E => W.loadAgg Z Z Z Z Z Z Z .N) Z ?_)
  apply d6.consE (v := .undef); exact Z; exact Z; intro E
  refine W.storeAgg Z Z Z Z Z Z Z .N
  exact Z
  exact Z
  apply d6.consE (v := .undef); exact Z; exact Z; intro E
  refine W.storeAgg Z Z Z Z Z Z Z .N
  exact Z
  exact Z
  refine d6.done Z ?_ ?_
  ·refine d5.cons Z Z ?_ ?_
   refine b7.go Z Z (fun E => W.build Z Z Z Z .N) ?_
   refine b7.skip Z (b7.skip Z (b7.nil))
   refine d5.cons Z Z ?_ ?_
   refine b7.go Z Z (fun E => W.loadAgg Z Z Z Z Z Z Z .N) ?_
   refine b7.go Z Z (fun E => W.loadAgg Z Z Z Z Z Z Z .N) ?_
   refine b7.skip Z (b7.nil)
   refine d5.skip Z (d5.skip Z (d5.nil))
  dsimp only [i5]
  refine b6 (.nilB (b := 1) [int 0, row 1 intI [], row 1 intI [], row 4 i3 []] Z (by exact ⟨.inl Z, .inr ⟨Z, _, Z⟩, .inr ⟨Z, _, Z⟩, .inr ⟨Z, _, Z⟩, Y⟩) Z Z (.ret (e6 ?_)))
  obtain rfl := oi h
  exact Done.ret Z Z
 ·refine AWP.skip (b6 (.q ?_))
  obtain ⟨a17, ha17, h⟩ := bind_some h
  refine AWP.u (W.loadAgg Z Z Z Z Z Z Z (.callF (r2 := .agg [int t.facts, .own 6 0 a17.1.length, .own 7 0 a17.2.1.length, .own 9 0 a17.2.2.length]) (σ'' := [.one (.cells 4 [(tT t)]), .one (.cells 4 [[int 0, .imm (.val nL), .imm (.val nL), .imm (.val nL)]]), .one (.cells 2 [[int 0, int 0]]), .one (.cells 2 [[int a10.code, int a10.index]]), .dead, .one (.cells 4 [[int t.facts, .own 6 0 a17.1.length, .own 7 0 a17.2.1.length, .own 9 0 a17.2.2.length]]), .one (vec 1 intI a17.1), .one (vec 1 intI a17.2.1), .dead, .one (vec 4 i3 a17.2.2)]) Z Z Z (FnOk.lend [] (aj1 ha17) Z Z Z Z Z Z (by exact trivial) Z (by exact trivial) Z Z (by exact ⟨(.old Z Z Z), (.old Z Z Z), (.old Z Z Z), (.old Z Z Z), .dead, (.new 1 Z Z (.one Z)), (.new 2 Z Z .vec), (.new 3 Z Z .vec), .dead, (.new 5 Z Z .vec), Y⟩)) (W.alloc Z Z Z Z (W.storeAgg Z Z Z Z Z Z Z (.nil (b6 (.q ?_)))))))
  obtain ⟨a23, ha23, h⟩ := bind_some h
  refine AWP.u (W.fieldAddr Z Z Z Z (.E Z Z Z Z Z Z (.j Z Z (.j Z Z (S.add Z Z Z (S.delete (f := i3) ha23 Z Z Z Z Z Z Z Z (W.fieldAddr Z Z Z Z (W.store Z Z Z Z Z (.nil (b6 (.q (.j (env' := [(4, .c (.ptr 1 0 0)), (5, .c (.ptr 2 0 0)), (7, .c (.ptr 10 0 0))]) (σ' := [.one (.cells 4 [(tT t)]), .one (.cells 4 [[int 0, .imm (.val nL), .imm (.val nL), .imm (.val nL)]]), .one (.cells 2 [[int 0, int 0]]), .one (.cells 2 [[int a10.code, int a10.index]]), .dead, .dead, .one (vec 1 intI a17.1), .one (vec 1 intI a17.2.1), .dead, .one (vec 4 i3 a23), .one (.cells 4 [[int t.facts, .own 6 0 a17.1.length, .own 7 0 a17.2.1.length, .own 9 0 a23.length]])]) 9 11 Z Z Z ⟨Z, Z, Z, Y⟩ Z ⟨⟨Z, Z⟩, ⟨Z, Z⟩, ⟨Z, Z⟩, ⟨Z, Z⟩, trivial, trivial, ⟨Blk.im_ok _ _ _, f7 Z⟩, ⟨Blk.im_ok _ _ _, f7 Z⟩, trivial, ⟨Blk.im_ok _ _ _, f7 Z⟩, ⟨Z, Z⟩, Y⟩ (.u (W.loadAgg Z Z Z Z Z Z Z (W.build Z Z Z Z (W.storeAgg Z Z Z Z Z Z Z (W.storeAgg Z Z Z Z Z Z Z (.nil (b6 (.frzV (id := 6) (l := a17.1) (env2 := [(4, .c (.ptr 1 0 0)), (5, .c (.ptr 2 0 0))]) (σ2 := [.one (.cells 4 [(tT t)]), .one (.cells 4 [[int t.facts, row 1 intI a17.1, .own 7 0 a17.2.1.length, .own 9 0 a23.length]]), .one (.cells 2 [[int 0, int 0]]), .one (.cells 2 [[int a10.code, int a10.index]]), .dead, .dead, .dead, .one (vec 1 intI a17.2.1), .dead, .one (vec 4 i3 a23), .one (.cells 4 [[int t.facts, row 1 intI a17.1, .own 7 0 a17.2.1.length, .own 9 0 a23.length]])]) Z Z (by exact ⟨⟨_, Z, .inl ⟨Z, Z⟩⟩, ⟨_, Z, .inl ⟨Z, Z⟩⟩, Y⟩) Z (by exact ⟨⟨Z, .inl ⟨Z, Z⟩, .inl ⟨Z, Z⟩, .inl ⟨Z, Z⟩, .inl ⟨Z, Z⟩, Y⟩, ⟨Z, .inl ⟨Z, Z⟩, .inr ⟨_, Z, Z, Z⟩, .inl ⟨Z, Z⟩, .inl ⟨Z, Z⟩, Y⟩, ⟨Z, .inl ⟨Z, Z⟩, .inl ⟨Z, Z⟩, Y⟩, ⟨Z, .inl ⟨Z, Z⟩, .inl ⟨Z, Z⟩, Y⟩, trivial, trivial, trivial, FrzB.vec, trivial, FrzB.vec, ⟨Z, .inl ⟨Z, Z⟩, .inr ⟨_, Z, Z, Z⟩, .inl ⟨Z, Z⟩, .inl ⟨Z, Z⟩, Y⟩, Y⟩) (.frzV (id := 7) (l := a17.2.1) (env2 := [(4, .c (.ptr 1 0 0)), (5, .c (.ptr 2 0 0))]) (σ2 := [.one (.cells 4 [(tT t)]), .one (.cells 4 [[int t.facts, row 1 intI a17.1, row 1 intI a17.2.1, .own 9 0 a23.length]]), .one (.cells 2 [[int 0, int 0]]), .one (.cells 2 [[int a10.code, int a10.index]]), .dead, .dead, .dead, .dead, .dead, .one (vec 4 i3 a23), .one (.cells 4 [[int t.facts, row 1 intI a17.1, row 1 intI a17.2.1, .own 9 0 a23.length]])]) Z Z (by exact ⟨⟨_, Z, .inl ⟨Z, Z⟩⟩, ⟨_, Z, .inl ⟨Z, Z⟩⟩, Y⟩) Z (by exact ⟨⟨Z, .inl ⟨Z, Z⟩, .inl ⟨Z, Z⟩, .inl ⟨Z, Z⟩, .inl ⟨Z, Z⟩, Y⟩, ⟨Z, .inl ⟨Z, Z⟩, .inl ⟨Z, Z⟩, .inr ⟨_, Z, Z, Z⟩, .inl ⟨Z, Z⟩, Y⟩, ⟨Z, .inl ⟨Z, Z⟩, .inl ⟨Z, Z⟩, Y⟩, ⟨Z, .inl ⟨Z, Z⟩, .inl ⟨Z, Z⟩, Y⟩, trivial, trivial, trivial, trivial, trivial, FrzB.vec, ⟨Z, .inl ⟨Z, Z⟩, .inl ⟨Z, Z⟩, .inr ⟨_, Z, Z, Z⟩, .inl ⟨Z, Z⟩, Y⟩, Y⟩) (.frzV (id := 9) (l := a23) (env2 := [(4, .c (.ptr 1 0 0)), (5, .c (.ptr 2 0 0))]) (σ2 := [.one (.cells 4 [(tT t)]), .one (.cells 4 [[int t.facts, row 1 intI a17.1, row 1 intI a17.2.1, row 4 i3 a23]]), .one (.cells 2 [[int 0, int 0]]), .one (.cells 2 [[int a10.code, int a10.index]]), .dead, .dead, .dead, .dead, .dead, .dead, .one (.cells 4 [[int t.facts, row 1 intI a17.1, row 1 intI a17.2.1, row 4 i3 a23]])]) Z Z (by exact ⟨⟨_, Z, .inl ⟨Z, Z⟩⟩, ⟨_, Z, .inl ⟨Z, Z⟩⟩, Y⟩) Z (by exact ⟨⟨Z, .inl ⟨Z, Z⟩, .inl ⟨Z, Z⟩, .inl ⟨Z, Z⟩, .inl ⟨Z, Z⟩, Y⟩, ⟨Z, .inl ⟨Z, Z⟩, .inl ⟨Z, Z⟩, .inl ⟨Z, Z⟩, .inr ⟨_, Z, Z, Z⟩, Y⟩, ⟨Z, .inl ⟨Z, Z⟩, .inl ⟨Z, Z⟩, Y⟩, ⟨Z, .inl ⟨Z, Z⟩, .inl ⟨Z, Z⟩, Y⟩, trivial, trivial, trivial, trivial, trivial, trivial, ⟨Z, .inl ⟨Z, Z⟩, .inl ⟨Z, Z⟩, .inl ⟨Z, Z⟩, .inr ⟨_, Z, Z, Z⟩, Y⟩, Y⟩) (.ret ?_)))))))))))))))))))))))
  obtain rfl := oi h
  exact Done.ret Z Z
theorem O0 {t : d9} {op : Int} {r : Int × i9} (h : w8 t op = some r) : e8 prog 10 [.agg (tT t), .c (int op)] (.tup [.c (int r.1), .agg [int r.2.code, int r.2.index]]) := by
 unfold e8
 refine FnOk.enter (rs := [.t 4, .cell 5 27 2]) func10 Z ntmps10 results10 Z ⟨trivial, rv _ Z, Y⟩ (by kernel_rfl) Z ?_
 unfold w8 at h
 refine AWP.q (.u (W.box Z Z Z Z Z Z (.v Z Z (W.alloc Z Z Z Z (.nil (b6 (.q (.q ?_))))))))
 obtain ⟨a11, ha11, h⟩ := bind_some h
 refine AWP.u (W.loadAgg Z Z Z Z Z Z Z (.j Z Z (.F Z Z Z Z (R5 ha11) Z (W.alloc Z Z Z Z (W.storeAgg Z Z Z Z Z Z Z (.nil (b6 (.q (.u (W.loadAgg Z Z Z Z Z Z Z (W.build Z Z Z Z (.neqP Z Z Z Z Z Z Z (.nil (b6 (.ad Z h (fun hc3 h => ?_) (fun hc3 h => ?_))))))))))))))))
 ·refine AWP.q (.drawEI [2] mixed Z Z Z ?_)
  refine d6.consN Z Z (fun E => W.loadAgg Z Z Z Z Z Z Z .N) Z (.consN Z Z (fun E => AOps.v Z Z .N) Z ?_)
  apply d6.consE (v := .undef); exact Z; exact Z; intro E
  refine W.storeAgg Z Z Z Z Z Z Z .N
  exact Z
  exact Z
  refine d6.done Z ?_ ?_
  ·refine d5.cons Z Z ?_ ?_
   refine b7.go Z Z (fun E => W.loadAgg Z Z Z Z Z Z Z .N) ?_
   refine b7.skip Z (b7.nil)
   refine d5.cons Z Z ?_ ?_
   refine b7.go Z Z (fun E => AOps.v Z Z .N) ?_
   refine b7.skip Z (b7.nil)
   refine d5.skip Z (d5.nil)
  dsimp only [i5]
  refine b6 (.ret (e6 ?_))
  obtain rfl := oi h
  exact Done.ret Z Z
 ·refine AWP.skip (b6 (.q ?_))
  obtain ⟨a19, ha19, h⟩ := bind_some h
  refine AWP.u (W.loadAgg Z Z Z Z Z Z Z (.j Z Z (.F Z Z Z Z (ak9 ha19) Z (.j Z Z (.ac Z Z Z (.ac Z Z Z (W.alloc Z Z Z Z (W.alloc Z Z Z Z (W.storeAgg Z Z Z Z Z Z Z (W.storeAgg Z Z Z Z Z Z Z (.nil (b6 (.q (.q (.u (W.loadAgg Z Z Z Z Z Z Z (W.build Z Z Z Z (.neqP Z Z Z Z Z Z Z (.nil (b6 (.ad Z h (fun hc4 h => ?_) (fun hc4 h => ?_))))))))))))))))))))))
  ·refine AWP.q (.drawEI [2] mixed Z Z Z ?_)
   refine d6.consN Z Z (fun E => W.loadAgg Z Z Z Z Z Z Z .N) Z (.consN Z Z (fun E => AOps.v Z Z .N) Z ?_)
   apply d6.consE (v := .undef); exact Z; exact Z; intro E
   refine W.storeAgg Z Z Z Z Z Z Z .N
   exact Z
   exact Z
   refine d6.done Z ?_ ?_
   ·refine d5.cons Z Z ?_ ?_
    refine b7.go Z Z (fun E => W.loadAgg Z Z Z Z Z Z Z .N) ?_
    refine b7.skip Z (b7.nil)
    refine d5.cons Z Z ?_ ?_
    refine b7.go Z Z (fun E => AOps.v Z Z .N) ?_
    refine b7.skip Z (b7.nil)
    refine d5.skip Z (d5.nil)
   dsimp only [i5]
   refine b6 (.ret (e6 ?_))
   obtain rfl := oi h
   exact Done.ret Z Z
  ·refine AWP.skip (b6 (.q ?_))
   obtain ⟨a27, ha27, h⟩ := bind_some h
   refine AWP.u (W.loadAgg Z Z Z Z Z Z Z (.F Z Z Z Z (M1 ha27) Z (.ac Z Z Z (.ac Z Z Z (.v Z Z (W.storeAgg Z Z Z Z Z Z Z (.nil (b6 (.ret ?_)))))))))
   obtain rfl := oi h
   exact Done.ret Z Z
theorem W4 {nv : Int} {low : Int} {high : Int} {r : Bool} (h : U8 nv low high = some r) : e8 prog 31 [.c (int nv), .c (int low), .c (int high)] (.c (bool r)) := by
 unfold e8
 refine FnOk.enter (rs := [.t 6]) func31 Z ntmps31 results31 Z ⟨trivial, Y⟩ (by kernel_rfl) Z ?_
 unfold U8 at h
 refine AWP.q (.u (.v Z Z (.nil (b6 (.seqJ (⟨[(6, .c (bool ((decide (low ≤ nv)) && (decide (nv ≤ high)))))], []⟩) ?_ ?_)))))
 ·rcases bft (decide (low ≤ nv)) with hb1 | hb1
  ·refine AWP.u (.j Z Z (.j Z Z (.geq Z Z Z (.j Z Z (.z Z Z Z hb1 (.j Z Z (.z Z Z Z hb1 (.j Z Z (.z Z Z Z hb1 (.leq Z Z Z (.U Z hb1 Z Z (.v Z Z (.nil (b6 ?_))))))))))))))
   simp only [s5 hb1, or_t hb1, Bool.false_or, Bool.true_or, Bool.false_and, Bool.true_and]
   exact Sub.env ⟨Z, Y⟩
  ·refine AWP.u (.j Z Z (.j Z Z (.geq Z Z Z (.j Z Z (.B Z Z Z hb1 (.B Z Z Z hb1 (.B Z Z Z hb1 (.O Z hb1 Z Z (.v Z Z (.nil (b6 ?_)))))))))))
   simp only [E3 hb1, or_f hb1, Bool.false_or, Bool.true_or, Bool.false_and, Bool.true_and]
   exact Sub.env ⟨Z, Y⟩
 ·refine AWP.ret ?_
  obtain rfl := oi h
  exact Done.ret Z Z
theorem F9 {code : Int} {index : Int} {r : i9} (h : K2 code index = some r) : e8 prog 16 [.c (int code), .c (int index)] (.agg [int r.code, int r.index]) := by
 unfold e8
 refine FnOk.enter (rs := [.cell 4 27 2]) func16 Z ntmps16 results16 Z ⟨rv _ Z, Y⟩ (by kernel_rfl) Z ?_
 unfold K2 at h
 refine AWP.q (.u (W.alloc Z Z Z Z (.nil (b6 (.q (.u (.j Z Z (.j Z Z (W.build Z Z Z Z (W.storeAgg Z Z Z Z Z Z Z (.nil (b6 (.ret ?_)))))))))))))
 obtain rfl := oi h
 exact Done.ret Z Z
theorem u4 {l : List Int} {nv : Int} {r : Bool} (h : F6 l nv = some r) : e8 prog 44 [.c (row 1 intI l), .c (int nv)] (.c (bool r)) := by
 unfold e8
 refine FnOk.enter (rs := [.t 4]) func44 Z ntmps44 results44 Z ⟨trivial, Y⟩ (by kernel_rfl) Z ?_
 unfold F6 at h
 refine AWP.q (.u (.v Z Z (.nil (b6 (.q (.q (.u (.v Z Z (.nil (b6 (.aa ?_)))))))))))
 obtain ⟨oo, ho1, h⟩ := bind_some h
 refine AWP.rngS ho1 (fun iv3 _ => ⟨[(0, .c (row 1 intI l)), (1, .c (int nv)), (5, .c (int iv3))], []⟩) (fun o e st => match o with | .inl _ => e = .exit 0 ∧ Sub [] st ⟨[], []⟩ | .inr x => e = .ret ∧ Done [.t 4] (fun t _ => t = .c (bool x)) .ret st) ?_ ?_ ?_ ?_
 ·try dsimp only
  exact Sub.env ⟨Z, Z, Z, Y⟩
 ·intro iv3 s hloiv3 hltiv3 _
  try dsimp only
  refine AWP.q (.q (.u (.j Z Z (.j Z Z (S.len Z Z (fun hl8 => .J Z Z Z (.nil (b6 (.ag Z hltiv3 (.exit (e7 (e7 ⟨Z, ?_⟩))))))))))))
  exact Sub.env trivial
 ·intro iv3 s o hloiv3 hltiv3 h
  unfold S9 at h
  try dsimp only at h ⊢
  refine AWP.q (.q (.u (.j Z Z (.j Z Z (S.len Z Z (fun hl8 => .J Z Z Z (.nil (b6 (.ah Z hltiv3 (.skip (b6 (.q (.aa ?_)))))))))))))
  obtain ⟨t4, hx5, h⟩ := bind_some h
  refine AWP.seqJ (⟨[(0, .c (row 1 intI l)), (1, .c (int nv)), (5, .c (int iv3)), (35, .c (bool t4))], []⟩) ?_ ?_
  ·obtain ⟨a14, ha14, a18, ha18, hx5⟩ := b2 hx5
   rcases bft (!a18) with hb6 | hb6
   ·replace hx5 := K9 hb6 hx5
    refine AWP.drawI mixed Z ?_
    refine i8.consF Z (fun E => AOps.j Z Z .N) Z (.consF Z (fun E => AOps.j Z Z .N) Z (.consF Z (fun E => S.idx ha14 Z Z Z Z .N) Z (.consF Z (fun E => AOps.ai Z Z Z Z .N) Z (.consF Z (fun E => AOps.j Z Z .N) Z (.consF Z (fun E => S.sub Z Z Z .N) Z (.consF Z (fun E => AOps.F Z Z Z Z (W4 ha18) Z .N) Z (.consF Z (fun E => AOps.ae Z Z .N) Z (.consF Z (fun E => AOps.j Z Z .N) Z (.consF Z (fun E => AOps.B Z Z Z hb6 .N) Z (.consF Z (fun E => AOps.B Z Z Z hb6 .N) Z (.consF Z (fun E => AOps.B Z Z Z hb6 .N) Z (.consF Z (fun E => AOps.af Z Z Z .N) Z (.consF Z (fun E => AOps.af Z Z Z .N) Z (.consF Z (fun E => AOps.af Z Z Z .N) Z (.consF Z (fun E => AOps.af Z Z Z .N) Z (.consF Z (fun E => AOps.af Z Z Z .N) Z (.consF Z (fun E => AOps.af Z Z Z .N) Z (.consF Z (fun E => AOps.af Z Z Z .N) Z (.consF Z (fun E => AOps.af Z Z Z .N) Z (.consF Z (fun E => AOps.af Z Z Z .N) Z (.consF Z (fun E => AOps.af Z Z Z .N) Z (.consF Z (fun E => AOps.B Z Z Z hb6 .N) Z (.consF Z (fun E => AOps.U Z hb6 Z Z .N) Z ?_)))))))))))))))))))))))
    refine i8.done ?_
    dsimp only [i5]
    obtain rfl := oi hx5
    refine b6 (Sub.env ⟨Z, Z, Z, Z, Y⟩)
   ·replace hx5 := L3 hb6 hx5
    rcases bft (decide (0 < iv3)) with hb7 | hb7
    ·replace hx5 := L8 hb7 hx5
     obtain ⟨a26, ha26, a31, ha31, hx5⟩ := b2 hx5
     refine AWP.drawI mixed Z ?_
     refine i8.consF Z (fun E => AOps.j Z Z .N) Z (.consF Z (fun E => AOps.j Z Z .N) Z (.consF Z (fun E => S.idx ha14 Z Z Z Z .N) Z (.consF Z (fun E => AOps.ai Z Z Z Z .N) Z (.consF Z (fun E => AOps.j Z Z .N) Z (.consF Z (fun E => S.sub Z Z Z .N) Z (.consF Z (fun E => AOps.F Z Z Z Z (W4 ha18) Z .N) Z (.consF Z (fun E => AOps.ae Z Z .N) Z (.consF Z (fun E => AOps.j Z Z .N) Z (.consF Z (fun E => AOps.z Z Z Z hb6 (.j Z Z .N)) Z (.consF Z (fun E => AOps.z Z Z Z hb6 (.gtr Z Z Z .N)) Z (.consF Z (fun E => AOps.z Z Z Z hb6 (.j Z Z .N)) Z (.consF Z (fun E => AOps.z Z Z Z hb7 (.j Z Z .N)) Z (.consF Z (fun E => AOps.z Z Z Z hb7 (.j Z Z .N)) Z (.consF Z (fun E => AOps.z Z Z Z hb7 (S.idx ha26 Z Z Z Z .N)) Z (.consF Z (fun E => AOps.z Z Z Z hb7 (.ai Z Z Z Z .N)) Z (.consF Z (fun E => AOps.z Z Z Z hb7 (.j Z Z .N)) Z (.consF Z (fun E => AOps.z Z Z Z hb7 (.j Z Z .N)) Z (.consF Z (fun E => AOps.z Z Z Z hb7 (.sub' Z Z Z (by omega) .N)) Z (.consF Z (fun E => AOps.z Z Z Z hb7 (S.idx ha31 Z Z Z Z .N)) Z (.consF Z (fun E => AOps.z Z Z Z hb7 (.ai Z Z Z Z .N)) Z (.consF Z (fun E => AOps.z Z Z Z hb7 (.leq Z Z Z .N)) Z (.consF Z (fun E => AOps.z Z Z Z hb6 (.U Z hb7 Z Z .N)) Z (.consF Z (fun E => AOps.O Z hb6 Z Z .N) Z ?_)))))))))))))))))))))))
     refine i8.done ?_
     dsimp only [i5]
     obtain rfl := oi hx5
     refine b6 (Sub.env ⟨Z, Z, Z, Z, Y⟩)
    ·replace hx5 := L5 hb7 hx5
     refine AWP.drawI mixed Z ?_
     refine i8.consF Z (fun E => AOps.j Z Z .N) Z (.consF Z (fun E => AOps.j Z Z .N) Z (.consF Z (fun E => S.idx ha14 Z Z Z Z .N) Z (.consF Z (fun E => AOps.ai Z Z Z Z .N) Z (.consF Z (fun E => AOps.j Z Z .N) Z (.consF Z (fun E => S.sub Z Z Z .N) Z (.consF Z (fun E => AOps.F Z Z Z Z (W4 ha18) Z .N) Z (.consF Z (fun E => AOps.ae Z Z .N) Z (.consF Z (fun E => AOps.j Z Z .N) Z (.consF Z (fun E => AOps.z Z Z Z hb6 (.j Z Z .N)) Z (.consF Z (fun E => AOps.z Z Z Z hb6 (.gtr Z Z Z .N)) Z (.consF Z (fun E => AOps.z Z Z Z hb6 (.j Z Z .N)) Z (.consF Z (fun E => AOps.B Z Z Z hb7 .N) Z (.consF Z (fun E => AOps.B Z Z Z hb7 .N) Z (.consF Z (fun E => AOps.B Z Z Z hb7 .N) Z (.consF Z (fun E => AOps.B Z Z Z hb7 .N) Z (.consF Z (fun E => AOps.B Z Z Z hb7 .N) Z (.consF Z (fun E => AOps.B Z Z Z hb7 .N) Z (.consF Z (fun E => AOps.B Z Z Z hb7 .N) Z (.consF Z (fun E => AOps.B Z Z Z hb7 .N) Z (.consF Z (fun E => AOps.B Z Z Z hb7 .N) Z (.consF Z (fun E => AOps.B Z Z Z hb7 .N) Z (.consF Z (fun E => AOps.z Z Z Z hb6 (.O Z hb7 Z Z .N)) Z (.consF Z (fun E => AOps.O Z hb6 Z Z .N) Z ?_)))))))))))))))))))))))
     refine i8.done ?_
     dsimp only [i5]
     obtain rfl := oi hx5
     refine b6 (Sub.env ⟨Z, Z, Z, Z, Y⟩)
  ·refine AWP.ad Z h (fun hc8 h => ?_) (fun hc8 h => ?_)
   ·refine AWP.q (.u (.v Z Z (.nil (b6 (.ret (k9 (e6 ?_)))))))
    obtain rfl := oi h
    refine e6 ⟨_, Z, Z, ?_⟩
    exact Done.ret Z Z
   ·refine AWP.skip (e9 (b6 (.u (.j Z Z (.add Z Z Z (by omega) (.v Z Z (.nil ?_)))))))
    obtain rfl := oi h
    refine b6 ⟨_, Z, ?_⟩
    exact Sub.env ⟨Z, Z, Z, Y⟩
 ·intro e s hq
  rcases oo with u | x
  ·try dsimp only at h hq
   obtain ⟨rfl, hs⟩ := hq
   refine ⟨_, hs, ?_⟩
   refine j7 (b6 (.q (.u (.v Z Z (.nil (b6 (.ret ?_)))))))
   obtain rfl := oi h
   exact Done.ret Z Z
  ·try dsimp only at h hq
   obtain ⟨rfl, hs⟩ := hq
   refine ⟨_, Sub.refl _ _, ?_⟩
   refine k9 (e6 ?_)
   obtain rfl := oi h
   exact hs
theorem C6 {l : List Int} {nv : Int} {r : Bool} (h : J3 l nv = some r) : e8 prog 26 [.c (row 1 intI l), .c (int nv)] (.c (bool r)) := by
 unfold e8
 refine FnOk.enter (rs := [.t 4]) func26 Z ntmps26 results26 Z ⟨trivial, Y⟩ (by kernel_rfl) Z ?_
 unfold J3 at h
 refine AWP.q (.u (.v Z Z (.nil (b6 (.q (.q (.u (.v Z Z (.nil (b6 (.aa ?_)))))))))))
 obtain ⟨oo, ho1, h⟩ := bind_some h
 refine AWP.rngS ho1 (fun iv3 _ => ⟨[(0, .c (row 1 intI l)), (1, .c (int nv)), (5, .c (int iv3))], []⟩) (fun o e st => match o with | .inl _ => e = .exit 0 ∧ Sub [] st ⟨[], []⟩ | .inr x => e = .ret ∧ Done [.t 4] (fun t _ => t = .c (bool x)) .ret st) ?_ ?_ ?_ ?_
 ·try dsimp only
  exact Sub.env ⟨Z, Z, Z, Y⟩
 ·intro iv3 s hloiv3 hltiv3 _
  try dsimp only
  refine AWP.q (.q (.u (.j Z Z (.j Z Z (S.len Z Z (fun hl8 => .J Z Z Z (.nil (b6 (.ag Z hltiv3 (.exit (e7 (e7 ⟨Z, ?_⟩))))))))))))
  exact Sub.env trivial
 ·intro iv3 s o hloiv3 hltiv3 h
  unfold af7 at h
  try dsimp only at h ⊢
  refine AWP.q (.q (.u (.j Z Z (.j Z Z (S.len Z Z (fun hl8 => .J Z Z Z (.nil (b6 (.ah Z hltiv3 (.skip (b6 (.q (.aa (.q ?_))))))))))))))
  obtain ⟨a14, ha14, h⟩ := bind_some h
  refine AWP.u (.j Z Z (.j Z Z (S.idx ha14 Z Z Z Z (.ai Z Z Z Z (.j Z Z (.ab Z Z Z (.nil (b6 (.ite Z h (fun hc4 h => ?_) (fun hc4 h => ?_))))))))))
  ·refine AWP.q (.u (.v Z Z (.nil (b6 (.ret (k9 (e6 ?_)))))))
   obtain rfl := oi h
   refine e6 ⟨_, Z, Z, ?_⟩
   exact Done.ret Z Z
  ·refine AWP.skip (e9 (b6 (.u (.j Z Z (.add Z Z Z (by omega) (.v Z Z (.nil ?_)))))))
   obtain rfl := oi h
   refine b6 ⟨_, Z, ?_⟩
   exact Sub.env ⟨Z, Z, Z, Y⟩
 ·intro e s hq
  rcases oo with u | x
  ·try dsimp only at h hq
   obtain ⟨rfl, hs⟩ := hq
   refine ⟨_, hs, ?_⟩
   refine j7 (b6 (.q (.u (.v Z Z (.nil (b6 (.ret ?_)))))))
   obtain rfl := oi h
   exact Done.ret Z Z
  ·try dsimp only at h hq
   obtain ⟨rfl, hs⟩ := hq
   refine ⟨_, Sub.refl _ _, ?_⟩
   refine k9 (e6 ?_)
   obtain rfl := oi h
   exact hs
theorem al6 {av : List Int} {bv : List Int} {r : Bool} (h : N1 av bv = some r) : e8 prog 45 [.c (row 1 intI av), .c (row 1 intI bv)] (.c (bool r)) := by
 unfold e8
 refine FnOk.enter (rs := [.t 4]) func45 Z ntmps45 results45 Z ⟨trivial, Y⟩ (by kernel_rfl) Z ?_
 unfold N1 at h
 refine AWP.q (.u (.v Z Z (.nil (b6 (.q (.q (.u (.v Z Z (.nil (b6 (.aa ?_)))))))))))
 obtain ⟨oo, ho1, h⟩ := bind_some h
 refine AWP.rngS ho1 (fun iv3 _ => ⟨[(0, .c (row 1 intI av)), (1, .c (row 1 intI bv)), (5, .c (int iv3))], []⟩) (fun o e st => match o with | .inl _ => e = .exit 0 ∧ Sub [] st ⟨[], []⟩ | .inr x => e = .ret ∧ Done [.t 4] (fun t _ => t = .c (bool x)) .ret st) ?_ ?_ ?_ ?_
 ·try dsimp only
  exact Sub.env ⟨Z, Z, Z, Y⟩
 ·intro iv3 s hloiv3 hltiv3 _
  try dsimp only
  refine AWP.q (.q (.u (.j Z Z (.j Z Z (S.len Z Z (fun hl8 => .J Z Z Z (.nil (b6 (.ag Z hltiv3 (.exit (e7 (e7 ⟨Z, ?_⟩))))))))))))
  exact Sub.env trivial
 ·intro iv3 s o hloiv3 hltiv3 h
  unfold U2 at h
  try dsimp only at h ⊢
  refine AWP.q (.q (.u (.j Z Z (.j Z Z (S.len Z Z (fun hl8 => .J Z Z Z (.nil (b6 (.ah Z hltiv3 (.skip (b6 (.q (.aa (.q ?_))))))))))))))
  obtain ⟨a15, ha15, a17, ha17, h⟩ := b2 h
  refine AWP.u (.j Z Z (.j Z Z (.j Z Z (S.idx ha15 Z Z Z Z (.ai Z Z Z Z (.F Z Z Z Z (C6 ha17) Z (.nil (b6 (.ad Z h (fun hc4 h => ?_) (fun hc4 h => ?_))))))))))
  ·refine AWP.q (.u (.v Z Z (.nil (b6 (.ret (k9 (e6 ?_)))))))
   obtain rfl := oi h
   refine e6 ⟨_, Z, Z, ?_⟩
   exact Done.ret Z Z
  ·refine AWP.skip (e9 (b6 (.u (.j Z Z (.add Z Z Z (by omega) (.v Z Z (.nil ?_)))))))
   obtain rfl := oi h
   refine b6 ⟨_, Z, ?_⟩
   exact Sub.env ⟨Z, Z, Z, Y⟩
 ·intro e s hq
  rcases oo with u | x
  ·try dsimp only at h hq
   obtain ⟨rfl, hs⟩ := hq
   refine ⟨_, hs, ?_⟩
   refine j7 (b6 (.q (.u (.v Z Z (.nil (b6 (.ret ?_)))))))
   obtain rfl := oi h
   exact Done.ret Z Z
  ·try dsimp only at h hq
   obtain ⟨rfl, hs⟩ := hq
   refine ⟨_, Sub.refl _ _, ?_⟩
   refine k9 (e6 ?_)
   obtain rfl := oi h
   exact hs
theorem al3 {t : d9} {r : i9} (h : G7 t = some r) : e8 prog 22 [.agg (tT t)] (.agg [int r.code, int r.index]) := by
 unfold e8
 refine FnOk.enter (rs := [.cell 2 27 2]) func22 Z ntmps22 results22 Z ⟨rv _ Z, Y⟩ (by kernel_rfl) Z ?_
 unfold G7 at h
 refine AWP.q (.u (W.box Z Z Z Z Z Z (W.alloc Z Z Z Z (.nil (b6 (.q (.q ?_)))))))
 obtain ⟨a7, ha7, h⟩ := bind_some h
 refine AWP.u (W.fieldAddr Z Z Z Z (.E Z Z Z Z Z Z (.F Z Z Z Z (W4 ha7) Z (.ae Z Z (.nil (b6 (.ad Z h (fun hc2 h => ?_) (fun hc2 h => ?_))))))))
 ·refine AWP.q ?_
  obtain ⟨a9, ha9, h⟩ := bind_some h
  refine AWP.u (.F Z Z Z Z (F9 ha9) Z (W.storeAgg Z Z Z Z Z Z Z (.nil (b6 (.ret (e6 ?_))))))
  obtain rfl := oi h
  exact Done.ret Z Z
 ·refine AWP.skip (b6 (.q (.q ?_)))
  obtain ⟨a14, ha14, h⟩ := bind_some h
  refine AWP.u (W.fieldAddr Z Z Z Z (.E Z Z Z Z Z Z (W.fieldAddr Z Z Z Z (.E Z Z Z Z Z Z (.F Z Z Z Z (u4 ha14) Z (.ae Z Z (.nil (b6 (.ad Z h (fun hc3 h => ?_) (fun hc3 h => ?_))))))))))
  ·refine AWP.q ?_
   obtain ⟨a16, ha16, h⟩ := bind_some h
   refine AWP.u (.F Z Z Z Z (F9 ha16) Z (W.storeAgg Z Z Z Z Z Z Z (.nil (b6 (.ret (e6 ?_))))))
   obtain rfl := oi h
   exact Done.ret Z Z
  ·refine AWP.skip (b6 (.q (.q ?_)))
   obtain ⟨a21, ha21, h⟩ := bind_some h
   refine AWP.u (W.fieldAddr Z Z Z Z (.E Z Z Z Z Z Z (W.fieldAddr Z Z Z Z (.E Z Z Z Z Z Z (.F Z Z Z Z (u4 ha21) Z (.ae Z Z (.nil (b6 (.ad Z h (fun hc4 h => ?_) (fun hc4 h => ?_))))))))))
   ·refine AWP.q ?_
    obtain ⟨a23, ha23, h⟩ := bind_some h
    refine AWP.u (.F Z Z Z Z (F9 ha23) Z (W.storeAgg Z Z Z Z Z Z Z (.nil (b6 (.ret (e6 ?_))))))
    obtain rfl := oi h
    exact Done.ret Z Z
   ·refine AWP.skip (b6 (.q (.q (.u (W.fieldAddr Z Z Z Z (.E Z Z Z Z Z Z (S.len Z Z (fun hl26 => .gtr Z Z Z (.nil (b6 (.ite Z h (fun hc5 h => ?_) (fun hc5 h => ?_))))))))))))
    ·refine AWP.q ?_
     obtain ⟨a28, ha28, h⟩ := bind_some h
     refine AWP.u (.F Z Z Z Z (F9 ha28) Z (W.storeAgg Z Z Z Z Z Z Z (.nil (b6 (.ret (e6 ?_))))))
     obtain rfl := oi h
     exact Done.ret Z Z
    ·refine AWP.skip (b6 (.q (.q (.u (.v Z Z (.nil (b6 (.aa ?_))))))))
     obtain ⟨oo, ho1, h⟩ := bind_some h
     refine AWP.rngS ho1 (fun iv6 _ => ⟨[(1, .c (.ptr 0 0 0)), (2, .c (.ptr 1 0 0)), (3, .c (int iv6))], [.one (.cells 4 [(tT t)]), .one (.cells 2 [[int 0, int 0]])]⟩) (fun o e st => match o with | .inl _ => e = .exit 0 ∧ Sub [] st ⟨[(2, .c (.ptr 1 0 0))], [.one (.cells 4 [(tT t)]), .one (.cells 2 [[int 0, int 0]])]⟩ | .inr x => e = .ret ∧ Done [.cell 2 27 2] (fun t _ => t = .agg [int x.code, int x.index]) .ret st) ?_ ?_ ?_ ?_
     ·try dsimp only
      exact Sub.env ⟨Z, Z, Z, Y⟩
     ·intro iv6 s hloiv6 hltiv6 _
      try dsimp only
      refine AWP.q (.q (.u (.j Z Z (W.fieldAddr Z Z Z Z (.E Z Z Z Z Z Z (S.len Z Z (fun hl32 => .J Z Z Z (.nil (b6 (.ag Z hltiv6 (.exit (e7 (e7 ⟨Z, ?_⟩)))))))))))))
      exact Sub.env ⟨Z, Y⟩
     ·intro iv6 s o hloiv6 hltiv6 h
      unfold B5 at h
      try dsimp only at h ⊢
      refine AWP.q (.q (.u (.j Z Z (W.fieldAddr Z Z Z Z (.E Z Z Z Z Z Z (S.len Z Z (fun hl32 => .J Z Z Z (.nil (b6 (.ah Z hltiv6 (.skip (b6 (.q (.aa (.q ?_)))))))))))))))
      obtain ⟨a39, ha39, h⟩ := bind_some h
      refine AWP.u (W.fieldAddr Z Z Z Z (.E Z Z Z Z Z Z (.j Z Z (S.idx ha39 Z Z Z Z (W.loadIAgg Z Z Z Z Z (W.alloc Z Z Z Z (W.storeAgg Z Z Z Z Z Z Z (.nil (b6 (.q ?_))))))))))
      obtain ⟨t7, hx8, h⟩ := bind_some h
      refine AWP.seqJ (⟨[(1, .c (.ptr 0 0 0)), (2, .c (.ptr 1 0 0)), (3, .c (int iv6)), (4, .c (.ptr 2 0 0)), (70, .c (bool t7))], [.one (.cells 4 [(tT t)]), .one (.cells 2 [[int 0, int 0]]), .one (.cells 4 [[row 1 intI a39.pre, row 1 intI a39.add, row 1 intI a39.del, int a39.cost]])]⟩) ?_ ?_
      ·obtain ⟨a45, ha45, hx8⟩ := bind_some hx8
       rcases bft (!a45) with hb9 | hb9
       ·replace hx8 := K9 hb9 hx8
        refine AWP.u (W.fieldAddr Z Z Z Z (.E Z Z Z Z Z Z (W.fieldAddr Z Z Z Z (.E Z Z Z Z Z Z (.F Z Z Z Z (u4 ha45) Z (.ae Z Z (.j Z Z (.B Z Z Z hb9 (.B Z Z Z hb9 (.B Z Z Z hb9 (.B Z Z Z hb9 (.B Z Z Z hb9 (.B Z Z Z hb9 (.U Z hb9 Z Z (.j Z Z (.B Z Z Z Z (.B Z Z Z Z (.B Z Z Z Z (.B Z Z Z Z (.B Z Z Z Z (.B Z Z Z Z (.U Z Z Z Z (.j Z Z (.B Z Z Z Z (.B Z Z Z Z (.B Z Z Z Z (.B Z Z Z Z (.B Z Z Z Z (.B Z Z Z Z (.U Z Z Z Z (.nil ?_)))))))))))))))))))))))))))))))
        obtain rfl := oi hx8
        refine b6 (Sub.env ⟨Z, Z, Z, Z, Z, Y⟩)
       ·replace hx8 := L3 hb9 hx8
        obtain ⟨a52, ha52, hx8⟩ := bind_some hx8
        rcases bft (!a52) with hb10 | hb10
        ·replace hx8 := K9 hb10 hx8
         refine AWP.u (W.fieldAddr Z Z Z Z (.E Z Z Z Z Z Z (W.fieldAddr Z Z Z Z (.E Z Z Z Z Z Z (.F Z Z Z Z (u4 ha45) Z (.ae Z Z (.j Z Z (.z Z Z Z hb9 (W.fieldAddr Z Z Z Z (.z Z Z Z hb9 (.E Z Z Z Z Z Z (.z Z Z Z hb9 (W.fieldAddr Z Z Z Z (.z Z Z Z hb9 (.E Z Z Z Z Z Z (.z Z Z Z hb9 (.F Z Z Z Z (u4 ha52) Z (.z Z Z Z hb9 (.ae Z Z (.O Z hb9 Z Z (.j Z Z (.B Z Z Z hb10 (.B Z Z Z hb10 (.B Z Z Z hb10 (.B Z Z Z hb10 (.B Z Z Z hb10 (.B Z Z Z hb10 (.U Z hb10 Z Z (.j Z Z (.B Z Z Z Z (.B Z Z Z Z (.B Z Z Z Z (.B Z Z Z Z (.B Z Z Z Z (.B Z Z Z Z (.U Z Z Z Z (.nil ?_)))))))))))))))))))))))))))))))))))))
         obtain rfl := oi hx8
         refine b6 (Sub.env ⟨Z, Z, Z, Z, Z, Y⟩)
        ·replace hx8 := L3 hb10 hx8
         obtain ⟨a60, ha60, hx8⟩ := bind_some hx8
         rcases bft (!a60) with hb11 | hb11
         ·replace hx8 := K9 hb11 hx8
          refine AWP.u (W.fieldAddr Z Z Z Z (.E Z Z Z Z Z Z (W.fieldAddr Z Z Z Z (.E Z Z Z Z Z Z (.F Z Z Z Z (u4 ha45) Z (.ae Z Z (.j Z Z (.z Z Z Z hb9 (W.fieldAddr Z Z Z Z (.z Z Z Z hb9 (.E Z Z Z Z Z Z (.z Z Z Z hb9 (W.fieldAddr Z Z Z Z (.z Z Z Z hb9 (.E Z Z Z Z Z Z (.z Z Z Z hb9 (.F Z Z Z Z (u4 ha52) Z (.z Z Z Z hb9 (.ae Z Z (.O Z hb9 Z Z (.j Z Z (.z Z Z Z hb10 (W.fieldAddr Z Z Z Z (.z Z Z Z hb10 (.E Z Z Z Z Z Z (.z Z Z Z hb10 (W.fieldAddr Z Z Z Z (.z Z Z Z hb10 (.E Z Z Z Z Z Z (.z Z Z Z hb10 (.F Z Z Z Z (u4 ha60) Z (.z Z Z Z hb10 (.ae Z Z (.O Z hb10 Z Z (.j Z Z (.B Z Z Z hb11 (.B Z Z Z hb11 (.B Z Z Z hb11 (.B Z Z Z hb11 (.B Z Z Z hb11 (.B Z Z Z hb11 (.U Z hb11 Z Z (.nil ?_)))))))))))))))))))))))))))))))))))))))))))
          obtain rfl := oi hx8
          refine b6 (Sub.env ⟨Z, Z, Z, Z, Z, Y⟩)
         ·replace hx8 := L3 hb11 hx8
          obtain ⟨a68, ha68, hx8⟩ := bind_some hx8
          refine AWP.u (W.fieldAddr Z Z Z Z (.E Z Z Z Z Z Z (W.fieldAddr Z Z Z Z (.E Z Z Z Z Z Z (.F Z Z Z Z (u4 ha45) Z (.ae Z Z (.j Z Z (.z Z Z Z hb9 (W.fieldAddr Z Z Z Z (.z Z Z Z hb9 (.E Z Z Z Z Z Z (.z Z Z Z hb9 (W.fieldAddr Z Z Z Z (.z Z Z Z hb9 (.E Z Z Z Z Z Z (.z Z Z Z hb9 (.F Z Z Z Z (u4 ha52) Z (.z Z Z Z hb9 (.ae Z Z (.O Z hb9 Z Z (.j Z Z (.z Z Z Z hb10 (W.fieldAddr Z Z Z Z (.z Z Z Z hb10 (.E Z Z Z Z Z Z (.z Z Z Z hb10 (W.fieldAddr Z Z Z Z (.z Z Z Z hb10 (.E Z Z Z Z Z Z (.z Z Z Z hb10 (.F Z Z Z Z (u4 ha60) Z (.z Z Z Z hb10 (.ae Z Z (.O Z hb10 Z Z (.j Z Z (.z Z Z Z hb11 (W.fieldAddr Z Z Z Z (.z Z Z Z hb11 (.E Z Z Z Z Z Z (.z Z Z Z hb11 (W.fieldAddr Z Z Z Z (.z Z Z Z hb11 (.E Z Z Z Z Z Z (.z Z Z Z hb11 (.F Z Z Z Z (al6 ha68) Z (.z Z Z Z hb11 (.ae Z Z (.O Z hb11 Z Z (.nil ?_)))))))))))))))))))))))))))))))))))))))))))))))))
          obtain rfl := oi hx8
          refine b6 (Sub.env ⟨Z, Z, Z, Z, Z, Y⟩)
      ·refine AWP.ad Z h (fun hc12 h => ?_) (fun hc12 h => ?_)
       ·refine AWP.q ?_
        obtain ⟨a72, ha72, h⟩ := bind_some h
        refine AWP.u (.j Z Z (.F Z Z Z Z (F9 ha72) Z (W.storeAgg Z Z Z Z Z Z Z (.nil (b6 (.ret (e6 (k9 (e6 ?_)))))))))
        obtain rfl := oi h
        refine e6 ⟨_, Z, Z, ?_⟩
        exact Done.ret Z Z
       ·refine AWP.skip (b6 (.q ?_))
        obtain ⟨a75, ha75, h⟩ := bind_some h
        refine AWP.u (W.fieldAddr Z Z Z Z (.E Z Z Z Z Z Z (.F Z Z Z Z (W4 ha75) Z (.ae Z Z (.nil (b6 (.ad Z h (fun hc13 h => ?_) (fun hc13 h => ?_))))))))
        ·refine AWP.q ?_
         obtain ⟨a78, ha78, h⟩ := bind_some h
         refine AWP.u (.j Z Z (.F Z Z Z Z (F9 ha78) Z (W.storeAgg Z Z Z Z Z Z Z (.nil (b6 (.ret (k9 (e6 ?_))))))))
         obtain rfl := oi h
         refine e6 ⟨_, Z, Z, ?_⟩
         exact Done.ret Z Z
        ·refine AWP.skip (e9 (b6 (.u (.j Z Z (.add Z Z Z (by omega) (.v Z Z (.nil ?_)))))))
         obtain rfl := oi h
         refine b6 ⟨_, Z, ?_⟩
         exact Sub.cut ⟨Z, Z, Z, Y⟩ Z ⟨.one Z, .one Z, Y⟩ Z
     ·intro e s hq
      rcases oo with u | x
      ·try dsimp only at h hq
       obtain ⟨rfl, hs⟩ := hq
       refine ⟨_, hs, ?_⟩
       refine j7 (b6 (.q (.u (W.build Z Z Z Z (W.storeAgg Z Z Z Z Z Z Z (.nil (b6 (.ret ?_))))))))
       obtain rfl := oi h
       exact Done.ret Z Z
      ·try dsimp only at h hq
       obtain ⟨rfl, hs⟩ := hq
       refine ⟨_, Sub.refl _ _, ?_⟩
       refine k9 (e6 ?_)
       obtain rfl := oi h
       exact hs
theorem ad4 {r : d9} (h : V1 = some r) : e8 prog 32 [] (.agg (tT r)) := by
 unfold e8
 refine FnOk.enter (rs := [.cell 0 25 4]) func32 Z ntmps32 results32 Z ⟨rv _ Z, Y⟩ (by kernel_rfl) Z ?_
 unfold V1 at h
 refine AWP.q (.u (W.alloc Z Z Z Z (.nil (b6 (.q (.u (S.lit (f := intI) (l := [0]) (ess := [[int 0]]) Z Z Z Z Z Z Z ⟨⟨.inl Z, Y⟩, Y⟩ Z Z Z (S.lit (f := intI) (l := [1]) (ess := [[int 1]]) Z Z Z Z Z Z Z ⟨⟨.inl Z, Y⟩, Y⟩ Z Z Z (S.lit (f := intI) (l := [0]) (ess := [[int 0]]) Z Z Z Z Z Z Z ⟨⟨.inl Z, Y⟩, Y⟩ Z Z Z (S.lit (f := intI) (l := [1]) (ess := [[int 1]]) Z Z Z Z Z Z Z ⟨⟨.inl Z, Y⟩, Y⟩ Z Z Z (S.lit (f := intI) (l := [0]) (ess := [[int 0]]) Z Z Z Z Z Z Z ⟨⟨.inl Z, Y⟩, Y⟩ Z Z Z (W.build Z Z Z Z (S.lit (f := intI) (l := [1]) (ess := [[int 1]]) Z Z Z Z Z Z Z ⟨⟨.inl Z, Y⟩, Y⟩ Z Z Z (W.build Z Z Z Z ?_))))))))))))))
 refine AOps.frzV (id := 3) (l := [0]) (env2 := [(0, .c (.ptr 0 0 0)), (1, .c (.own 1 0 ([0].length))), (2, .c (.own 2 0 ([1].length))), (6, .agg [row 1 intI [0], .own 4 0 ([1].length), .own 5 0 ([0].length), int 1]), (8, .agg [.imm (.val nL), .own 6 0 ([1].length), .imm (.val nL), int 3])]) (σ2 := [.one (.cells 4 [[int 0, .imm (.val nL), .imm (.val nL), .imm (.val nL)]]), .one (vec 1 intI [0]), .one (vec 1 intI [1]), .dead, .one (vec 1 intI [1]), .one (vec 1 intI [0]), .one (vec 1 intI [1])]) Z Z (by exact ⟨⟨_, Z, .inl ⟨Z, Z⟩⟩, ⟨_, Z, .inl ⟨Z, Z⟩⟩, ⟨_, Z, .inl ⟨Z, Z⟩⟩, ⟨_, Z, ⟨.inr ⟨_, Z, Z, Z⟩, .inl ⟨Z, Z⟩, .inl ⟨Z, Z⟩, .inl ⟨Z, Z⟩, Y⟩⟩, ⟨_, Z, ⟨.inl ⟨Z, Z⟩, .inl ⟨Z, Z⟩, .inl ⟨Z, Z⟩, .inl ⟨Z, Z⟩, Y⟩⟩, Y⟩) Z (by exact ⟨⟨Z, .inl ⟨Z, Z⟩, .inl ⟨Z, Z⟩, .inl ⟨Z, Z⟩, .inl ⟨Z, Z⟩, Y⟩, FrzB.vec, FrzB.vec, trivial, FrzB.vec, FrzB.vec, FrzB.vec, Y⟩) ?_; refine AOps.frzV (id := 4) (l := [1]) (env2 := [(0, .c (.ptr 0 0 0)), (1, .c (.own 1 0 ([0].length))), (2, .c (.own 2 0 ([1].length))), (6, .agg [row 1 intI [0], row 1 intI [1], .own 5 0 ([0].length), int 1]), (8, .agg [.imm (.val nL), .own 6 0 ([1].length), .imm (.val nL), int 3])]) (σ2 := [.one (.cells 4 [[int 0, .imm (.val nL), .imm (.val nL), .imm (.val nL)]]), .one (vec 1 intI [0]), .one (vec 1 intI [1]), .dead, .dead, .one (vec 1 intI [0]), .one (vec 1 intI [1])]) Z Z (by exact ⟨⟨_, Z, .inl ⟨Z, Z⟩⟩, ⟨_, Z, .inl ⟨Z, Z⟩⟩, ⟨_, Z, .inl ⟨Z, Z⟩⟩, ⟨_, Z, ⟨.inl ⟨Z, Z⟩, .inr ⟨_, Z, Z, Z⟩, .inl ⟨Z, Z⟩, .inl ⟨Z, Z⟩, Y⟩⟩, ⟨_, Z, ⟨.inl ⟨Z, Z⟩, .inl ⟨Z, Z⟩, .inl ⟨Z, Z⟩, .inl ⟨Z, Z⟩, Y⟩⟩, Y⟩) Z (by exact ⟨⟨Z, .inl ⟨Z, Z⟩, .inl ⟨Z, Z⟩, .inl ⟨Z, Z⟩, .inl ⟨Z, Z⟩, Y⟩, FrzB.vec, FrzB.vec, trivial, trivial, FrzB.vec, FrzB.vec, Y⟩) ?_; refine AOps.frzV (id := 5) (l := [0]) (env2 := [(0, .c (.ptr 0 0 0)), (1, .c (.own 1 0 ([0].length))), (2, .c (.own 2 0 ([1].length))), (6, .agg [row 1 intI [0], row 1 intI [1], row 1 intI [0], int 1]), (8, .agg [.imm (.val nL), .own 6 0 ([1].length), .imm (.val nL), int 3])]) (σ2 := [.one (.cells 4 [[int 0, .imm (.val nL), .imm (.val nL), .imm (.val nL)]]), .one (vec 1 intI [0]), .one (vec 1 intI [1]), .dead, .dead, .dead, .one (vec 1 intI [1])]) Z Z (by exact ⟨⟨_, Z, .inl ⟨Z, Z⟩⟩, ⟨_, Z, .inl ⟨Z, Z⟩⟩, ⟨_, Z, .inl ⟨Z, Z⟩⟩, ⟨_, Z, ⟨.inl ⟨Z, Z⟩, .inl ⟨Z, Z⟩, .inr ⟨_, Z, Z, Z⟩, .inl ⟨Z, Z⟩, Y⟩⟩, ⟨_, Z, ⟨.inl ⟨Z, Z⟩, .inl ⟨Z, Z⟩, .inl ⟨Z, Z⟩, .inl ⟨Z, Z⟩, Y⟩⟩, Y⟩) Z (by exact ⟨⟨Z, .inl ⟨Z, Z⟩, .inl ⟨Z, Z⟩, .inl ⟨Z, Z⟩, .inl ⟨Z, Z⟩, Y⟩, FrzB.vec, FrzB.vec, trivial, trivial, trivial, FrzB.vec, Y⟩) ?_; refine AOps.frzV (id := 6) (l := [1]) (env2 := [(0, .c (.ptr 0 0 0)), (1, .c (.own 1 0 ([0].length))), (2, .c (.own 2 0 ([1].length))), (6, .agg [row 1 intI [0], row 1 intI [1], row 1 intI [0], int 1]), (8, .agg [.imm (.val nL), row 1 intI [1], .imm (.val nL), int 3])]) (σ2 := [.one (.cells 4 [[int 0, .imm (.val nL), .imm (.val nL), .imm (.val nL)]]), .one (vec 1 intI [0]), .one (vec 1 intI [1]), .dead, .dead, .dead, .dead]) Z Z (by exact ⟨⟨_, Z, .inl ⟨Z, Z⟩⟩, ⟨_, Z, .inl ⟨Z, Z⟩⟩, ⟨_, Z, .inl ⟨Z, Z⟩⟩, ⟨_, Z, ⟨.inl ⟨Z, Z⟩, .inl ⟨Z, Z⟩, .inl ⟨Z, Z⟩, .inl ⟨Z, Z⟩, Y⟩⟩, ⟨_, Z, ⟨.inl ⟨Z, Z⟩, .inr ⟨_, Z, Z, Z⟩, .inl ⟨Z, Z⟩, .inl ⟨Z, Z⟩, Y⟩⟩, Y⟩) Z (by exact ⟨⟨Z, .inl ⟨Z, Z⟩, .inl ⟨Z, Z⟩, .inl ⟨Z, Z⟩, .inl ⟨Z, Z⟩, Y⟩, FrzB.vec, FrzB.vec, trivial, trivial, trivial, trivial, Y⟩) ?_; refine S.lit (f := i3) (l := [(⟨[0], [1], [0], 1⟩ : f5), (⟨[], [1], [], 3⟩ : f5)]) (ess := [[row 1 intI [0], row 1 intI [1], row 1 intI [0], int 1], [.imm (.val nL), row 1 intI [1], .imm (.val nL), int 3]]) Z Z Z Z Z Z Z ⟨⟨.inl Z, .inl Z, .inl Z, .inl Z, Y⟩, ⟨.inr ⟨Z, _, Z⟩, .inl Z, .inr ⟨Z, _, Z⟩, .inl Z, Y⟩, Y⟩ Z Z Z ?_
 refine W.build Z Z Z Z (W.storeAgg Z Z Z Z Z Z Z (.nil (b6 (.frzV (id := 1) (l := [0]) (env2 := [(0, .c (.ptr 0 0 0))]) (σ2 := [.one (.cells 4 [[int 2, row 1 intI [0], .own 2 0 ([1].length), .own 7 0 (([(⟨[0], [1], [0], 1⟩ : f5), (⟨[], [1], [], 3⟩ : f5)]).length)]]), .dead, .one (vec 1 intI [1]), .dead, .dead, .dead, .dead, .one (vec 4 i3 ([(⟨[0], [1], [0], 1⟩ : f5), (⟨[], [1], [], 3⟩ : f5)]))]) Z Z (by exact ⟨⟨_, Z, .inl ⟨Z, Z⟩⟩, Y⟩) Z (by exact ⟨⟨Z, .inl ⟨Z, Z⟩, .inr ⟨_, Z, Z, Z⟩, .inl ⟨Z, Z⟩, .inl ⟨Z, Z⟩, Y⟩, trivial, FrzB.vec, trivial, trivial, trivial, trivial, FrzB.vec, Y⟩) (.frzV (id := 2) (l := [1]) (env2 := [(0, .c (.ptr 0 0 0))]) (σ2 := [.one (.cells 4 [[int 2, row 1 intI [0], row 1 intI [1], .own 7 0 (([(⟨[0], [1], [0], 1⟩ : f5), (⟨[], [1], [], 3⟩ : f5)]).length)]]), .dead, .dead, .dead, .dead, .dead, .dead, .one (vec 4 i3 ([(⟨[0], [1], [0], 1⟩ : f5), (⟨[], [1], [], 3⟩ : f5)]))]) Z Z (by exact ⟨⟨_, Z, .inl ⟨Z, Z⟩⟩, Y⟩) Z (by exact ⟨⟨Z, .inl ⟨Z, Z⟩, .inl ⟨Z, Z⟩, .inr ⟨_, Z, Z, Z⟩, .inl ⟨Z, Z⟩, Y⟩, trivial, trivial, trivial, trivial, trivial, trivial, FrzB.vec, Y⟩) (.frzV (id := 7) (l := [(⟨[0], [1], [0], 1⟩ : f5), (⟨[], [1], [], 3⟩ : f5)]) (env2 := [(0, .c (.ptr 0 0 0))]) (σ2 := [.one (.cells 4 [[int 2, row 1 intI [0], row 1 intI [1], row 4 i3 ([(⟨[0], [1], [0], 1⟩ : f5), (⟨[], [1], [], 3⟩ : f5)])]]), .dead, .dead, .dead, .dead, .dead, .dead, .dead]) Z Z (by exact ⟨⟨_, Z, .inl ⟨Z, Z⟩⟩, Y⟩) Z (by exact ⟨⟨Z, .inl ⟨Z, Z⟩, .inl ⟨Z, Z⟩, .inl ⟨Z, Z⟩, .inr ⟨_, Z, Z, Z⟩, Y⟩, trivial, trivial, trivial, trivial, trivial, trivial, trivial, Y⟩) (.ret ?_)))))))
 obtain rfl := oi h
 exact Done.ret Z Z
theorem L7 {cost : Int} {least : Int} {r : Int} (h : T0 cost least = some r) : e8 prog 39 [.c (int cost), .c (int least)] (.c (int r)) := by
 unfold e8
 refine FnOk.enter (rs := [.t 4]) func39 Z ntmps39 results39 Z ⟨trivial, Y⟩ (by kernel_rfl) Z ?_
 unfold T0 at h
 refine AWP.q (.u (.v Z Z (.nil (b6 (.q (.q (.u (.j Z Z (.ab Z Z Z (.nil (b6 (.ite Z h (fun hc3 h => ?_) (fun hc3 h => ?_)))))))))))))
 ·refine AWP.q (.u (.v Z Z (.nil (b6 (.ret (e6 ?_))))))
  obtain rfl := oi h
  exact Done.ret Z Z
 ·refine AWP.skip (b6 (.q (.u (.j Z Z (.j Z Z (S.sub Z Z Z (.v Z Z (.nil (b6 (.ret ?_))))))))))
  obtain rfl := oi h
  exact Done.ret Z Z
theorem al0 {t : d9} {op : Int} {r : Int × Int × i9} (h : Q6 t op = some r) : e8 prog 18 [.agg (tT t), .c (int op)] (.tup [.c (int r.1), .c (int r.2.1), .agg [int r.2.2.code, int r.2.2.index]]) := by
 unfold e8
 refine FnOk.enter (rs := [.t 4, .t 5, .cell 6 27 2]) func18 Z ntmps18 results18 Z ⟨trivial, trivial, rv _ Z, Y⟩ (by kernel_rfl) Z ?_
 unfold Q6 at h
 refine AWP.q (.u (W.box Z Z Z Z Z Z (.v Z Z (.v Z Z (W.alloc Z Z Z Z (.nil (b6 (.q (.q ?_)))))))))
 obtain ⟨a13, ha13, h⟩ := bind_some h
 refine AWP.u (W.loadAgg Z Z Z Z Z Z Z (.j Z Z (.F Z Z Z Z (R5 ha13) Z (W.alloc Z Z Z Z (W.storeAgg Z Z Z Z Z Z Z (.nil (b6 (.q (.u (W.loadAgg Z Z Z Z Z Z Z (W.build Z Z Z Z (.neqP Z Z Z Z Z Z Z (.nil (b6 (.ad Z h (fun hc3 h => ?_) (fun hc3 h => ?_))))))))))))))))
 ·refine AWP.q (.drawEI [3] mixed Z Z Z ?_)
  refine d6.consN Z Z (fun E => W.loadAgg Z Z Z Z Z Z Z .N) Z (.consN Z Z (fun E => AOps.v Z Z .N) Z (.consN Z Z (fun E => AOps.v Z Z .N) Z ?_))
  apply d6.consE (v := .undef); exact Z; exact Z; intro E
  refine W.storeAgg Z Z Z Z Z Z Z .N
  exact Z
  exact Z
  refine d6.done Z ?_ ?_
  ·refine d5.cons Z Z ?_ ?_
   refine b7.go Z Z (fun E => W.loadAgg Z Z Z Z Z Z Z .N) ?_
   refine b7.skip Z (b7.nil)
   refine d5.cons Z Z ?_ ?_
   refine b7.go Z Z (fun E => AOps.v Z Z .N) ?_
   refine b7.skip Z (b7.nil)
   refine d5.cons Z Z ?_ ?_
   refine b7.go Z Z (fun E => AOps.v Z Z .N) ?_
   refine b7.skip Z (b7.nil)
   refine d5.skip Z (d5.nil)
  dsimp only [i5]
  refine b6 (.ret (e6 ?_))
  obtain rfl := oi h
  exact Done.ret Z Z
 ·refine AWP.skip (b6 (.q ?_))
  obtain ⟨a20, ha20, h⟩ := bind_some h
  refine AWP.u (W.loadAgg Z Z Z Z Z Z Z (.F Z Z Z Z (M1 ha20) Z (.j Z Z (.ac Z Z Z (.ac Z Z Z (.v Z Z (W.storeAgg Z Z Z Z Z Z Z (.nil (b6 (.q (.q (.u (W.loadAgg Z Z Z Z Z Z Z (W.build Z Z Z Z (.neqP Z Z Z Z Z Z Z (.nil (b6 (.ad Z h (fun hc4 h => ?_) (fun hc4 h => ?_)))))))))))))))))))
  ·refine AWP.q (.drawEI [3] mixed Z Z Z ?_)
   refine d6.consN Z Z (fun E => W.loadAgg Z Z Z Z Z Z Z .N) Z (.consN Z Z (fun E => AOps.v Z Z .N) Z (.consN Z Z (fun E => AOps.v Z Z .N) Z ?_))
   apply d6.consE (v := .undef); exact Z; exact Z; intro E
   refine W.storeAgg Z Z Z Z Z Z Z .N
   exact Z
   exact Z
   refine d6.done Z ?_ ?_
   ·refine d5.cons Z Z ?_ ?_
    refine b7.go Z Z (fun E => W.loadAgg Z Z Z Z Z Z Z .N) ?_
    refine b7.skip Z (b7.nil)
    refine d5.cons Z Z ?_ ?_
    refine b7.go Z Z (fun E => AOps.v Z Z .N) ?_
    refine b7.skip Z (b7.nil)
    refine d5.cons Z Z ?_ ?_
    refine b7.go Z Z (fun E => AOps.v Z Z .N) ?_
    refine b7.skip Z (b7.nil)
    refine d5.skip Z (d5.nil)
   dsimp only [i5]
   refine b6 (.ret (e6 ?_))
   obtain rfl := oi h
   exact Done.ret Z Z
  ·refine AWP.skip (b6 (.q ?_))
   obtain ⟨a30, ha30, h⟩ := bind_some h
   refine AWP.u (W.loadAgg Z Z Z Z Z Z Z (.j Z Z (.F Z Z Z Z (ad3 ha30) Z (.j Z Z (.ac Z Z Z (.ac Z Z Z (.v Z Z (W.storeAgg Z Z Z Z Z Z Z (.nil (b6 (.q (.q (.u (W.loadAgg Z Z Z Z Z Z Z (W.build Z Z Z Z (.neqP Z Z Z Z Z Z Z (.nil (b6 (.ad Z h (fun hc5 h => ?_) (fun hc5 h => ?_))))))))))))))))))))
   ·refine AWP.q (.drawEI [3] mixed Z Z Z ?_)
    refine d6.consN Z Z (fun E => W.loadAgg Z Z Z Z Z Z Z .N) Z (.consN Z Z (fun E => AOps.v Z Z .N) Z (.consN Z Z (fun E => AOps.v Z Z .N) Z ?_))
    apply d6.consE (v := .undef); exact Z; exact Z; intro E
    refine W.storeAgg Z Z Z Z Z Z Z .N
    exact Z
    exact Z
    refine d6.done Z ?_ ?_
    ·refine d5.cons Z Z ?_ ?_
     refine b7.go Z Z (fun E => W.loadAgg Z Z Z Z Z Z Z .N) ?_
     refine b7.skip Z (b7.nil)
     refine d5.cons Z Z ?_ ?_
     refine b7.go Z Z (fun E => AOps.v Z Z .N) ?_
     refine b7.skip Z (b7.nil)
     refine d5.cons Z Z ?_ ?_
     refine b7.go Z Z (fun E => AOps.v Z Z .N) ?_
     refine b7.skip Z (b7.nil)
     refine d5.skip Z (d5.nil)
    dsimp only [i5]
    refine b6 (.ret (e6 ?_))
    obtain rfl := oi h
    exact Done.ret Z Z
   ·refine AWP.skip (b6 (.q ?_))
    obtain ⟨a40, ha40, h⟩ := bind_some h
    refine AWP.u (W.loadAgg Z Z Z Z Z Z Z (.j Z Z (.F Z Z Z Z (O0 ha40) Z (.j Z Z (.ac Z Z Z (.ac Z Z Z (.v Z Z (W.storeAgg Z Z Z Z Z Z Z (.nil (b6 (.q (.aa (.q (.u (W.loadAgg Z Z Z Z Z Z Z (W.build Z Z Z Z (.neqP Z Z Z Z Z Z Z (.v Z Z (.nil (b6 (.ad Z h (fun hc6 h => ?_) (fun hc6 h => ?_))))))))))))))))))))))
    ·refine AWP.q (.drawEI [3] mixed Z Z Z ?_)
     refine d6.consN Z Z (fun E => W.loadAgg Z Z Z Z Z Z Z .N) Z (.consN Z Z (fun E => AOps.v Z Z .N) Z (.consN Z Z (fun E => AOps.v Z Z .N) Z ?_))
     apply d6.consE (v := .undef); exact Z; exact Z; intro E
     refine W.storeAgg Z Z Z Z Z Z Z .N
     exact Z
     exact Z
     refine d6.done Z ?_ ?_
     ·refine d5.cons Z Z ?_ ?_
      refine b7.go Z Z (fun E => W.loadAgg Z Z Z Z Z Z Z .N) ?_
      refine b7.skip Z (b7.nil)
      refine d5.cons Z Z ?_ ?_
      refine b7.go Z Z (fun E => AOps.v Z Z .N) ?_
      refine b7.skip Z (b7.nil)
      refine d5.cons Z Z ?_ ?_
      refine b7.go Z Z (fun E => AOps.v Z Z .N) ?_
      refine b7.skip Z (b7.nil)
      refine d5.skip Z (d5.nil)
     dsimp only [i5]
     refine b6 (.ret (k9 (e6 ?_)))
     obtain rfl := oi h
     exact Done.ret Z Z
    ·refine AWP.q (.u (.j Z Z (.ab Z Z Z (.v Z Z (.nil (b6 (.ite Z h (fun hc7 h => ?_) (fun hc7 h => ?_))))))))
     ·refine AWP.q (.u (W.build Z Z Z Z (.v Z Z (.v Z Z (W.storeAgg Z Z Z Z Z Z Z (.nil (b6 (.ret (k9 (e6 ?_))))))))))
      obtain rfl := oi h
      exact Done.ret Z Z
     ·refine AWP.skip (e9 (b6 (.q ?_)))
      obtain ⟨a54, ha54, a57, ha57, h⟩ := b2 h
      refine AWP.drawEI [9] mixed Z Z Z ?_
      refine d6.consN Z Z (fun E => AOps.j Z Z .N) Z (.consN Z Z (fun E => AOps.j Z Z .N) Z (.consN Z Z (fun E => AOps.F Z Z Z Z (L7 ha54) Z .N) Z (.consN Z Z (fun E => AOps.j Z Z .N) Z (.consN Z Z (fun E => AOps.j Z Z .N) Z (.consN Z Z (fun E => AOps.F Z Z Z Z (L7 ha57) Z .N) Z (.consN Z Z (fun E => W.loadAgg Z Z Z Z Z Z Z .N) Z (.consN Z Z (fun E => AOps.v Z Z .N) Z (.consN Z Z (fun E => AOps.v Z Z .N) Z ?_))))))))
      apply d6.consE (v := .undef); exact Z; exact Z; intro E
      refine W.storeAgg Z Z Z Z Z Z Z .N
      exact Z
      exact Z
      refine d6.done Z ?_ ?_
      ·refine d5.cons Z Z ?_ ?_
       refine b7.go Z Z (fun E => AOps.j Z Z .N) ?_
       refine b7.skip Z (b7.nil)
       refine d5.cons Z Z ?_ ?_
       refine b7.go Z Z (fun E => AOps.j Z Z .N) ?_
       refine b7.skip Z (b7.nil)
       refine d5.cons Z Z ?_ ?_
       refine b7.go Z Z (fun E => AOps.F Z Z Z Z (L7 ha54) Z .N) ?_
       refine b7.skip Z (b7.nil)
       refine d5.cons Z Z ?_ ?_
       refine b7.go Z Z (fun E => AOps.j Z Z .N) ?_
       refine b7.skip Z (b7.nil)
       refine d5.cons Z Z ?_ ?_
       refine b7.go Z Z (fun E => AOps.j Z Z .N) ?_
       refine b7.skip Z (b7.nil)
       refine d5.cons Z Z ?_ ?_
       refine b7.go Z Z (fun E => AOps.F Z Z Z Z (L7 ha57) Z .N) ?_
       refine b7.skip Z (b7.nil)
       refine d5.cons Z Z ?_ ?_
       refine b7.go Z Z (fun E => W.loadAgg Z Z Z Z Z Z Z .N) ?_
       refine b7.skip Z (b7.nil)
       refine d5.cons Z Z ?_ ?_
       refine b7.go Z Z (fun E => AOps.v Z Z .N) ?_
       refine b7.skip Z (b7.nil)
       refine d5.cons Z Z ?_ ?_
       refine b7.go Z Z (fun E => AOps.v Z Z .N) ?_
       refine b7.skip Z (b7.nil)
       refine d5.skip Z (d5.nil)
      dsimp only [i5]
      refine b6 (.ret ?_)
      obtain rfl := oi h
      exact Done.ret Z Z
theorem R1 {r : Bool} (h : G2 = some r) : e8 prog 12 [] (.c (bool r)) := by
 unfold e8
 refine FnOk.enter (rs := [.t 0]) func12 Z ntmps12 results12 Z ⟨trivial, Y⟩ (by kernel_rfl) Z ?_
 unfold G2 at h
 refine AWP.q (.u (.v Z Z (.nil (b6 (.q ?_)))))
 obtain ⟨a9, ha9, a10, ha10, h⟩ := b2 h
 refine AWP.u (.F Z Z Z Z (ad4 ha9) Z (.F Z Z Z Z (ad3 ha10) Z (.j Z Z (.ac Z Z Z (.ac Z Z Z (W.alloc Z Z Z Z (.v Z Z (W.storeAgg Z Z Z Z Z Z Z (.nil (b6 (.q ?_)))))))))))
 obtain ⟨a14, ha14, a15, ha15, h⟩ := b2 h
 refine AWP.u (.F Z Z Z Z (ad4 ha14) Z (.F Z Z Z Z (O0 ha15) Z (.j Z Z (.ac Z Z Z (.ac Z Z Z (W.alloc Z Z Z Z (.v Z Z (W.storeAgg Z Z Z Z Z Z Z (.nil (b6 (.q ?_)))))))))))
 obtain ⟨a19, ha19, a20, ha20, h⟩ := b2 h
 refine AWP.u (.F Z Z Z Z (ad4 ha19) Z (.F Z Z Z Z (al0 ha20) Z (.j Z Z (.ac Z Z Z (.ac Z Z Z (.ac Z Z Z (W.alloc Z Z Z Z (.v Z Z (.v Z Z (W.storeAgg Z Z Z Z Z Z Z (.nil (b6 (.seqJ (⟨[(0, .c (bool (((((((decide (a10.2.code = 0)) && (decide (a15.2.code = 0))) && (decide (a20.2.2.code = 0))) && (decide (a10.1 = 3))) && (decide (a15.1 = 3))) && (decide (a20.1 = 0))) && (decide (a20.2.1 = 2)))))], [.one (.cells 2 [[int a10.2.code, int a10.2.index]]), .one (.cells 2 [[int a15.2.code, int a15.2.index]]), .one (.cells 2 [[int a20.2.2.code, int a20.2.2.index]])]⟩) ?_ ?_)))))))))))))
 ·rcases bft (decide (a10.2.code = 0)) with hb1 | hb1
  ·rcases bft (decide (a15.2.code = 0)) with hb2 | hb2
   ·rcases bft (decide (a20.2.2.code = 0)) with hb3 | hb3
    ·rcases bft (decide (a10.1 = 3)) with hb4 | hb4
     ·rcases bft (decide (a15.1 = 3)) with hb5 | hb5
      ·rcases bft (decide (a20.1 = 0)) with hb6 | hb6
       ·refine AWP.u (W.fieldAddr Z Z Z Z (.E Z Z Z Z Z Z (.ab Z Z Z (.j Z Z (.z Z Z Z hb1 (W.fieldAddr Z Z Z Z (.z Z Z Z hb1 (.E Z Z Z Z Z Z (.z Z Z Z hb1 (.ab Z Z Z (.U Z hb1 Z Z (.j Z Z (.z Z Z Z hb2 (W.fieldAddr Z Z Z Z (.z Z Z Z hb2 (.E Z Z Z Z Z Z (.z Z Z Z hb2 (.ab Z Z Z (.U Z hb2 Z Z (.j Z Z (.z Z Z Z hb3 (.j Z Z (.z Z Z Z hb3 (.ab Z Z Z (.U Z hb3 Z Z (.j Z Z (.z Z Z Z hb4 (.j Z Z (.z Z Z Z hb4 (.ab Z Z Z (.U Z hb4 Z Z (.j Z Z (.z Z Z Z hb5 (.j Z Z (.z Z Z Z hb5 (.ab Z Z Z (.U Z hb5 Z Z (.j Z Z (.z Z Z Z hb6 (.j Z Z (.z Z Z Z hb6 (.ab Z Z Z (.U Z hb6 Z Z (.v Z Z (.nil (b6 ?_))))))))))))))))))))))))))))))))))))))))))))))
        simp only [s5 hb1, or_t hb1, s5 hb2, or_t hb2, s5 hb3, or_t hb3, s5 hb4, or_t hb4, s5 hb5, or_t hb5, s5 hb6, or_t hb6, Bool.false_or, Bool.true_or, Bool.false_and, Bool.true_and]
        exact Sub.env ⟨Z, Y⟩
       ·refine AWP.u (W.fieldAddr Z Z Z Z (.E Z Z Z Z Z Z (.ab Z Z Z (.j Z Z (.z Z Z Z hb1 (W.fieldAddr Z Z Z Z (.z Z Z Z hb1 (.E Z Z Z Z Z Z (.z Z Z Z hb1 (.ab Z Z Z (.U Z hb1 Z Z (.j Z Z (.z Z Z Z hb2 (W.fieldAddr Z Z Z Z (.z Z Z Z hb2 (.E Z Z Z Z Z Z (.z Z Z Z hb2 (.ab Z Z Z (.U Z hb2 Z Z (.j Z Z (.z Z Z Z hb3 (.j Z Z (.z Z Z Z hb3 (.ab Z Z Z (.U Z hb3 Z Z (.j Z Z (.z Z Z Z hb4 (.j Z Z (.z Z Z Z hb4 (.ab Z Z Z (.U Z hb4 Z Z (.j Z Z (.z Z Z Z hb5 (.j Z Z (.z Z Z Z hb5 (.ab Z Z Z (.U Z hb5 Z Z (.j Z Z (.B Z Z Z hb6 (.B Z Z Z hb6 (.O Z hb6 Z Z (.v Z Z (.nil (b6 ?_))))))))))))))))))))))))))))))))))))))))))))
        simp only [s5 hb1, or_t hb1, s5 hb2, or_t hb2, s5 hb3, or_t hb3, s5 hb4, or_t hb4, s5 hb5, or_t hb5, E3 hb6, or_f hb6, Bool.false_or, Bool.true_or, Bool.false_and, Bool.true_and]
        exact Sub.env ⟨Z, Y⟩
      ·refine AWP.u (W.fieldAddr Z Z Z Z (.E Z Z Z Z Z Z (.ab Z Z Z (.j Z Z (.z Z Z Z hb1 (W.fieldAddr Z Z Z Z (.z Z Z Z hb1 (.E Z Z Z Z Z Z (.z Z Z Z hb1 (.ab Z Z Z (.U Z hb1 Z Z (.j Z Z (.z Z Z Z hb2 (W.fieldAddr Z Z Z Z (.z Z Z Z hb2 (.E Z Z Z Z Z Z (.z Z Z Z hb2 (.ab Z Z Z (.U Z hb2 Z Z (.j Z Z (.z Z Z Z hb3 (.j Z Z (.z Z Z Z hb3 (.ab Z Z Z (.U Z hb3 Z Z (.j Z Z (.z Z Z Z hb4 (.j Z Z (.z Z Z Z hb4 (.ab Z Z Z (.U Z hb4 Z Z (.j Z Z (.B Z Z Z hb5 (.B Z Z Z hb5 (.O Z hb5 Z Z (.j Z Z (.B Z Z Z Z (.B Z Z Z Z (.O Z Z Z Z (.v Z Z (.nil (b6 ?_))))))))))))))))))))))))))))))))))))))))))
       simp only [s5 hb1, or_t hb1, s5 hb2, or_t hb2, s5 hb3, or_t hb3, s5 hb4, or_t hb4, E3 hb5, or_f hb5, Bool.false_or, Bool.true_or, Bool.false_and, Bool.true_and]
       exact Sub.env ⟨Z, Y⟩
     ·refine AWP.u (W.fieldAddr Z Z Z Z (.E Z Z Z Z Z Z (.ab Z Z Z (.j Z Z (.z Z Z Z hb1 (W.fieldAddr Z Z Z Z (.z Z Z Z hb1 (.E Z Z Z Z Z Z (.z Z Z Z hb1 (.ab Z Z Z (.U Z hb1 Z Z (.j Z Z (.z Z Z Z hb2 (W.fieldAddr Z Z Z Z (.z Z Z Z hb2 (.E Z Z Z Z Z Z (.z Z Z Z hb2 (.ab Z Z Z (.U Z hb2 Z Z (.j Z Z (.z Z Z Z hb3 (.j Z Z (.z Z Z Z hb3 (.ab Z Z Z (.U Z hb3 Z Z (.j Z Z (.B Z Z Z hb4 (.B Z Z Z hb4 (.O Z hb4 Z Z (.j Z Z (.B Z Z Z Z (.B Z Z Z Z (.O Z Z Z Z (.j Z Z (.B Z Z Z Z (.B Z Z Z Z (.O Z Z Z Z (.v Z Z (.nil (b6 ?_))))))))))))))))))))))))))))))))))))))))
      simp only [s5 hb1, or_t hb1, s5 hb2, or_t hb2, s5 hb3, or_t hb3, E3 hb4, or_f hb4, Bool.false_or, Bool.true_or, Bool.false_and, Bool.true_and]
      exact Sub.env ⟨Z, Y⟩
    ·refine AWP.u (W.fieldAddr Z Z Z Z (.E Z Z Z Z Z Z (.ab Z Z Z (.j Z Z (.z Z Z Z hb1 (W.fieldAddr Z Z Z Z (.z Z Z Z hb1 (.E Z Z Z Z Z Z (.z Z Z Z hb1 (.ab Z Z Z (.U Z hb1 Z Z (.j Z Z (.z Z Z Z hb2 (W.fieldAddr Z Z Z Z (.z Z Z Z hb2 (.E Z Z Z Z Z Z (.z Z Z Z hb2 (.ab Z Z Z (.U Z hb2 Z Z (.j Z Z (.B Z Z Z hb3 (.B Z Z Z hb3 (.O Z hb3 Z Z (.j Z Z (.B Z Z Z Z (.B Z Z Z Z (.O Z Z Z Z (.j Z Z (.B Z Z Z Z (.B Z Z Z Z (.O Z Z Z Z (.j Z Z (.B Z Z Z Z (.B Z Z Z Z (.O Z Z Z Z (.v Z Z (.nil (b6 ?_))))))))))))))))))))))))))))))))))))))
     simp only [s5 hb1, or_t hb1, s5 hb2, or_t hb2, E3 hb3, or_f hb3, Bool.false_or, Bool.true_or, Bool.false_and, Bool.true_and]
     exact Sub.env ⟨Z, Y⟩
   ·refine AWP.u (W.fieldAddr Z Z Z Z (.E Z Z Z Z Z Z (.ab Z Z Z (.j Z Z (.z Z Z Z hb1 (W.fieldAddr Z Z Z Z (.z Z Z Z hb1 (.E Z Z Z Z Z Z (.z Z Z Z hb1 (.ab Z Z Z (.U Z hb1 Z Z (.j Z Z (.B Z Z Z hb2 (.B Z Z Z hb2 (.B Z Z Z hb2 (.O Z hb2 Z Z (.j Z Z (.B Z Z Z Z (.B Z Z Z Z (.O Z Z Z Z (.j Z Z (.B Z Z Z Z (.B Z Z Z Z (.O Z Z Z Z (.j Z Z (.B Z Z Z Z (.B Z Z Z Z (.O Z Z Z Z (.j Z Z (.B Z Z Z Z (.B Z Z Z Z (.O Z Z Z Z (.v Z Z (.nil (b6 ?_)))))))))))))))))))))))))))))))))))
    simp only [s5 hb1, or_t hb1, E3 hb2, or_f hb2, Bool.false_or, Bool.true_or, Bool.false_and, Bool.true_and]
    exact Sub.env ⟨Z, Y⟩
  ·refine AWP.u (W.fieldAddr Z Z Z Z (.E Z Z Z Z Z Z (.ab Z Z Z (.j Z Z (.B Z Z Z hb1 (.B Z Z Z hb1 (.B Z Z Z hb1 (.O Z hb1 Z Z (.j Z Z (.B Z Z Z Z (.B Z Z Z Z (.B Z Z Z Z (.O Z Z Z Z (.j Z Z (.B Z Z Z Z (.B Z Z Z Z (.O Z Z Z Z (.j Z Z (.B Z Z Z Z (.B Z Z Z Z (.O Z Z Z Z (.j Z Z (.B Z Z Z Z (.B Z Z Z Z (.O Z Z Z Z (.j Z Z (.B Z Z Z Z (.B Z Z Z Z (.O Z Z Z Z (.v Z Z (.nil (b6 ?_))))))))))))))))))))))))))))))))
   simp only [E3 hb1, or_f hb1, Bool.false_or, Bool.true_or, Bool.false_and, Bool.true_and]
   exact Sub.env ⟨Z, Y⟩
 ·refine AWP.ret ?_
  obtain rfl := oi h
  exact Done.ret Z Z
theorem J9 {sv : List Int} {r : Int} (h : I1 sv = some r) : e8 prog 51 [.c (row 1 intI sv)] (.c (int r)) := by
 unfold e8
 refine FnOk.enter (rs := [.t 2]) func51 Z ntmps51 results51 Z ⟨trivial, Y⟩ (by kernel_rfl) Z ?_
 unfold I1 at h
 refine AWP.q (.u (.v Z Z (.nil (b6 (.q (.u (.v Z Z (.nil (b6 (.q (.q (.u (.v Z Z (.nil (b6 (.aa ?_))))))))))))))))
 obtain ⟨w2, ho1, h⟩ := bind_some h
 refine AWP.forS ho1 (fun iv3 w2 => ⟨[(0, .c (row 1 intI sv)), (3, .c (int w2)), (4, .c (int iv3))], []⟩) (fun w2 e st => e = .exit 0 ∧ Sub [] st ⟨[(3, .c (int w2))], []⟩) ?_ ?_ ?_ ?_
 ·try dsimp only
  exact Sub.env ⟨Z, Z, Z, Y⟩
 ·intro iv3 w2 hloiv3 hltiv3 _
  try dsimp only
  refine AWP.q (.q (.u (.j Z Z (.j Z Z (S.len Z Z (fun hl7 => .J Z Z Z (.nil (b6 (.ag Z hltiv3 (.exit (e7 (e7 ⟨Z, ?_⟩))))))))))))
  exact Sub.env ⟨Z, Y⟩
 ·intro iv3 w2 o hloiv3 hltiv3 h
  unfold W9 at h
  try dsimp only at h ⊢
  refine AWP.q (.q (.u (.j Z Z (.j Z Z (S.len Z Z (fun hl7 => .J Z Z Z (.nil (b6 (.ah Z hltiv3 (.skip (b6 (.q (.aa ?_)))))))))))))
  obtain ⟨a14, ha14, u17, hu17, h⟩ := b2 h
  refine AWP.u (.j Z Z (.j Z Z (.j Z Z (S.idx ha14 Z Z Z Z (.ai Z Z Z Z (.convInt Z Z (S.shl hu17 Z Z Z (S.add Z Z Z (.v Z Z (.nil (e9 (b6 (.u (.j Z Z (.add Z Z Z (by omega) (.v Z Z (.nil ?_)))))))))))))))))
  obtain rfl := oi h
  refine b6 (Sub.env ⟨Z, Z, Z, Y⟩)
 ·intro e s hq
  obtain ⟨rfl, hs⟩ := hq
  refine ⟨_, hs, ?_⟩
  refine j7 (b6 (.q (.u (.j Z Z (.v Z Z (.nil (b6 (.ret ?_))))))))
  obtain rfl := oi h
  exact Done.ret Z Z
theorem ag0 {part : List Int} {l : List Int} {r : Bool} (h : N6 part l = some r) : e8 prog 27 [.c (row 1 intI part), .c (row 1 intI l)] (.c (bool r)) := by
 unfold e8
 refine FnOk.enter (rs := [.t 4]) func27 Z ntmps27 results27 Z ⟨trivial, Y⟩ (by kernel_rfl) Z ?_
 unfold N6 at h
 refine AWP.q (.u (.v Z Z (.nil (b6 (.q (.q (.u (.v Z Z (.nil (b6 (.aa ?_)))))))))))
 obtain ⟨oo, ho1, h⟩ := bind_some h
 refine AWP.rngS ho1 (fun iv3 _ => ⟨[(0, .c (row 1 intI part)), (1, .c (row 1 intI l)), (5, .c (int iv3))], []⟩) (fun o e st => match o with | .inl _ => e = .exit 0 ∧ Sub [] st ⟨[], []⟩ | .inr x => e = .ret ∧ Done [.t 4] (fun t _ => t = .c (bool x)) .ret st) ?_ ?_ ?_ ?_
 ·try dsimp only
  exact Sub.env ⟨Z, Z, Z, Y⟩
 ·intro iv3 s hloiv3 hltiv3 _
  try dsimp only
  refine AWP.q (.q (.u (.j Z Z (.j Z Z (S.len Z Z (fun hl8 => .J Z Z Z (.nil (b6 (.ag Z hltiv3 (.exit (e7 (e7 ⟨Z, ?_⟩))))))))))))
  exact Sub.env trivial
 ·intro iv3 s o hloiv3 hltiv3 h
  unfold Y4 at h
  try dsimp only at h ⊢
  refine AWP.q (.q (.u (.j Z Z (.j Z Z (S.len Z Z (fun hl8 => .J Z Z Z (.nil (b6 (.ah Z hltiv3 (.skip (b6 (.q (.aa (.q ?_))))))))))))))
  obtain ⟨a15, ha15, a17, ha17, h⟩ := b2 h
  refine AWP.u (.j Z Z (.j Z Z (.j Z Z (S.idx ha15 Z Z Z Z (.ai Z Z Z Z (.F Z Z Z Z (C6 ha17) Z (.ae Z Z (.nil (b6 (.ad Z h (fun hc4 h => ?_) (fun hc4 h => ?_)))))))))))
  ·refine AWP.q (.u (.v Z Z (.nil (b6 (.ret (k9 (e6 ?_)))))))
   obtain rfl := oi h
   refine e6 ⟨_, Z, Z, ?_⟩
   exact Done.ret Z Z
  ·refine AWP.skip (e9 (b6 (.u (.j Z Z (.add Z Z Z (by omega) (.v Z Z (.nil ?_)))))))
   obtain rfl := oi h
   refine b6 ⟨_, Z, ?_⟩
   exact Sub.env ⟨Z, Z, Z, Y⟩
 ·intro e s hq
  rcases oo with u | x
  ·try dsimp only at h hq
   obtain ⟨rfl, hs⟩ := hq
   refine ⟨_, hs, ?_⟩
   refine j7 (b6 (.q (.u (.v Z Z (.nil (b6 (.ret ?_)))))))
   obtain rfl := oi h
   exact Done.ret Z Z
  ·try dsimp only at h hq
   obtain ⟨rfl, hs⟩ := hq
   refine ⟨_, Sub.refl _ _, ?_⟩
   refine k9 (e6 ?_)
   obtain rfl := oi h
   exact hs
theorem ae4 {t : d9} {sv : List Int} {op : Int} {r : Bool} (h : J8 t sv op = some r) : e8 prog 36 [.agg (tT t), .c (row 1 intI sv), .c (int op)] (.c (bool r)) := by
 unfold e8
 refine FnOk.enter (rs := [.t 6]) func36 Z ntmps36 results36 Z ⟨trivial, Y⟩ (by kernel_rfl) Z ?_
 unfold J8 at h
 refine AWP.q (.u (W.box Z Z Z Z Z Z (.v Z Z (.nil (b6 (.q ?_))))))
 obtain ⟨a10, ha10, a14, ha14, h⟩ := b2 h
 refine AWP.u (W.fieldAddr Z Z Z Z (.E Z Z Z Z Z Z (.j Z Z (S.idx ha10 Z Z Z Z (W.fieldAddrI Z Z Z Z (.ai Z Z Z Z (.j Z Z (.F Z Z Z Z (ag0 ha14) Z (.v Z Z (.nil (b6 (.ret ?_))))))))))))
 obtain rfl := oi h
 exact Done.ret Z Z
theorem ai7 {t : d9} {sv : List Int} {op : Int} {r : (List Int)} (h : R2 t sv op = some r) : n5 prog 38 [.agg (tT t), .c (row 1 intI sv), .c (int op)] 1 (List.map intI r) := by
 unfold n5
 refine FnOk.enter (rs := [.t 6]) func38 Z ntmps38 results38 Z ⟨trivial, Y⟩ (by kernel_rfl) Z ?_
 unfold R2 at h
 refine AWP.q (.u (W.box Z Z Z Z Z Z (.v Z Z (.nil (b6 (.q (.u (.v Z Z (.nil (b6 (.q (.q (.u (.v Z Z (.nil (b6 (.aa (.virtV 1 intI 7 Z Z Z ?_))))))))))))))))))
 obtain ⟨hnp5, h⟩ := ite_none h
 obtain ⟨c4, ho1, h⟩ := bind_some h
 refine AWP.forS ho1 (fun p5 c4 => ⟨[(1, .c (row 1 intI sv)), (2, .c (int op)), (3, .c (.ptr 0 0 0)), (7, .c (.own 1 0 c4.length)), (8, .c (int p5))], [.one (.cells 4 [(tT t)]), .one (vec 1 intI c4)]⟩) (fun c4 e st => e = .exit 0 ∧ Sub [] st ⟨[(7, .c (.own 1 0 c4.length))], [.one (.cells 4 [(tT t)]), .one (vec 1 intI c4)]⟩) ?_ ?_ ?_ ?_
 ·try dsimp only
  exact Sub.env ⟨Z, Z, Z, (H6 (by first | rfl | simp only [List.length_set])), Z, Y⟩
 ·intro p5 c4 hlop5 hltp5 _
  try dsimp only
  refine AWP.q (.q (.u (.j Z Z (W.fieldAddr Z Z Z Z (.E Z Z Z Z Z Z (.J Z Z Z (.nil (b6 (.ag Z hltp5 (.exit (e7 (e7 ⟨Z, ?_⟩))))))))))))
  exact Sub.env ⟨Z, Y⟩
 ·intro p5 c4 o hlop5 hltp5 h
  unfold ab1 at h
  try dsimp only at h ⊢
  refine AWP.q (.q (.u (.j Z Z (W.fieldAddr Z Z Z Z (.E Z Z Z Z Z Z (.J Z Z Z (.nil (b6 (.ah Z hltp5 (.skip (b6 ?_)))))))))))
  obtain ⟨c6, hx7, h⟩ := bind_some h
  refine AWP.seqJ (⟨[(1, .c (row 1 intI sv)), (2, .c (int op)), (3, .c (.ptr 0 0 0)), (7, .c (.own 3 0 c6.length)), (8, .c (int p5))], [.one (.cells 4 [(tT t)]), .dead, .dead, .one (vec 1 intI c6)]⟩) ?_ ?_
  ·refine AWP.aa ?_
   obtain ⟨t8, hx9, hx7⟩ := bind_some hx7
   refine AWP.seqJ (⟨[(1, .c (row 1 intI sv)), (2, .c (int op)), (3, .c (.ptr 0 0 0)), (7, .c (.own 1 0 c4.length)), (8, .c (int p5)), (38, .c (bool t8))], [.one (.cells 4 [(tT t)]), .one (vec 1 intI c4)]⟩) ?_ ?_
   ·obtain ⟨a18, ha18, a22, ha22, hx9⟩ := b2 hx9
    rcases bft (a22) with hb10 | hb10
    ·replace hx9 := K9 hb10 hx9
     refine AWP.u (W.fieldAddr Z Z Z Z (.E Z Z Z Z Z Z (.j Z Z (S.idx ha18 Z Z Z Z (W.fieldAddrI Z Z Z Z (.ai Z Z Z Z (.j Z Z (.F Z Z Z Z (C6 ha22) Z (.j Z Z (.B Z Z Z hb10 (.B Z Z Z hb10 (.B Z Z Z hb10 (.B Z Z Z hb10 (.af Z Z Z (.af Z Z Z (.af Z Z Z (.af Z Z Z (.af Z Z Z (.af Z Z Z (.af Z Z Z (.af Z Z Z (.af Z Z Z (.B Z Z Z hb10 (.U Z hb10 Z Z (.nil ?_)))))))))))))))))))))))))
     obtain rfl := oi hx9
     refine b6 (Sub.env ⟨Z, Z, Z, Z, Z, Z, Y⟩)
    ·replace hx9 := L3 hb10 hx9
     obtain ⟨a26, ha26, hx9⟩ := bind_some hx9
     rcases bft (a26) with hb11 | hb11
     ·replace hx9 := K9 hb11 hx9
      obtain ⟨a31, ha31, a35, ha35, hx9⟩ := b2 hx9
      refine AWP.u (W.fieldAddr Z Z Z Z (.E Z Z Z Z Z Z (.j Z Z (S.idx ha18 Z Z Z Z (W.fieldAddrI Z Z Z Z (.ai Z Z Z Z (.j Z Z (.F Z Z Z Z (C6 ha22) Z (.j Z Z (.z Z Z Z hb10 (.j Z Z (.z Z Z Z hb10 (.j Z Z (.z Z Z Z hb10 (.F Z Z Z Z (C6 ha26) Z (.z Z Z Z hb10 (.j Z Z (.z Z Z Z hb11 (W.fieldAddr Z Z Z Z (.z Z Z Z hb11 (.E Z Z Z Z Z Z (.z Z Z Z hb11 (.j Z Z (.z Z Z Z hb11 (S.idx ha31 Z Z Z Z (.z Z Z Z hb11 (W.fieldAddrI Z Z Z Z (.z Z Z Z hb11 (.ai Z Z Z Z (.z Z Z Z hb11 (.j Z Z (.z Z Z Z hb11 (.F Z Z Z Z (C6 ha35) Z (.z Z Z Z hb11 (.ae Z Z (.z Z Z Z hb10 (.U Z hb11 Z Z (.O Z hb10 Z Z (.nil ?_)))))))))))))))))))))))))))))))))))))))
      obtain rfl := oi hx9
      refine b6 (Sub.env ⟨Z, Z, Z, Z, Z, Z, Y⟩)
     ·replace hx9 := L3 hb11 hx9
      refine AWP.u (W.fieldAddr Z Z Z Z (.E Z Z Z Z Z Z (.j Z Z (S.idx ha18 Z Z Z Z (W.fieldAddrI Z Z Z Z (.ai Z Z Z Z (.j Z Z (.F Z Z Z Z (C6 ha22) Z (.j Z Z (.z Z Z Z hb10 (.j Z Z (.z Z Z Z hb10 (.j Z Z (.z Z Z Z hb10 (.F Z Z Z Z (C6 ha26) Z (.z Z Z Z hb10 (.j Z Z (.B Z Z Z hb11 (.B Z Z Z hb11 (.B Z Z Z hb11 (.B Z Z Z hb11 (.B Z Z Z hb11 (.B Z Z Z hb11 (.B Z Z Z hb11 (.B Z Z Z hb11 (.B Z Z Z hb11 (.z Z Z Z hb10 (.O Z hb11 Z Z (.O Z hb10 Z Z (.nil ?_))))))))))))))))))))))))))))))
      obtain rfl := oi hx9
      refine b6 (Sub.env ⟨Z, Z, Z, Z, Z, Z, Y⟩)
   ·refine AWP.ad Z hx7 (fun hc12 hx7 => ?_) (fun hc12 hx7 => ?_)
    ·obtain ⟨a42, ha42, hx7⟩ := bind_some hx7
     refine AWP.u (.j Z Z (.j Z Z (S.lit (f := intI) (l := [p5]) (ess := [[int p5]]) Z Z Z Z Z Z Z ⟨⟨.inl Z, Y⟩, Y⟩ Z Z Z (S.append (f := intI) ha42 Z Z Z Z Z Z (.own Z Z) Z Z Z Z (.v Z Z (.nil (e9 ?_)))))))
     obtain rfl := oi hx7
     refine b6 (Sub.cut ⟨Z, Z, Z, Z, Z, Y⟩ Z ⟨.one Z, .dead, .dead, .vec, Y⟩ Z)
    ·refine AWP.skip (e9 ?_)
     obtain rfl := oi hx7
     refine b6 ((Sub.move (env' := [(1, .c (row 1 intI sv)), (2, .c (int op)), (3, .c (.ptr 0 0 0)), (7, .c (.own 3 0 c4.length)), (8, .c (int p5))]) (σ' := [.one (.cells 4 [(tT t)]), .dead, .dead, .one (vec 1 intI c4)]) 3 1 Z Z Z ⟨Z, Z, Z, Z, Z, Y⟩ Z ⟨⟨Z, Z⟩, trivial, trivial, ⟨Blk.im_ok _ _ _, f7 Z⟩, Y⟩).trans (Sub.env ⟨Z, Z, Z, Z, Z, Y⟩))
  ·refine AWP.u (.j Z Z (.add Z Z Z (by omega) (.v Z Z (.nil ?_))))
   obtain rfl := oi h
   refine b6 ((Sub.move (env' := [(1, .c (row 1 intI sv)), (2, .c (int op)), (3, .c (.ptr 0 0 0)), (7, .c (.own 1 0 c6.length)), (8, .c (int (p5 + 1)))]) (σ' := [.one (.cells 4 [(tT t)]), .one (vec 1 intI c6), .dead]) 1 3 Z Z Z ⟨Z, Z, Z, Z, Z, Y⟩ Z ⟨⟨Z, Z⟩, ⟨Blk.im_ok _ _ _, f7 Z⟩, trivial, Y⟩).trans (Sub.cut ⟨Z, Z, Z, Z, Z, Y⟩ Z ⟨.one Z, .vec, Y⟩ Z))
 ·intro e s hq
  obtain ⟨rfl, hs⟩ := hq
  refine ⟨_, hs, ?_⟩
  refine j7 (b6 (.q (.u (.j Z Z (.v Z Z (.nil (b6 (.ret ?_))))))))
  obtain rfl := oi h
  exact Done.ret Z (Fresh.mk Z Z)
end Ab
end
section
namespace Ab
open Go Go.Proofs
open Try
set_option maxHeartbeats 4000000
set_option linter.all false
attribute [local irreducible] AWP AOps thn inB Done e8 n5 Sub
theorem aj0 {t : d9} {sv : List Int} {r : (List (List Int)) × Bool} (h : L9 t sv = some r) : e8 prog 33 [.agg (tT t), .c (row 1 intI sv)] (.tup [.c (row 1 q7 r.1), .c (bool r.2)]) := by
 unfold e8
 refine FnOk.enter (rs := [.t 4, .t 5]) func33 Z ntmps33 results33 Z ⟨trivial, trivial, Y⟩ (by kernel_rfl) Z ?_
 unfold L9 at h
 refine AWP.q (.u (W.box Z Z Z Z Z Z (.v Z Z (.v Z Z (.nil (b6 (.q (.u (.j Z Z (S.lit (f := q7) (l := [sv]) (ess := [[row 1 intI sv]]) Z Z Z Z Z Z Z ⟨⟨.inl Z, Y⟩, Y⟩ Z Z Z (.v Z Z (.nil (b6 (.q ?_))))))))))))))
 obtain ⟨a14, ha14, h⟩ := bind_some h
 refine AWP.u (.j Z Z (.F Z Z Z Z (J9 ha14) Z (S.lit (f := intI) (l := [a14]) (ess := [[int a14]]) Z Z Z Z Z Z Z ⟨⟨.inl Z, Y⟩, Y⟩ Z Z Z (.v Z Z (.nil (b6 (.q (.q (.u (.v Z Z (.nil (b6 (.aa ?_)))))))))))))
 obtain ⟨oo, ho1, h⟩ := bind_some h
 refine AWP.loopS ho1 (fun (c3, c4, iv5) => ⟨[(2, .c (.ptr 0 0 0)), (6, .c (.own 1 0 c3.length)), (7, .c (.own 2 0 c4.length)), (8, .c (int iv5))], [.one (.cells 4 [(tT t)]), .one (vec 1 q7 c3), .one (vec 1 intI c4)]⟩) (fun o e st => match o with | .inl c6 => e = .exit 0 ∧ Sub [] st ⟨[(6, .c (.own 1 0 c6.length))], [.dead, .one (vec 1 q7 c6)]⟩ | .inr x => e = .ret ∧ Done [.t 4, .t 5] (fun t _ => t = .tup [.c (row 1 q7 x.1), .c (bool x.2)]) .ret st) ?_ ?_ ?_
 ·try dsimp only
  exact Sub.env ⟨Z, Z, Z, Z, Y⟩
 ·intro s o h
  obtain ⟨c3, c4, iv5⟩ := s
  unfold H4 at h
  try dsimp only at h ⊢
  refine AWP.q (.q (.u (.j Z Z (.j Z Z (S.lenO Z Z Z (fun hl18 => .J Z Z Z (.nil (b6 (.ite Z h (fun hc7 h => ?_) (fun hc7 h => ?_))))))))))
  ·refine AWP.skip (b6 (.q (.aa (.q (.u (.v Z Z (.nil (b6 (.aa ?_)))))))))
   obtain ⟨oo, ho2, h⟩ := bind_some h
   refine AWP.rngS ho2 (fun op10 (c8, c9) => ⟨[(2, .c (.ptr 0 0 0)), (6, .c (.own 1 0 c8.length)), (7, .c (.own 2 0 c9.length)), (8, .c (int iv5)), (9, .c (int op10))], [.one (.cells 4 [(tT t)]), .one (vec 1 q7 c8), .one (vec 1 intI c9)]⟩) (fun o e st => match o with | .inl (c8, c9) => e = .exit 2 ∧ Sub [] st ⟨[(2, .c (.ptr 0 0 0)), (6, .c (.own 1 0 c8.length)), (7, .c (.own 2 0 c9.length)), (8, .c (int iv5))], [.one (.cells 4 [(tT t)]), .one (vec 1 q7 c8), .one (vec 1 intI c9)]⟩ | .inr x => e = .ret ∧ Done [.t 4, .t 5] (fun t _ => t = .tup [.c (row 1 q7 x.1), .c (bool x.2)]) .ret st) ?_ ?_ ?_ ?_
   ·try dsimp only
    exact Sub.env ⟨Z, Z, Z, Z, Z, Y⟩
   ·intro op10 s hloop10 hltop10 _
    obtain ⟨c8, c9⟩ := s
    try dsimp only
    refine AWP.q (.q (.u (.j Z Z (W.fieldAddr Z Z Z Z (.E Z Z Z Z Z Z (S.len Z Z (fun hl25 => .J Z Z Z (.nil (b6 (.ag Z hltop10 (.exit (e7 (e7 ⟨Z, ?_⟩)))))))))))))
    exact Sub.env ⟨Z, Z, Z, Z, Y⟩
   ·intro op10 s o hloop10 hltop10 h
    obtain ⟨c8, c9⟩ := s
    unfold z7 at h
    try dsimp only at h ⊢
    refine AWP.q (.q (.u (.j Z Z (W.fieldAddr Z Z Z Z (.E Z Z Z Z Z Z (S.len Z Z (fun hl25 => .J Z Z Z (.nil (b6 (.ah Z hltop10 (.skip (b6 (.seqF (C1) o (fun (c11, c12) => ⟨[(2, .c (.ptr 0 0 0)), (6, .c (.own 1 0 c11.length)), (7, .c (.own 2 0 c12.length)), (8, .c (int iv5)), (9, .c (int op10))], [.one (.cells 4 [(tT t)]), .one (vec 1 q7 c11), .one (vec 1 intI c12)]⟩) (fun x h => ?_) ?_)))))))))))))
    ·obtain ⟨c11, c12⟩ := x
     unfold C1 at h
     try dsimp only at h ⊢
     refine AWP.u (.j Z Z (.add Z Z Z (by omega) (.v Z Z (.nil ?_))))
     obtain rfl := oi h
     refine b6 ⟨_, Z, ?_⟩
     exact Sub.env ⟨Z, Z, Z, Z, Z, Y⟩
    ·refine AWP.aa (.q (.q ?_))
     obtain ⟨a32, ha32, a35, ha35, h⟩ := b2 h
     refine AWP.drawI mixed Z ?_
     refine i8.consF Z (fun E => W.loadAgg Z Z Z Z Z Z Z .N) Z (.consF Z (fun E => AOps.j Z Z .N) Z (.consF Z (fun E => AOps.j Z Z .N) Z (.consF Z (fun E => S.idxO ha32 Z Z Z Z Z .N) Z (.consF Z (fun E => S.loadO ha32 Z Z Z Z Z .N) Z (.consF Z (fun E => AOps.j Z Z .N) Z (.consF Z (fun E => AOps.F Z Z Z Z (ae4 ha35) Z .N) Z (.consF Z (fun E => AOps.ae Z Z .N) Z ?_)))))))
     refine i8.done ?_
     dsimp only [i5]
     refine b6 (.ad Z h (fun hc13 h => ?_) (fun hc13 h => ?_))
     ·refine AWP.exit (e7 (j7 (b6 ⟨_, h, ?_⟩)))
      exact Sub.env ⟨Z, Z, Z, Z, Z, Y⟩
     ·refine AWP.skip (b6 (.q ?_))
      obtain ⟨a40, ha40, a43, ha43, h⟩ := b2 h
      refine AWP.drawEI [6] mixed Z Z Z ?_
      refine d6.consN Z Z (fun E => W.loadAgg Z Z Z Z Z Z Z .N) Z (.consN Z Z (fun E => AOps.j Z Z .N) Z (.consN Z Z (fun E => AOps.j Z Z .N) Z (.consN Z Z (fun E => S.idxO ha40 Z Z Z Z Z .N) Z (.consN Z Z (fun E => S.loadO ha40 Z Z Z Z Z .N) Z (.consN Z Z (fun E => AOps.j Z Z .N) Z ?_)))))
      apply d6.consE; exact Z; exact Z; intro E
      refine S.fresh Z Z Z Z (ai7 ha43) Z Z .N
      exact Z
      exact Z
      refine d6.consN Z Z (fun E => AOps.v Z Z .N) Z ?_
      refine d6.done Z ?_ ?_
      ·refine d5.cons Z Z ?_ ?_
       refine b7.go Z Z (fun E => W.loadAgg Z Z Z Z Z Z Z .N) ?_
       refine b7.skip Z (b7.nil)
       refine d5.cons Z Z ?_ ?_
       refine b7.go Z Z (fun E => AOps.j Z Z .N) ?_
       refine b7.skip Z (b7.nil)
       refine d5.cons Z Z ?_ ?_
       refine b7.go Z Z (fun E => AOps.j Z Z .N) ?_
       refine b7.skip Z (b7.nil)
       refine d5.cons Z Z ?_ ?_
       refine b7.go Z Z (fun E => S.idxO ha40 Z Z Z Z Z .N) ?_
       refine b7.skip Z (b7.nil)
       refine d5.cons Z Z ?_ ?_
       refine b7.go Z Z (fun E => S.loadO ha40 Z Z Z Z Z .N) ?_
       refine b7.skip Z (b7.nil)
       refine d5.cons Z Z ?_ ?_
       refine b7.go Z Z (fun E => AOps.j Z Z .N) ?_
       refine b7.skip Z (b7.nil)
       refine d5.skip Z ?_
       refine d5.cons Z Z ?_ ?_
       refine b7.skip Z ?_
       refine b7.go Z Z (fun E => AOps.v Z Z .N) ?_
       exact b7.nil
       exact d5.nil
      dsimp only [i5]
      refine b6 (.q (.q ?_))
      obtain ⟨a46, ha46, a47, ha47, h⟩ := b2 h
      refine AWP.u (.j Z Z (.j Z Z (.callL Z Z (.cons (.c (.own Z Z)) .nil) Z (J9 ha46) Z (.callL Z Z (.cons (.c (.own Z Z)) (.cons (.c .imm) .nil)) Z (C6 ha47) Z (.nil (b6 (.ad Z h (fun hc14 h => ?_) (fun hc14 h => ?_))))))))
      ·refine AWP.exit (e7 (j7 (b6 ⟨_, h, ?_⟩)))
       exact Sub.cut ⟨Z, Z, Z, Z, Z, Y⟩ Z ⟨.one Z, .vec, .vec, Y⟩ Z
      ·refine AWP.skip (b6 (.q (.q (.u (.j Z Z (S.lenO Z Z Z (fun hl49 => .ab Z Z Z (.nil (b6 (.ite Z h (fun hc15 h => ?_) (fun hc15 h => ?_)))))))))))
       ·refine AWP.q (.u (.v Z Z (.v Z Z (.nil (b6 (.nilrow 1 4 Z (.ret (e6 (k9 (e6 ?_))))))))))
        obtain rfl := oi h
        refine e6 ⟨_, Z, Z, ?_⟩
        exact Done.ret Z Z
       ·refine AWP.skip (b6 (.q ?_))
        obtain ⟨a54, ha54, h⟩ := bind_some h
        refine AWP.u (.j Z Z (.j Z Z (.frzV (id := 3) (l := a43) (env2 := [(2, .c (.ptr 0 0 0)), (7, .c (.own 2 0 c9.length)), (8, .c (int iv5)), (9, .c (int op10)), (10, .c (row 1 intI a43)), (51, .c (.own 1 0 c8.length)), (52, .c (row 1 intI a43))]) (σ2 := [.one (.cells 4 [(tT t)]), .one (vec 1 q7 c8), .one (vec 1 intI c9), .dead]) Z Z (by exact ⟨⟨_, Z, .inl ⟨Z, Z⟩⟩, ⟨_, Z, .inl ⟨Z, Z⟩⟩, ⟨_, Z, .inl ⟨Z, Z⟩⟩, ⟨_, Z, .inl ⟨Z, Z⟩⟩, ⟨_, Z, .inr ⟨_, Z, Z, Z⟩⟩, ⟨_, Z, .inl ⟨Z, Z⟩⟩, ⟨_, Z, .inr ⟨_, Z, Z, Z⟩⟩, Y⟩) Z (by exact ⟨⟨Z, .inl ⟨Z, Z⟩, .inl ⟨Z, Z⟩, .inl ⟨Z, Z⟩, .inl ⟨Z, Z⟩, Y⟩, FrzB.vec, FrzB.vec, trivial, Y⟩) (S.lit (f := q7) (l := [a43]) (ess := [[row 1 intI a43]]) Z Z Z Z Z Z Z ⟨⟨.inl Z, Y⟩, Y⟩ Z Z Z (S.append (f := q7) ha54 Z Z Z Z Z Z (.own Z Z) Z Z Z Z (.v Z Z (.nil (b6 (.j (env' := [(2, .c (.ptr 0 0 0)), (6, .c (.own 1 0 a54.length)), (7, .c (.own 2 0 c9.length)), (8, .c (int iv5)), (9, .c (int op10)), (10, .c (row 1 intI a43))]) (σ' := [.one (.cells 4 [(tT t)]), .one (vec 1 q7 a54), .one (vec 1 intI c9), .dead, .one (vec 1 q7 [a43])]) 1 5 Z Z Z ⟨Z, Z, Z, Z, Z, Z, Y⟩ Z ⟨⟨Z, Z⟩, ⟨Blk.im_ok _ _ _, f7 Z⟩, ⟨Blk.im_ok _ _ _, f7 Z⟩, trivial, ⟨Blk.im_ok _ _ _, f7 Z⟩, Y⟩ ?_)))))))))
        obtain ⟨a57, ha57, a59, ha59, h⟩ := b2 h
        refine AWP.u (.j Z Z (.j Z Z (.F Z Z Z Z (J9 ha57) Z (S.lit (f := intI) (l := [a57]) (ess := [[int a57]]) Z Z Z Z Z Z Z ⟨⟨.inl Z, Y⟩, Y⟩ Z Z Z (S.append (f := intI) ha59 Z Z Z Z Z Z (.own Z Z) Z Z Z Z (.v Z Z (.nil (e9 (b6 ⟨_, h, ?_⟩)))))))))
        exact (Sub.move (env' := [(2, .c (.ptr 0 0 0)), (6, .c (.own 1 0 a54.length)), (7, .c (.own 2 0 a59.length)), (8, .c (int iv5)), (9, .c (int op10))]) (σ' := [.one (.cells 4 [(tT t)]), .one (vec 1 q7 a54), .one (vec 1 intI a59), .dead, .one (vec 1 q7 [a43]), .one (vec 1 intI [a57])]) 2 6 Z Z Z ⟨Z, Z, Z, Z, Z, Y⟩ Z ⟨⟨Z, Z⟩, ⟨Blk.im_ok _ _ _, f7 Z⟩, ⟨Blk.im_ok _ _ _, f7 Z⟩, trivial, ⟨Blk.im_ok _ _ _, f7 Z⟩, ⟨Blk.im_ok _ _ _, f7 Z⟩, Y⟩).trans (Sub.cut ⟨Z, Z, Z, Z, Z, Y⟩ Z ⟨.one Z, .vec, .vec, Y⟩ Z)
   ·intro e s hq
    rcases oo with ⟨c8, c9⟩ | x
    ·try dsimp only at h hq
     obtain ⟨rfl, hs⟩ := hq
     refine ⟨_, hs, ?_⟩
     refine j7 (e9 (b6 (.u (.j Z Z (S.add Z Z Z (.v Z Z (.nil ?_)))))))
     obtain rfl := oi h
     refine b6 ⟨_, Z, ?_⟩
     exact Sub.env ⟨Z, Z, Z, Z, Y⟩
    ·try dsimp only at h hq
     obtain ⟨rfl, hs⟩ := hq
     refine ⟨_, Sub.refl _ _, ?_⟩
     refine k9 (k9 (e6 ?_))
     obtain rfl := oi h
     refine e6 ⟨_, Z, Z, ?_⟩
     exact hs
  ·refine AWP.exit (e7 ?_)
   obtain rfl := oi h
   refine e7 ⟨_, Z, Z, ?_⟩
   exact Sub.cut ⟨Z, Y⟩ Z ⟨.dead, .vec, Y⟩ Z
 ·intro e s hq
  rcases oo with c6 | x
  ·try dsimp only at h hq
   obtain ⟨rfl, hs⟩ := hq
   refine ⟨_, hs, ?_⟩
   refine j7 (b6 (.q (.u (.j Z Z (.v Z Z (.v Z Z (.nil (b6 (.frzV (id := 1) (l := c6) (env2 := [(4, .c (row 1 q7 c6)), (5, .c (bool true))]) (σ2 := [.dead, .dead]) Z Z (by exact ⟨⟨_, Z, .inr ⟨_, Z, Z, Z⟩⟩, ⟨_, Z, .inl ⟨Z, Z⟩⟩, Y⟩) Z (by exact ⟨trivial, trivial, Y⟩) (.ret ?_))))))))))
   obtain rfl := oi h
   exact Done.ret Z Z
  ·try dsimp only at h hq
   obtain ⟨rfl, hs⟩ := hq
   refine ⟨_, Sub.refl _ _, ?_⟩
   refine k9 (e6 ?_)
   obtain rfl := oi h
   exact hs
theorem af0 {t : d9} {r : (List (List Int)) × Bool} (h : K5 t = some r) : e8 prog 13 [.agg (tT t)] (.tup [.c (row 1 q7 r.1), .c (bool r.2)]) := by
 unfold e8
 refine FnOk.enter (rs := [.t 2, .t 3]) func13 Z ntmps13 results13 Z ⟨trivial, trivial, Y⟩ (by kernel_rfl) Z ?_
 unfold K5 at h
 refine AWP.q (.u (W.box Z Z Z Z Z Z (.v Z Z (.v Z Z (.nil (b6 (.q ?_)))))))
 obtain ⟨a7, ha7, h⟩ := bind_some h
 refine AWP.u (W.loadAgg Z Z Z Z Z Z Z (W.fieldAddr Z Z Z Z (.E Z Z Z Z Z Z (.F Z Z Z Z (aj0 ha7) Z (.ac Z Z Z (.ac Z Z Z (.v Z Z (.v Z Z (.nil (b6 (.ret ?_)))))))))))
 obtain rfl := oi h
 exact Done.ret Z Z
theorem ref8_Dropped_ok {t : d9} {op : Int} {r : d9} (h : P1 t op = some r) : e8 prog 15 [.agg (tT t), .c (int op)] (.agg (tT r)) := by
 unfold e8
 refine FnOk.enter (rs := [.cell 4 25 4]) func15 Z ntmps15 results15 Z ⟨rv _ Z, Y⟩ (by kernel_rfl) Z ?_
 unfold P1 at h
 refine AWP.q (.u (W.box Z Z Z Z Z Z (W.alloc Z Z Z Z (.nil (b6 (.q (.u (W.loadAgg Z Z Z Z Z Z Z (W.alloc Z Z Z Z (W.storeAgg Z Z Z Z Z Z Z (.nil (b6 (.q ?_)))))))))))))
 obtain ⟨a11, ha11, a12, ha12, a17, ha17, h⟩ := b3 h
 obtain ⟨a18, ha18, h⟩ := bind_some h
 refine AWP.drawEI [0, 5, 11, 13] mixed Z Z Z ?_
 apply d6.consE; exact Z; exact Z; intro E
 refine S.lit (f := i3) (l := []) (ess := []) Z Z Z Z Z Z Z trivial Z Z Z .N
 exact Z
 exact Z
 refine d6.consN Z Z (fun E => W.fieldAddr Z Z Z Z .N) Z (.consN Z Z (fun E => AOps.E Z Z Z Z Z Z .N) Z (.consN Z Z (fun E => AOps.j Z Z .N) Z (.consN Z Z (fun E => S.subTo ha11 Z Z Z .N) Z ?_)))
 apply d6.consE; exact Z; exact Z; intro E
 refine S.append (f := i3) ha12 Z Z Z Z Z Z .row Z Z Z Z .N
 exact Z
 exact Z
 refine d6.consN Z Z (fun E => W.fieldAddr Z Z Z Z .N) Z (.consN Z Z (fun E => AOps.E Z Z Z Z Z Z .N) Z (.consN Z Z (fun E => AOps.j Z Z .N) Z (.consN Z Z (fun E => S.add Z Z Z .N) Z (.consN Z Z (fun E => S.subFrom ha17 Z Z Z .N) Z ?_))))
 apply d6.consE; exact Z; exact Z; intro E
 refine S.append (f := i3) ha18 Z Z Z Z Z Z .row Z Z Z Z .N
 exact Z
 exact Z
 refine d6.consN Z Z (fun E => W.fieldAddr Z Z Z Z .N) Z ?_
 apply d6.consE (v := .undef); exact Z; exact Z; intro E
 refine W.store Z Z Z Z Z .N
 exact Z
 exact Z
 refine d6.done Z ?_ ?_
 ·refine d5.skip Z ?_
  refine d5.cons Z Z ?_ ?_
  refine b7.go Z Z (fun E => W.fieldAddr Z Z Z Z .N) ?_
  refine b7.go Z Z (fun E => W.fieldAddr Z Z Z Z .N) ?_
  refine b7.skip Z (b7.skip Z (b7.skip Z (b7.nil)))
  refine d5.cons Z Z ?_ ?_
  refine b7.go Z Z (fun E => AOps.E Z Z Z Z Z Z .N) ?_
  refine b7.go Z Z (fun E => AOps.E Z Z Z Z Z Z .N) ?_
  refine b7.skip Z (b7.skip Z (b7.skip Z (b7.nil)))
  refine d5.cons Z Z ?_ ?_
  refine b7.go Z Z (fun E => AOps.j Z Z .N) ?_
  refine b7.go Z Z (fun E => AOps.j Z Z .N) ?_
  refine b7.skip Z (b7.skip Z (b7.skip Z (b7.nil)))
  refine d5.cons Z Z ?_ ?_
  refine b7.go Z Z (fun E => S.subTo ha11 Z Z Z .N) ?_
  refine b7.go Z Z (fun E => S.subTo ha11 Z Z Z .N) ?_
  refine b7.skip Z (b7.skip Z (b7.skip Z (b7.nil)))
  refine d5.skip Z ?_
  refine d5.cons Z Z ?_ ?_
  refine b7.go Z Z (fun E => W.fieldAddr Z Z Z Z .N) ?_
  refine b7.go Z Z (fun E => W.fieldAddr Z Z Z Z .N) ?_
  refine b7.go Z Z (fun E => W.fieldAddr Z Z Z Z .N) ?_
  refine b7.skip Z (b7.skip Z (b7.nil))
  refine d5.cons Z Z ?_ ?_
  refine b7.go Z Z (fun E => AOps.E Z Z Z Z Z Z .N) ?_
  refine b7.go Z Z (fun E => AOps.E Z Z Z Z Z Z .N) ?_
  refine b7.go Z Z (fun E => AOps.E Z Z Z Z Z Z .N) ?_
  refine b7.skip Z (b7.skip Z (b7.nil))
  refine d5.cons Z Z ?_ ?_
  refine b7.go Z Z (fun E => AOps.j Z Z .N) ?_
  refine b7.go Z Z (fun E => AOps.j Z Z .N) ?_
  refine b7.go Z Z (fun E => AOps.j Z Z .N) ?_
  refine b7.skip Z (b7.skip Z (b7.nil))
  refine d5.cons Z Z ?_ ?_
  refine b7.go Z Z (fun E => S.add Z Z Z .N) ?_
  refine b7.go Z Z (fun E => S.add Z Z Z .N) ?_
  refine b7.go Z Z (fun E => S.add Z Z Z .N) ?_
  refine b7.skip Z (b7.skip Z (b7.nil))
  refine d5.cons Z Z ?_ ?_
  refine b7.go Z Z (fun E => S.subFrom ha17 Z Z Z .N) ?_
  refine b7.go Z Z (fun E => S.subFrom ha17 Z Z Z .N) ?_
  refine b7.go Z Z (fun E => S.subFrom ha17 Z Z Z .N) ?_
  refine b7.skip Z (b7.skip Z (b7.nil))
  refine d5.skip Z ?_
  refine d5.cons Z Z ?_ ?_
  refine b7.skip Z (b7.skip Z (b7.skip Z ?_))
  refine b7.go Z Z (fun E => W.fieldAddr Z Z Z Z .N) ?_
  refine b7.skip Z (b7.nil)
  refine d5.skip Z (d5.nil)
 dsimp only [i5]
 refine b6 (.q (.j (env' := [(4, .c (.ptr 1 0 0)), (5, .c (.ptr 2 0 0))]) (σ' := [.one (.cells 4 [(tT t)]), .one (.cells 4 [[int 0, .imm (.val nL), .imm (.val nL), .imm (.val nL)]]), .one (.cells 4 [[int t.facts, row 1 intI t.init, row 1 intI t.goal, .own 3 0 a18.length]]), .one (vec 4 i3 a18), .dead]) 3 5 Z Z Z ⟨Z, Z, Y⟩ Z ⟨⟨Z, Z⟩, ⟨Z, Z⟩, ⟨Z, Z⟩, ⟨Blk.im_ok _ _ _, f7 Z⟩, trivial, Y⟩ (.u (W.loadAgg Z Z Z Z Z Z Z (W.storeAgg Z Z Z Z Z Z Z (.nil (b6 (.frzV (id := 3) (l := a18) (env2 := [(4, .c (.ptr 1 0 0))]) (σ2 := [.one (.cells 4 [(tT t)]), .one (.cells 4 [[int t.facts, row 1 intI t.init, row 1 intI t.goal, row 4 i3 a18]]), .one (.cells 4 [[int t.facts, row 1 intI t.init, row 1 intI t.goal, row 4 i3 a18]]), .dead, .dead]) Z Z (by exact ⟨⟨_, Z, .inl ⟨Z, Z⟩⟩, Y⟩) Z (by exact ⟨⟨Z, .inl ⟨Z, Z⟩, .inl ⟨Z, Z⟩, .inl ⟨Z, Z⟩, .inl ⟨Z, Z⟩, Y⟩, ⟨Z, .inl ⟨Z, Z⟩, .inl ⟨Z, Z⟩, .inl ⟨Z, Z⟩, .inr ⟨_, Z, Z, Z⟩, Y⟩, ⟨Z, .inl ⟨Z, Z⟩, .inl ⟨Z, Z⟩, .inl ⟨Z, Z⟩, .inr ⟨_, Z, Z, Z⟩, Y⟩, trivial, trivial, Y⟩) (.ret ?_)))))))))
 obtain rfl := oi h
 exact Done.ret Z Z
theorem ref1_Costs_ok {t : d9} {l : List (List Int)} {r : (List Int)} (h : X2 t l = some r) : n5 prog 34 [.agg (tT t), .c (row 1 q7 l)] 1 (List.map intI r) := by
 unfold n5
 refine FnOk.enter (rs := [.t 4]) func34 Z ntmps34 results34 Z ⟨trivial, Y⟩ (by kernel_rfl) Z ?_
 unfold X2 at h
 refine AWP.q (.u (W.box Z Z Z Z Z Z (.v Z Z (.nil (b6 (.q (.u (.v Z Z (.nil (b6 (.q (.u (.v Z Z (.nil (b6 (.q (.q (.u (.v Z Z (.nil (b6 (.aa (.virtV 1 intI 5 Z Z Z (.virtV 1 intI 6 Z Z Z ?_))))))))))))))))))))))))
 obtain ⟨⟨c3, c4⟩, ho1, h⟩ := bind_some h
 try dsimp only at h
 refine AWP.forS ho1 (fun iv5 (c3, c4) => ⟨[(1, .c (row 1 q7 l)), (2, .c (.ptr 0 0 0)), (5, .c (.own 1 0 c3.length)), (6, .c (.own 2 0 c4.length)), (7, .c (int iv5))], [.one (.cells 4 [(tT t)]), .one (vec 1 intI c3), .one (vec 1 intI c4)]⟩) (fun (c3, c4) e st => e = .exit 0 ∧ Sub [] st ⟨[(1, .c (row 1 q7 l)), (2, .c (.ptr 0 0 0)), (5, .c (.own 1 0 c3.length)), (6, .c (.own 2 0 c4.length))], [.one (.cells 4 [(tT t)]), .one (vec 1 intI c3), .one (vec 1 intI c4)]⟩) ?_ ?_ ?_ ?_
 ·try dsimp only
  exact Sub.env ⟨Z, Z, (H6 (by first | rfl | simp only [List.length_set])), (H6 (by first | rfl | simp only [List.length_set])), Z, Y⟩
 ·intro iv5 s hloiv5 hltiv5 _
  obtain ⟨c3, c4⟩ := s
  try dsimp only
  refine AWP.q (.q (.u (.j Z Z (.j Z Z (S.len Z Z (fun hl19 => .J Z Z Z (.nil (b6 (.ag Z hltiv5 (.exit (e7 (e7 ⟨Z, ?_⟩))))))))))))
  exact Sub.env ⟨Z, Z, Z, Z, Y⟩
 ·intro iv5 s o hloiv5 hltiv5 h
  obtain ⟨c3, c4⟩ := s
  unfold M7 at h
  try dsimp only at h ⊢
  refine AWP.q (.q (.u (.j Z Z (.j Z Z (S.len Z Z (fun hl19 => .J Z Z Z (.nil (b6 (.ah Z hltiv5 (.skip (b6 ?_)))))))))))
  obtain ⟨⟨c6, c7⟩, hx8, h⟩ := bind_some h
  refine AWP.seqJ (⟨[(1, .c (row 1 q7 l)), (2, .c (.ptr 0 0 0)), (5, .c (.own 5 0 c7.length)), (6, .c (.own 2 0 c6.length)), (7, .c (int iv5))], [.one (.cells 4 [(tT t)]), .dead, .one (vec 1 intI c6), .dead, .dead, .one (vec 1 intI c7)]⟩) ?_ ?_
  ·refine AWP.aa (.q ?_)
   obtain ⟨a26, ha26, a28, ha28, a30, ha30, hx8⟩ := b3 hx8
   refine AWP.u (.j Z Z (.j Z Z (.j Z Z (S.idx ha26 Z Z Z Z (.ai Z Z Z Z (.F Z Z Z Z (J9 ha28) Z (S.lit (f := intI) (l := [a28]) (ess := [[int a28]]) Z Z Z Z Z Z Z ⟨⟨.inl Z, Y⟩, Y⟩ Z Z Z (S.append (f := intI) ha30 Z Z Z Z Z Z (.own Z Z) Z Z Z Z (.v Z Z (.nil (b6 (.q (.j (env' := [(1, .c (row 1 q7 l)), (2, .c (.ptr 0 0 0)), (5, .c (.own 1 0 c3.length)), (6, .c (.own 2 0 a30.length)), (7, .c (int iv5))]) (σ' := [.one (.cells 4 [(tT t)]), .one (vec 1 intI c3), .one (vec 1 intI a30), .one (vec 1 intI [a28])]) 2 4 Z Z Z ⟨Z, Z, Z, Z, Z, Y⟩ Z ⟨⟨Z, Z⟩, ⟨Blk.im_ok _ _ _, f7 Z⟩, ⟨Blk.im_ok _ _ _, f7 Z⟩, ⟨Blk.im_ok _ _ _, f7 Z⟩, Y⟩ ?_)))))))))))))
   obtain ⟨a35, ha35, a37, ha37, hx8⟩ := b2 hx8
   refine AWP.drawI mixed Z ?_
   refine i8.consF Z (fun E => W.fieldAddr Z Z Z Z .N) Z (.consF Z (fun E => AOps.E Z Z Z Z Z Z .N) Z (.consF Z (fun E => AOps.j Z Z .N) Z (.consF Z (fun E => AOps.j Z Z .N) Z (.consF Z (fun E => S.idx ha35 Z Z Z Z .N) Z (.consF Z (fun E => AOps.ai Z Z Z Z .N) Z (.consF Z (fun E => AOps.F Z Z Z Z (ag0 ha37) Z .N) Z ?_))))))
   refine i8.done ?_
   dsimp only [i5]
   refine b6 (.ad Z hx8 (fun hc9 hx8 => ?_) (fun hc9 hx8 => ?_))
   ·obtain ⟨a40, ha40, hx8⟩ := bind_some hx8
    refine AWP.u (.j Z Z (S.lit (f := intI) (l := [0]) (ess := [[int 0]]) Z Z Z Z Z Z Z ⟨⟨.inl Z, Y⟩, Y⟩ Z Z Z (S.append (f := intI) ha40 Z Z Z Z Z Z (.own Z Z) Z Z Z Z (.v Z Z (.nil (e9 ?_))))))
    obtain ⟨ej0, ej1⟩ := o2 hx8
    subst ej0 ej1
    refine b6 (Sub.cut ⟨Z, Z, Z, Z, Z, Y⟩ Z ⟨.one Z, .dead, .vec, .dead, .dead, .vec, Y⟩ Z)
   ·obtain ⟨a43, ha43, hx8⟩ := bind_some hx8
    refine AWP.u (.j Z Z (S.lit (f := intI) (l := [1000000000]) (ess := [[int 1000000000]]) Z Z Z Z Z Z Z ⟨⟨.inl Z, Y⟩, Y⟩ Z Z Z (S.append (f := intI) ha43 Z Z Z Z Z Z (.own Z Z) Z Z Z Z (.v Z Z (.nil (e9 ?_))))))
    obtain ⟨ej0, ej1⟩ := o2 hx8
    subst ej0 ej1
    refine b6 (Sub.cut ⟨Z, Z, Z, Z, Z, Y⟩ Z ⟨.one Z, .dead, .vec, .dead, .dead, .vec, Y⟩ Z)
  ·try dsimp only at h
   refine AWP.u (.j Z Z (.add Z Z Z (by omega) (.v Z Z (.nil ?_))))
   obtain rfl := oi h
   refine b6 ((Sub.move (env' := [(1, .c (row 1 q7 l)), (2, .c (.ptr 0 0 0)), (5, .c (.own 1 0 c7.length)), (6, .c (.own 2 0 c6.length)), (7, .c (int (iv5 + 1)))]) (σ' := [.one (.cells 4 [(tT t)]), .one (vec 1 intI c7), .one (vec 1 intI c6), .dead, .dead]) 1 5 Z Z Z ⟨Z, Z, Z, Z, Z, Y⟩ Z ⟨⟨Z, Z⟩, ⟨Blk.im_ok _ _ _, f7 Z⟩, ⟨Blk.im_ok _ _ _, f7 Z⟩, trivial, trivial, Y⟩).trans (Sub.cut ⟨Z, Z, Z, Z, Z, Y⟩ Z ⟨.one Z, .vec, .vec, Y⟩ Z))
 ·intro e s hq
  obtain ⟨rfl, hs⟩ := hq
  refine ⟨_, hs, ?_⟩
  refine j7 (b6 (.q (.u (.v Z Z (.v Z Z (.v Z Z (.nil (b6 (.q (.q (.u (.v Z Z (.nil (b6 (.aa (.virtV 1 intI 8 Z Z Z (.virtV 1 intI 9 Z Z Z (.virtV 1 intI 10 Z Z Z ?_))))))))))))))))))
  obtain ⟨⟨c10, c11, c12⟩, ho2, h⟩ := bind_some h
  try dsimp only at h
  refine AWP.forS ho2 (fun iv13 (c10, c11, c12) => ⟨[(1, .c (row 1 q7 l)), (2, .c (.ptr 0 0 0)), (5, .c (.own 1 0 c3.length)), (6, .c (.own 2 0 c4.length)), (8, .c (.own 3 0 c10.length)), (9, .c (.own 4 0 c11.length)), (10, .c (.own 5 0 c12.length)), (11, .c (int iv13))], [.one (.cells 4 [(tT t)]), .one (vec 1 intI c3), .one (vec 1 intI c4), .one (vec 1 intI c10), .one (vec 1 intI c11), .one (vec 1 intI c12)]⟩) (fun (c10, c11, c12) e st => e = .exit 2 ∧ Sub [] st ⟨[(5, .c (.own 1 0 c3.length)), (8, .c (.own 3 0 c10.length)), (9, .c (.own 4 0 c11.length)), (10, .c (.own 5 0 c12.length))], [.one (.cells 4 [(tT t)]), .one (vec 1 intI c3), .one (vec 1 intI c4), .one (vec 1 intI c10), .one (vec 1 intI c11), .one (vec 1 intI c12)]⟩) ?_ ?_ ?_ ?_
  ·try dsimp only
   exact Sub.env ⟨Z, Z, Z, Z, (H6 (by first | rfl | simp only [List.length_set])), (H6 (by first | rfl | simp only [List.length_set])), (H6 (by first | rfl | simp only [List.length_set])), Z, Y⟩
  ·intro iv13 s hloiv13 hltiv13 _
   obtain ⟨c10, c11, c12⟩ := s
   try dsimp only
   refine AWP.q (.q (.u (.j Z Z (.j Z Z (S.len Z Z (fun hl46 => .J Z Z Z (.nil (b6 (.ag Z hltiv13 (.exit (e7 (e7 ⟨Z, ?_⟩))))))))))))
   exact Sub.env ⟨Z, Z, Z, Z, Y⟩
  ·intro iv13 s o hloiv13 hltiv13 h
   obtain ⟨c10, c11, c12⟩ := s
   unfold M9 at h
   try dsimp only at h ⊢
   refine AWP.q (.q (.u (.j Z Z (.j Z Z (S.len Z Z (fun hl46 => .J Z Z Z (.nil (b6 (.ah Z hltiv13 (.skip (b6 (.q (.aa (.q (.u (.v Z Z (.nil (b6 (.aa ?_)))))))))))))))))))
   obtain ⟨⟨c14, c15, c16⟩, ho3, h⟩ := bind_some h
   try dsimp only at h
   refine AWP.forS ho3 (fun op17 (c14, c15, c16) => ⟨[(1, .c (row 1 q7 l)), (2, .c (.ptr 0 0 0)), (5, .c (.own 1 0 c3.length)), (6, .c (.own 2 0 c4.length)), (8, .c (.own 3 0 c14.length)), (9, .c (.own 4 0 c15.length)), (10, .c (.own 5 0 c16.length)), (11, .c (int iv13)), (12, .c (int op17))], [.one (.cells 4 [(tT t)]), .one (vec 1 intI c3), .one (vec 1 intI c4), .one (vec 1 intI c14), .one (vec 1 intI c15), .one (vec 1 intI c16)]⟩) (fun (c14, c15, c16) e st => e = .exit 4 ∧ Sub [] st ⟨[(1, .c (row 1 q7 l)), (2, .c (.ptr 0 0 0)), (5, .c (.own 1 0 c3.length)), (6, .c (.own 2 0 c4.length)), (8, .c (.own 3 0 c14.length)), (9, .c (.own 4 0 c15.length)), (10, .c (.own 5 0 c16.length)), (11, .c (int iv13))], [.one (.cells 4 [(tT t)]), .one (vec 1 intI c3), .one (vec 1 intI c4), .one (vec 1 intI c14), .one (vec 1 intI c15), .one (vec 1 intI c16)]⟩) ?_ ?_ ?_ ?_
   ·try dsimp only
    exact Sub.env ⟨Z, Z, Z, Z, Z, Z, Z, Z, Z, Y⟩
   ·intro op17 s hloop17 hltop17 _
    obtain ⟨c14, c15, c16⟩ := s
    try dsimp only
    refine AWP.q (.q (.u (.j Z Z (W.fieldAddr Z Z Z Z (.E Z Z Z Z Z Z (S.len Z Z (fun hl53 => .J Z Z Z (.nil (b6 (.ag Z hltop17 (.exit (e7 (e7 ⟨Z, ?_⟩)))))))))))))
    exact Sub.env ⟨Z, Z, Z, Z, Z, Z, Z, Z, Y⟩
   ·intro op17 s o hloop17 hltop17 h
    obtain ⟨c14, c15, c16⟩ := s
    unfold N3 at h
    try dsimp only at h ⊢
    refine AWP.q (.q (.u (.j Z Z (W.fieldAddr Z Z Z Z (.E Z Z Z Z Z Z (S.len Z Z (fun hl53 => .J Z Z Z (.nil (b6 (.ah Z hltop17 (.skip (b6 ?_))))))))))))
    obtain ⟨⟨c18, c19, c20⟩, hx21, h⟩ := bind_some h
    refine AWP.seqJ (⟨[(1, .c (row 1 q7 l)), (2, .c (.ptr 0 0 0)), (5, .c (.own 1 0 c3.length)), (6, .c (.own 2 0 c4.length)), (8, .c (.own 3 0 c18.length)), (9, .c (.own 4 0 c19.length)), (10, .c (.own 5 0 c20.length)), (11, .c (int iv13)), (12, .c (int op17))], [.one (.cells 4 [(tT t)]), .one (vec 1 intI c3), .one (vec 1 intI c4), .one (vec 1 intI c18), .one (vec 1 intI c19), .one (vec 1 intI c20)]⟩) ?_ ?_
    ·refine AWP.aa (.q ?_)
     obtain ⟨a60, ha60, a63, ha63, hx21⟩ := b2 hx21
     refine AWP.drawI mixed Z ?_
     refine i8.consF Z (fun E => W.loadAgg Z Z Z Z Z Z Z .N) Z (.consF Z (fun E => AOps.j Z Z .N) Z (.consF Z (fun E => AOps.j Z Z .N) Z (.consF Z (fun E => S.idx ha60 Z Z Z Z .N) Z (.consF Z (fun E => AOps.ai Z Z Z Z .N) Z (.consF Z (fun E => AOps.j Z Z .N) Z (.consF Z (fun E => AOps.F Z Z Z Z (ae4 ha63) Z .N) Z ?_))))))
     refine i8.done ?_
     dsimp only [i5]
     refine b6 (.ad Z hx21 (fun hc22 hx21 => ?_) (fun hc22 hx21 => ?_))
     ·refine AWP.q ?_
      obtain ⟨a67, ha67, a70, ha70, a71, ha71, hx21⟩ := b3 hx21
      refine AWP.drawEI [6] mixed Z Z Z ?_
      refine d6.consN Z Z (fun E => W.loadAgg Z Z Z Z Z Z Z .N) Z (.consN Z Z (fun E => AOps.j Z Z .N) Z (.consN Z Z (fun E => AOps.j Z Z .N) Z (.consN Z Z (fun E => S.idx ha67 Z Z Z Z .N) Z (.consN Z Z (fun E => AOps.ai Z Z Z Z .N) Z (.consN Z Z (fun E => AOps.j Z Z .N) Z ?_)))))
      apply d6.consE; exact Z; exact Z; intro E
      refine S.fresh Z Z Z Z (ai7 ha70) Z Z .N
      exact Z
      exact Z
      refine d6.consN Z Z (fun E => AOps.callL Z Z (.cons (.c (.own Z Z)) .nil) Z (J9 ha71) Z .N) Z (.consN Z Z (fun E => AOps.v Z Z .N) Z ?_)
      refine d6.done Z ?_ ?_
      ·refine d5.cons Z Z ?_ ?_
       refine b7.go Z Z (fun E => W.loadAgg Z Z Z Z Z Z Z .N) ?_
       refine b7.skip Z (b7.nil)
       refine d5.cons Z Z ?_ ?_
       refine b7.go Z Z (fun E => AOps.j Z Z .N) ?_
       refine b7.skip Z (b7.nil)
       refine d5.cons Z Z ?_ ?_
       refine b7.go Z Z (fun E => AOps.j Z Z .N) ?_
       refine b7.skip Z (b7.nil)
       refine d5.cons Z Z ?_ ?_
       refine b7.go Z Z (fun E => S.idx ha67 Z Z Z Z .N) ?_
       refine b7.skip Z (b7.nil)
       refine d5.cons Z Z ?_ ?_
       refine b7.go Z Z (fun E => AOps.ai Z Z Z Z .N) ?_
       refine b7.skip Z (b7.nil)
       refine d5.cons Z Z ?_ ?_
       refine b7.go Z Z (fun E => AOps.j Z Z .N) ?_
       refine b7.skip Z (b7.nil)
       refine d5.skip Z ?_
       refine d5.cons Z Z ?_ ?_
       refine b7.skip Z ?_
       refine b7.go Z Z (fun E => AOps.callL Z Z (.cons (.c (.own Z Z)) .nil) Z (J9 ha71) Z .N) ?_
       exact b7.nil
       refine d5.cons Z Z ?_ ?_
       refine b7.skip Z ?_
       refine b7.go Z Z (fun E => AOps.v Z Z .N) ?_
       exact b7.nil
       exact d5.nil
      dsimp only [i5]
      refine b6 (.q (.u (.v Z Z (.nil (b6 (.aa ?_))))))
      obtain ⟨⟨c23, c24, c25⟩, ho4, hx21⟩ := bind_some hx21
      try dsimp only at hx21
      refine AWP.forS ho4 (fun kv26 (c23, c24, c25) => ⟨[(1, .c (row 1 q7 l)), (2, .c (.ptr 0 0 0)), (5, .c (.own 1 0 c3.length)), (6, .c (.own 2 0 c4.length)), (8, .c (.own 3 0 c23.length)), (9, .c (.own 4 0 c24.length)), (10, .c (.own 5 0 c25.length)), (11, .c (int iv13)), (12, .c (int op17)), (13, .c (int a71)), (14, .c (int kv26))], [.one (.cells 4 [(tT t)]), .one (vec 1 intI c3), .one (vec 1 intI c4), .one (vec 1 intI c23), .one (vec 1 intI c24), .one (vec 1 intI c25)]⟩) (fun (c23, c24, c25) e st => e = .exit 6 ∧ Sub [] st ⟨[(1, .c (row 1 q7 l)), (2, .c (.ptr 0 0 0)), (5, .c (.own 1 0 c3.length)), (6, .c (.own 2 0 c4.length)), (8, .c (.own 3 0 c23.length)), (9, .c (.own 4 0 c24.length)), (10, .c (.own 5 0 c25.length)), (11, .c (int iv13)), (12, .c (int op17))], [.one (.cells 4 [(tT t)]), .one (vec 1 intI c3), .one (vec 1 intI c4), .one (vec 1 intI c23), .one (vec 1 intI c24), .one (vec 1 intI c25)]⟩) ?_ ?_ ?_ ?_
      ·try dsimp only
       exact Sub.cut ⟨Z, Z, Z, Z, Z, Z, Z, Z, Z, Z, Z, Y⟩ Z ⟨.one Z, .vec, .vec, .vec, .vec, .vec, Y⟩ Z
      ·intro kv26 s hlokv26 hltkv26 _
       obtain ⟨c23, c24, c25⟩ := s
       try dsimp only
       refine AWP.q (.q (.u (.j Z Z (.j Z Z (S.lenO Z Z Z (fun hl74 => .J Z Z Z (.nil (b6 (.ag Z hltkv26 (.exit (e7 (e7 ⟨Z, ?_⟩))))))))))))
       exact Sub.env ⟨Z, Z, Z, Z, Z, Z, Z, Z, Z, Y⟩
      ·intro kv26 s o hlokv26 hltkv26 h
       obtain ⟨c23, c24, c25⟩ := s
       unfold H7 at h
       try dsimp only at h ⊢
       refine AWP.q (.q (.u (.j Z Z (.j Z Z (S.lenO Z Z Z (fun hl74 => .J Z Z Z (.nil (b6 (.ah Z hltkv26 (.skip (b6 ?_)))))))))))
       obtain ⟨⟨c27, c28, c29⟩, hx30, h⟩ := bind_some h
       refine AWP.seqJ (⟨[(1, .c (row 1 q7 l)), (2, .c (.ptr 0 0 0)), (5, .c (.own 1 0 c3.length)), (6, .c (.own 2 0 c4.length)), (8, .c (.own 3 0 c27.length)), (9, .c (.own 4 0 c28.length)), (10, .c (.own 9 0 c29.length)), (11, .c (int iv13)), (12, .c (int op17)), (13, .c (int a71)), (14, .c (int kv26))], [.one (.cells 4 [(tT t)]), .one (vec 1 intI c3), .one (vec 1 intI c4), .one (vec 1 intI c27), .one (vec 1 intI c28), .dead, .dead, .dead, .dead, .one (vec 1 intI c29)]⟩) ?_ ?_
       ·refine AWP.aa (.q ?_)
        obtain ⟨a80, ha80, hx30⟩ := bind_some hx30
        refine AWP.u (.j Z Z (.j Z Z (S.idxO ha80 Z Z Z Z Z (S.loadO ha80 Z Z Z Z Z (.j Z Z (.ab Z Z Z (.nil (b6 (.ite Z hx30 (fun hc31 hx30 => ?_) (fun hc31 hx30 => ?_))))))))))
        ·refine AWP.q ?_
         obtain ⟨a87, ha87, hx30⟩ := bind_some hx30
         refine AWP.u (.j Z Z (.j Z Z (S.lit (f := intI) (l := [iv13]) (ess := [[int iv13]]) Z Z Z Z Z Z Z ⟨⟨.inl Z, Y⟩, Y⟩ Z Z Z (S.append (f := intI) ha87 Z Z Z Z Z Z (.own Z Z) Z Z Z Z (.v Z Z (.nil (b6 (.q (.j (env' := [(1, .c (row 1 q7 l)), (2, .c (.ptr 0 0 0)), (5, .c (.own 1 0 c3.length)), (6, .c (.own 2 0 c4.length)), (8, .c (.own 3 0 a87.length)), (9, .c (.own 4 0 c24.length)), (10, .c (.own 5 0 c25.length)), (11, .c (int iv13)), (12, .c (int op17)), (13, .c (int a71)), (14, .c (int kv26))]) (σ' := [.one (.cells 4 [(tT t)]), .one (vec 1 intI c3), .one (vec 1 intI c4), .one (vec 1 intI a87), .one (vec 1 intI c24), .one (vec 1 intI c25), .one (vec 1 intI [iv13])]) 3 7 Z Z Z ⟨Z, Z, Z, Z, Z, Z, Z, Z, Z, Z, Z, Y⟩ Z ⟨⟨Z, Z⟩, ⟨Blk.im_ok _ _ _, f7 Z⟩, ⟨Blk.im_ok _ _ _, f7 Z⟩, ⟨Blk.im_ok _ _ _, f7 Z⟩, ⟨Blk.im_ok _ _ _, f7 Z⟩, ⟨Blk.im_ok _ _ _, f7 Z⟩, ⟨Blk.im_ok _ _ _, f7 Z⟩, Y⟩ ?_)))))))))
         obtain ⟨a91, ha91, hx30⟩ := bind_some hx30
         refine AWP.u (.j Z Z (.j Z Z (S.lit (f := intI) (l := [kv26]) (ess := [[int kv26]]) Z Z Z Z Z Z Z ⟨⟨.inl Z, Y⟩, Y⟩ Z Z Z (S.append (f := intI) ha91 Z Z Z Z Z Z (.own Z Z) Z Z Z Z (.v Z Z (.nil (b6 (.j (env' := [(1, .c (row 1 q7 l)), (2, .c (.ptr 0 0 0)), (5, .c (.own 1 0 c3.length)), (6, .c (.own 2 0 c4.length)), (8, .c (.own 3 0 a87.length)), (9, .c (.own 4 0 a91.length)), (10, .c (.own 5 0 c25.length)), (11, .c (int iv13)), (12, .c (int op17)), (13, .c (int a71)), (14, .c (int kv26))]) (σ' := [.one (.cells 4 [(tT t)]), .one (vec 1 intI c3), .one (vec 1 intI c4), .one (vec 1 intI a87), .one (vec 1 intI a91), .one (vec 1 intI c25), .one (vec 1 intI [iv13]), .one (vec 1 intI [kv26])]) 4 8 Z Z Z ⟨Z, Z, Z, Z, Z, Z, Z, Z, Z, Z, Z, Y⟩ Z ⟨⟨Z, Z⟩, ⟨Blk.im_ok _ _ _, f7 Z⟩, ⟨Blk.im_ok _ _ _, f7 Z⟩, ⟨Blk.im_ok _ _ _, f7 Z⟩, ⟨Blk.im_ok _ _ _, f7 Z⟩, ⟨Blk.im_ok _ _ _, f7 Z⟩, ⟨Blk.im_ok _ _ _, f7 Z⟩, ⟨Blk.im_ok _ _ _, f7 Z⟩, Y⟩ ?_))))))))
         obtain ⟨a96, ha96, a100, ha100, hx30⟩ := b2 hx30
         refine AWP.u (.j Z Z (W.fieldAddr Z Z Z Z (.E Z Z Z Z Z Z (.j Z Z (S.idx ha96 Z Z Z Z (W.fieldAddrI Z Z Z Z (.ai Z Z Z Z (S.lit (f := intI) (l := [a96.cost]) (ess := [[int a96.cost]]) Z Z Z Z Z Z Z ⟨⟨.inl Z, Y⟩, Y⟩ Z Z Z (S.append (f := intI) ha100 Z Z Z Z Z Z (.own Z Z) Z Z Z Z (.v Z Z (.nil (e9 ?_))))))))))))
         obtain ⟨ej0, ej1, ej2⟩ := o3 hx30
         subst ej0 ej1 ej2
         refine b6 (Sub.cut ⟨Z, Z, Z, Z, Z, Z, Z, Z, Z, Z, Z, Y⟩ Z ⟨.one Z, .vec, .vec, .vec, .vec, .dead, .dead, .dead, .dead, .vec, Y⟩ Z)
        ·refine AWP.skip (e9 ?_)
         obtain ⟨ej0, ej1, ej2⟩ := o3 hx30
         subst ej0 ej1 ej2
         refine b6 ((Sub.move (env' := [(1, .c (row 1 q7 l)), (2, .c (.ptr 0 0 0)), (5, .c (.own 1 0 c3.length)), (6, .c (.own 2 0 c4.length)), (8, .c (.own 3 0 c23.length)), (9, .c (.own 4 0 c24.length)), (10, .c (.own 9 0 c25.length)), (11, .c (int iv13)), (12, .c (int op17)), (13, .c (int a71)), (14, .c (int kv26))]) (σ' := [.one (.cells 4 [(tT t)]), .one (vec 1 intI c3), .one (vec 1 intI c4), .one (vec 1 intI c23), .one (vec 1 intI c24), .dead, .dead, .dead, .dead, .one (vec 1 intI c25)]) 9 5 Z Z Z ⟨Z, Z, Z, Z, Z, Z, Z, Z, Z, Z, Z, Y⟩ Z ⟨⟨Z, Z⟩, ⟨Blk.im_ok _ _ _, f7 Z⟩, ⟨Blk.im_ok _ _ _, f7 Z⟩, ⟨Blk.im_ok _ _ _, f7 Z⟩, ⟨Blk.im_ok _ _ _, f7 Z⟩, trivial, trivial, trivial, trivial, ⟨Blk.im_ok _ _ _, f7 Z⟩, Y⟩).trans (Sub.env ⟨Z, Z, Z, Z, Z, Z, Z, Z, Z, Z, Z, Y⟩))
       ·try dsimp only at h
        refine AWP.u (.j Z Z (.add Z Z Z (by omega) (.v Z Z (.nil ?_))))
        obtain rfl := oi h
        refine b6 ((Sub.move (env' := [(1, .c (row 1 q7 l)), (2, .c (.ptr 0 0 0)), (5, .c (.own 1 0 c3.length)), (6, .c (.own 2 0 c4.length)), (8, .c (.own 3 0 c27.length)), (9, .c (.own 4 0 c28.length)), (10, .c (.own 5 0 c29.length)), (11, .c (int iv13)), (12, .c (int op17)), (13, .c (int a71)), (14, .c (int (kv26 + 1)))]) (σ' := [.one (.cells 4 [(tT t)]), .one (vec 1 intI c3), .one (vec 1 intI c4), .one (vec 1 intI c27), .one (vec 1 intI c28), .one (vec 1 intI c29), .dead, .dead, .dead]) 5 9 Z Z Z ⟨Z, Z, Z, Z, Z, Z, Z, Z, Z, Z, Z, Y⟩ Z ⟨⟨Z, Z⟩, ⟨Blk.im_ok _ _ _, f7 Z⟩, ⟨Blk.im_ok _ _ _, f7 Z⟩, ⟨Blk.im_ok _ _ _, f7 Z⟩, ⟨Blk.im_ok _ _ _, f7 Z⟩, ⟨Blk.im_ok _ _ _, f7 Z⟩, trivial, trivial, trivial, Y⟩).trans (Sub.cut ⟨Z, Z, Z, Z, Z, Z, Z, Z, Z, Z, Z, Y⟩ Z ⟨.one Z, .vec, .vec, .vec, .vec, .vec, Y⟩ Z))
      ·intro e s hq
       obtain ⟨rfl, hs⟩ := hq
       refine ⟨_, hs, ?_⟩
       refine j7 (e9 ?_)
       obtain ⟨ej0, ej1, ej2⟩ := o3 hx21
       subst ej0 ej1 ej2
       refine b6 (Sub.env ⟨Z, Z, Z, Z, Z, Z, Z, Z, Z, Y⟩)
     ·refine AWP.skip (e9 ?_)
      obtain ⟨ej0, ej1, ej2⟩ := o3 hx21
      subst ej0 ej1 ej2
      refine b6 (Sub.env ⟨Z, Z, Z, Z, Z, Z, Z, Z, Z, Y⟩)
    ·try dsimp only at h
     refine AWP.u (.j Z Z (.add Z Z Z (by omega) (.v Z Z (.nil ?_))))
     obtain rfl := oi h
     refine b6 (Sub.env ⟨Z, Z, Z, Z, Z, Z, Z, Z, Z, Y⟩)
   ·intro e s hq
    obtain ⟨rfl, hs⟩ := hq
    refine ⟨_, hs, ?_⟩
    refine j7 (e9 (b6 (.u (.j Z Z (.add Z Z Z (by omega) (.v Z Z (.nil ?_)))))))
    obtain rfl := oi h
    refine b6 (Sub.env ⟨Z, Z, Z, Z, Z, Z, Z, Z, Y⟩)
  ·intro e s hq
   obtain ⟨rfl, hs⟩ := hq
   refine ⟨_, hs, ?_⟩
   refine j7 (b6 (.q (.q (.u (.v Z Z (.nil (b6 (.aa ?_))))))))
   obtain ⟨c34, ho5, h⟩ := bind_some h
   refine AWP.loopS ho5 (fun (c32, again33) => ⟨[(5, .c (.own 1 0 c32.length)), (8, .c (.own 3 0 c10.length)), (9, .c (.own 4 0 c11.length)), (10, .c (.own 5 0 c12.length)), (15, .c (bool again33))], [.dead, .one (vec 1 intI c32), .dead, .one (vec 1 intI c10), .one (vec 1 intI c11), .one (vec 1 intI c12)]⟩) (fun c34 e st => e = .exit 8 ∧ Sub [] st ⟨[(5, .c (.own 1 0 c34.length))], [.dead, .one (vec 1 intI c34)]⟩) ?_ ?_ ?_
   ·try dsimp only
    exact Sub.cut ⟨Z, Z, Z, Z, Z, Y⟩ Z ⟨.dead, .vec, .dead, .vec, .vec, .vec, Y⟩ Z
   ·intro s o h
    obtain ⟨c32, again33⟩ := s
    unfold M8 at h
    try dsimp only at h ⊢
    refine AWP.q (.q (.u (.j Z Z (.nil (b6 (.ad Z h (fun hc35 h => ?_) (fun hc35 h => ?_)))))))
    ·refine AWP.skip (b6 (.aa (.q (.u (.v Z Z (.nil (b6 (.q (.u (.v Z Z (.nil (b6 (.aa ?_)))))))))))))
     obtain ⟨⟨c36, again37⟩, ho6, h⟩ := bind_some h
     try dsimp only at h
     refine AWP.forS ho6 (fun av38 (c36, again37) => ⟨[(5, .c (.own 1 0 c36.length)), (8, .c (.own 3 0 c10.length)), (9, .c (.own 4 0 c11.length)), (10, .c (.own 5 0 c12.length)), (15, .c (bool again37)), (16, .c (int av38))], [.dead, .one (vec 1 intI c36), .dead, .one (vec 1 intI c10), .one (vec 1 intI c11), .one (vec 1 intI c12)]⟩) (fun (c36, again37) e st => e = .exit 10 ∧ Sub [] st ⟨[(5, .c (.own 1 0 c36.length)), (8, .c (.own 3 0 c10.length)), (9, .c (.own 4 0 c11.length)), (10, .c (.own 5 0 c12.length)), (15, .c (bool again37))], [.dead, .one (vec 1 intI c36), .dead, .one (vec 1 intI c10), .one (vec 1 intI c11), .one (vec 1 intI c12)]⟩) ?_ ?_ ?_ ?_
     ·try dsimp only
      exact Sub.env ⟨Z, Z, Z, Z, Z, Z, Y⟩
     ·intro av38 s hloav38 hltav38 _
      obtain ⟨c36, again37⟩ := s
      try dsimp only
      refine AWP.q (.q (.u (.j Z Z (.j Z Z (S.lenO Z Z Z (fun hl104 => .J Z Z Z (.nil (b6 (.ag Z hltav38 (.exit (e7 (e7 ⟨Z, ?_⟩))))))))))))
      exact Sub.env ⟨Z, Z, Z, Z, Z, Y⟩
     ·intro av38 s o hloav38 hltav38 h
      obtain ⟨c36, again37⟩ := s
      unfold M4 at h
      try dsimp only at h ⊢
      refine AWP.q (.q (.u (.j Z Z (.j Z Z (S.lenO Z Z Z (fun hl104 => .J Z Z Z (.nil (b6 (.ah Z hltav38 (.skip (b6 ?_)))))))))))
      obtain ⟨⟨c39, again40⟩, hx41, h⟩ := bind_some h
      refine AWP.seqJ (⟨[(5, .c (.own 1 0 c39.length)), (8, .c (.own 3 0 c10.length)), (9, .c (.own 4 0 c11.length)), (10, .c (.own 5 0 c12.length)), (15, .c (bool again40)), (16, .c (int av38))], [.dead, .one (vec 1 intI c39), .dead, .one (vec 1 intI c10), .one (vec 1 intI c11), .one (vec 1 intI c12)]⟩) ?_ ?_
      ·refine AWP.aa ?_
       obtain ⟨t42, hx43, hx41⟩ := bind_some hx41
       refine AWP.seqJ (⟨[(5, .c (.own 1 0 c36.length)), (8, .c (.own 3 0 c10.length)), (9, .c (.own 4 0 c11.length)), (10, .c (.own 5 0 c12.length)), (15, .c (bool again37)), (16, .c (int av38)), (137, .c (bool t42))], [.dead, .one (vec 1 intI c36), .dead, .one (vec 1 intI c10), .one (vec 1 intI c11), .one (vec 1 intI c12)]⟩) ?_ ?_
       ·obtain ⟨a111, ha111, a113, ha113, hx43⟩ := b2 hx43
        rcases bft (decide (a113 < 1000000000)) with hb44 | hb44
        ·replace hx43 := L8 hb44 hx43
         obtain ⟨a120, ha120, a122, ha122, a126, ha126, hx43⟩ := b3 hx43
         obtain ⟨a132, ha132, a134, ha134, hx43⟩ := b2 hx43
         refine AWP.drawI mixed Z ?_
         refine i8.consF Z (fun E => AOps.j Z Z .N) Z (.consF Z (fun E => AOps.j Z Z .N) Z (.consF Z (fun E => AOps.j Z Z .N) Z (.consF Z (fun E => S.idxO ha111 Z Z Z Z Z .N) Z (.consF Z (fun E => S.loadO ha111 Z Z Z Z Z .N) Z (.consF Z (fun E => S.idxO ha113 Z Z Z Z Z .N) Z (.consF Z (fun E => S.loadO ha113 Z Z Z Z Z .N) Z (.consF Z (fun E => AOps.J Z Z Z .N) Z (.consF Z (fun E => AOps.j Z Z .N) Z (.consF Z (fun E => AOps.z Z Z Z hb44 (.j Z Z .N)) Z (.consF Z (fun E => AOps.z Z Z Z hb44 (.j Z Z .N)) Z (.consF Z (fun E => AOps.z Z Z Z hb44 (.j Z Z .N)) Z (.consF Z (fun E => AOps.z Z Z Z hb44 (S.idxO ha120 Z Z Z Z Z .N)) Z (.consF Z (fun E => AOps.z Z Z Z hb44 (S.loadO ha120 Z Z Z Z Z .N)) Z (.consF Z (fun E => AOps.z Z Z Z hb44 (S.idxO ha122 Z Z Z Z Z .N)) Z (.consF Z (fun E => AOps.z Z Z Z hb44 (S.loadO ha122 Z Z Z Z Z .N)) Z (.consF Z (fun E => AOps.z Z Z Z hb44 (.j Z Z .N)) Z (.consF Z (fun E => AOps.z Z Z Z hb44 (.j Z Z .N)) Z (.consF Z (fun E => AOps.z Z Z Z hb44 (S.idxO ha126 Z Z Z Z Z .N)) Z (.consF Z (fun E => AOps.z Z Z Z hb44 (S.loadO ha126 Z Z Z Z Z .N)) Z (.consF Z (fun E => AOps.z Z Z Z hb44 (S.add Z Z Z .N)) Z (.consF Z (fun E => AOps.z Z Z Z hb44 (.j Z Z .N)) Z (.consF Z (fun E => AOps.z Z Z Z hb44 (.j Z Z .N)) Z (.consF Z (fun E => AOps.z Z Z Z hb44 (.j Z Z .N)) Z (.consF Z (fun E => AOps.z Z Z Z hb44 (S.idxO ha132 Z Z Z Z Z .N)) Z (.consF Z (fun E => AOps.z Z Z Z hb44 (S.loadO ha132 Z Z Z Z Z .N)) Z (.consF Z (fun E => AOps.z Z Z Z hb44 (S.idxO ha134 Z Z Z Z Z .N)) Z (.consF Z (fun E => AOps.z Z Z Z hb44 (S.loadO ha134 Z Z Z Z Z .N)) Z (.consF Z (fun E => AOps.z Z Z Z hb44 (.J Z Z Z .N)) Z (.consF Z (fun E => AOps.U Z hb44 Z Z .N) Z ?_)))))))))))))))))))))))))))))
         refine i8.done ?_
         dsimp only [i5]
         obtain rfl := oi hx43
         refine b6 (Sub.env ⟨Z, Z, Z, Z, Z, Z, Z, Y⟩)
        ·replace hx43 := L5 hb44 hx43
         refine AWP.drawI mixed Z ?_
         refine i8.consF Z (fun E => AOps.j Z Z .N) Z (.consF Z (fun E => AOps.j Z Z .N) Z (.consF Z (fun E => AOps.j Z Z .N) Z (.consF Z (fun E => S.idxO ha111 Z Z Z Z Z .N) Z (.consF Z (fun E => S.loadO ha111 Z Z Z Z Z .N) Z (.consF Z (fun E => S.idxO ha113 Z Z Z Z Z .N) Z (.consF Z (fun E => S.loadO ha113 Z Z Z Z Z .N) Z (.consF Z (fun E => AOps.J Z Z Z .N) Z (.consF Z (fun E => AOps.j Z Z .N) Z (.consF Z (fun E => AOps.B Z Z Z hb44 .N) Z (.consF Z (fun E => AOps.B Z Z Z hb44 .N) Z (.consF Z (fun E => AOps.B Z Z Z hb44 .N) Z (.consF Z (fun E => AOps.B Z Z Z hb44 .N) Z (.consF Z (fun E => AOps.B Z Z Z hb44 .N) Z (.consF Z (fun E => AOps.B Z Z Z hb44 .N) Z (.consF Z (fun E => AOps.B Z Z Z hb44 .N) Z (.consF Z (fun E => AOps.B Z Z Z hb44 .N) Z (.consF Z (fun E => AOps.B Z Z Z hb44 .N) Z (.consF Z (fun E => AOps.B Z Z Z hb44 .N) Z (.consF Z (fun E => AOps.B Z Z Z hb44 .N) Z (.consF Z (fun E => AOps.B Z Z Z hb44 .N) Z (.consF Z (fun E => AOps.B Z Z Z hb44 .N) Z (.consF Z (fun E => AOps.B Z Z Z hb44 .N) Z (.consF Z (fun E => AOps.B Z Z Z hb44 .N) Z (.consF Z (fun E => AOps.B Z Z Z hb44 .N) Z (.consF Z (fun E => AOps.B Z Z Z hb44 .N) Z (.consF Z (fun E => AOps.B Z Z Z hb44 .N) Z (.consF Z (fun E => AOps.B Z Z Z hb44 .N) Z (.consF Z (fun E => AOps.B Z Z Z hb44 .N) Z (.consF Z (fun E => AOps.O Z hb44 Z Z .N) Z ?_)))))))))))))))))))))))))))))
         refine i8.done ?_
         dsimp only [i5]
         obtain rfl := oi hx43
         refine b6 (Sub.env ⟨Z, Z, Z, Z, Z, Z, Z, Y⟩)
       ·refine AWP.ad Z hx41 (fun hc45 hx41 => ?_) (fun hc45 hx41 => ?_)
        ·refine AWP.q ?_
         obtain ⟨a141, ha141, a146, ha146, a148, ha148, hx41⟩ := b3 hx41
         obtain ⟨a152, ha152, a155, ha155, hx41⟩ := b2 hx41
         refine AWP.drawEI [18] mixed Z Z Z ?_
         refine d6.consN Z Z (fun E => AOps.j Z Z .N) Z (.consN Z Z (fun E => AOps.j Z Z .N) Z (.consN Z Z (fun E => AOps.j Z Z .N) Z (.consN Z Z (fun E => S.idxO ha141 Z Z Z Z Z .N) Z (.consN Z Z (fun E => S.loadO ha141 Z Z Z Z Z .N) Z (.consN Z Z (fun E => AOps.j Z Z .N) Z (.consN Z Z (fun E => AOps.j Z Z .N) Z (.consN Z Z (fun E => AOps.j Z Z .N) Z (.consN Z Z (fun E => S.idxO ha146 Z Z Z Z Z .N) Z (.consN Z Z (fun E => S.loadO ha146 Z Z Z Z Z .N) Z (.consN Z Z (fun E => S.idxO ha148 Z Z Z Z Z .N) Z (.consN Z Z (fun E => S.loadO ha148 Z Z Z Z Z .N) Z (.consN Z Z (fun E => AOps.j Z Z .N) Z (.consN Z Z (fun E => AOps.j Z Z .N) Z (.consN Z Z (fun E => S.idxO ha152 Z Z Z Z Z .N) Z (.consN Z Z (fun E => S.loadO ha152 Z Z Z Z Z .N) Z (.consN Z Z (fun E => S.add Z Z Z .N) Z (.consN Z Z (fun E => S.idxO ha155 Z Z Z Z Z .N) Z ?_)))))))))))))))))
         apply d6.consE (v := .undef); exact Z; exact Z; intro E
         refine S.storeO1 (f := intI) (a' := w64 (a148 + a152)) (f8 ha155) (fun _ => ⟨_, Z⟩) Z Z Z Z Z ?_
         exact AOps.nil ⟨Z, Z⟩
         exact Z
         exact Z
         refine d6.done Z ?_ ?_
         ·refine d5.cons Z Z ?_ ?_
          refine b7.go Z Z (fun E => AOps.j Z Z .N) ?_
          refine b7.skip Z (b7.nil)
          refine d5.cons Z Z ?_ ?_
          refine b7.go Z Z (fun E => AOps.j Z Z .N) ?_
          refine b7.skip Z (b7.nil)
          refine d5.cons Z Z ?_ ?_
          refine b7.go Z Z (fun E => AOps.j Z Z .N) ?_
          refine b7.skip Z (b7.nil)
          refine d5.cons Z Z ?_ ?_
          refine b7.go Z Z (fun E => S.idxO ha141 Z Z Z Z Z .N) ?_
          refine b7.skip Z (b7.nil)
          refine d5.cons Z Z ?_ ?_
          refine b7.go Z Z (fun E => S.loadO ha141 Z Z Z Z Z .N) ?_
          refine b7.skip Z (b7.nil)
          refine d5.cons Z Z ?_ ?_
          refine b7.go Z Z (fun E => AOps.j Z Z .N) ?_
          refine b7.skip Z (b7.nil)
          refine d5.cons Z Z ?_ ?_
          refine b7.go Z Z (fun E => AOps.j Z Z .N) ?_
          refine b7.skip Z (b7.nil)
          refine d5.cons Z Z ?_ ?_
          refine b7.go Z Z (fun E => AOps.j Z Z .N) ?_
          refine b7.skip Z (b7.nil)
          refine d5.cons Z Z ?_ ?_
          refine b7.go Z Z (fun E => S.idxO ha146 Z Z Z Z Z .N) ?_
          refine b7.skip Z (b7.nil)
          refine d5.cons Z Z ?_ ?_
          refine b7.go Z Z (fun E => S.loadO ha146 Z Z Z Z Z .N) ?_
          refine b7.skip Z (b7.nil)
          refine d5.cons Z Z ?_ ?_
          refine b7.go Z Z (fun E => S.idxO ha148 Z Z Z Z Z .N) ?_
          refine b7.skip Z (b7.nil)
          refine d5.cons Z Z ?_ ?_
          refine b7.go Z Z (fun E => S.loadO ha148 Z Z Z Z Z .N) ?_
          refine b7.skip Z (b7.nil)
          refine d5.cons Z Z ?_ ?_
          refine b7.go Z Z (fun E => AOps.j Z Z .N) ?_
          refine b7.skip Z (b7.nil)
          refine d5.cons Z Z ?_ ?_
          refine b7.go Z Z (fun E => AOps.j Z Z .N) ?_
          refine b7.skip Z (b7.nil)
          refine d5.cons Z Z ?_ ?_
          refine b7.go Z Z (fun E => S.idxO ha152 Z Z Z Z Z .N) ?_
          refine b7.skip Z (b7.nil)
          refine d5.cons Z Z ?_ ?_
          refine b7.go Z Z (fun E => S.loadO ha152 Z Z Z Z Z .N) ?_
          refine b7.skip Z (b7.nil)
          refine d5.cons Z Z ?_ ?_
          refine b7.go Z Z (fun E => S.add Z Z Z .N) ?_
          refine b7.skip Z (b7.nil)
          refine d5.cons Z Z ?_ ?_
          refine b7.go Z Z (fun E => S.idxO ha155 Z Z Z Z Z .N) ?_
          refine b7.skip Z (b7.nil)
          refine d5.skip Z (d5.nil)
         dsimp only [i5]
         refine b6 (.u (.v Z Z (.nil (e9 ?_))))
         obtain ⟨ej0, ej1⟩ := o2 hx41
         subst ej0 ej1
         refine b6 (Sub.env ⟨(H6 (by first | rfl | simp only [List.length_set])), Z, Z, Z, Z, Z, Y⟩)
        ·refine AWP.skip (e9 ?_)
         obtain ⟨ej0, ej1⟩ := o2 hx41
         subst ej0 ej1
         refine b6 (Sub.env ⟨Z, Z, Z, Z, Z, Z, Y⟩)
      ·try dsimp only at h
       refine AWP.u (.j Z Z (.add Z Z Z (by omega) (.v Z Z (.nil ?_))))
       obtain rfl := oi h
       refine b6 (Sub.env ⟨Z, Z, Z, Z, Z, Z, Y⟩)
     ·intro e s hq
      obtain ⟨rfl, hs⟩ := hq
      refine ⟨_, hs, ?_⟩
      refine j7 (e9 ?_)
      obtain rfl := oi h
      refine b6 ⟨_, Z, ?_⟩
      exact Sub.env ⟨Z, Z, Z, Z, Z, Y⟩
    ·refine AWP.exit (e7 ?_)
     obtain rfl := oi h
     refine e7 ⟨_, Z, Z, ?_⟩
     exact Sub.cut ⟨Z, Y⟩ Z ⟨.dead, .vec, Y⟩ Z
   ·intro e s hq
    obtain ⟨rfl, hs⟩ := hq
    refine ⟨_, hs, ?_⟩
    refine j7 (b6 (.q (.u (.j Z Z (.v Z Z (.nil (b6 (.ret ?_))))))))
    obtain rfl := oi h
    exact Done.ret Z (Fresh.mk Z Z)
theorem aj4 {t : d9} {r : Int} (h : O7 t = some r) : e8 prog 14 [.agg (tT t)] (.c (int r)) := by
 unfold e8
 refine FnOk.enter (rs := [.t 2]) func14 Z ntmps14 results14 Z ⟨trivial, Y⟩ (by kernel_rfl) Z ?_
 unfold O7 at h
 refine AWP.q (.u (W.box Z Z Z Z Z Z (.v Z Z (.nil (b6 (.q ?_))))))
 obtain ⟨a7, ha7, h⟩ := bind_some h
 refine AWP.u (W.loadAgg Z Z Z Z Z Z Z (.F Z Z Z Z (af0 ha7) Z (.j Z Z (.ac Z Z Z (.ac Z Z Z (.v Z Z (.v Z Z (.nil (b6 (.q (.q (.u (.j Z Z (.ae Z Z (.nil (b6 (.ad Z h (fun hc2 h => ?_) (fun hc2 h => ?_))))))))))))))))))
 ·refine AWP.q (.u (.v Z Z (.nil (b6 (.ret (e6 ?_))))))
  obtain rfl := oi h
  exact Done.ret Z Z
 ·refine AWP.skip (b6 (.q ?_))
  obtain ⟨a14, ha14, a15, ha15, h⟩ := b2 h
  refine AWP.u (W.loadAgg Z Z Z Z Z Z Z (.j Z Z (S.fresh Z Z Z Z (ref1_Costs_ok ha14) Z Z (S.idxO ha15 Z Z Z Z Z (S.loadO ha15 Z Z Z Z Z (.v Z Z (.nil (b6 (.ret ?_)))))))))
  obtain rfl := oi h
  exact Done.ret Z Z
theorem ag1 {t : d9} {r : (List Int) × i9} (h : D3 t = some r) : e8 prog 21 [.agg (tT t)] (.tup [.c (row 1 intI r.1), .agg [int r.2.code, int r.2.index]]) := by
 unfold e8
 refine FnOk.enter (rs := [.t 2, .cell 3 27 2]) func21 Z ntmps21 results21 Z ⟨trivial, rv _ Z, Y⟩ (by kernel_rfl) Z ?_
 unfold D3 at h
 refine AWP.q (.u (W.box Z Z Z Z Z Z (.v Z Z (W.alloc Z Z Z Z (.nil (b6 (.q (.q ?_))))))))
 obtain ⟨a12, ha12, h⟩ := bind_some h
 refine AWP.u (W.loadAgg Z Z Z Z Z Z Z (.F Z Z Z Z (I8 ha12) Z (W.alloc Z Z Z Z (W.storeAgg Z Z Z Z Z Z Z (.nil (b6 (.q (.u (W.loadAgg Z Z Z Z Z Z Z (W.build Z Z Z Z (.neqP Z Z Z Z Z Z Z (.nil (b6 (.ad Z h (fun hc2 h => ?_) (fun hc2 h => ?_)))))))))))))))
 ·refine AWP.q (.drawEI [2] mixed Z Z Z ?_)
  refine d6.consN Z Z (fun E => W.loadAgg Z Z Z Z Z Z Z .N) Z (.consN Z Z (fun E => AOps.v Z Z .N) Z ?_)
  apply d6.consE (v := .undef); exact Z; exact Z; intro E
  refine W.storeAgg Z Z Z Z Z Z Z .N
  exact Z
  exact Z
  refine d6.done Z ?_ ?_
  ·refine d5.cons Z Z ?_ ?_
   refine b7.go Z Z (fun E => W.loadAgg Z Z Z Z Z Z Z .N) ?_
   refine b7.skip Z (b7.nil)
   refine d5.cons Z Z ?_ ?_
   refine b7.go Z Z (fun E => AOps.v Z Z .N) ?_
   refine b7.skip Z (b7.nil)
   refine d5.skip Z (d5.nil)
  dsimp only [i5]
  refine b6 (.nilrow 1 2 Z (.ret (e6 ?_)))
  obtain rfl := oi h
  exact Done.ret Z Z
 ·refine AWP.skip (b6 (.q ?_))
  obtain ⟨a19, ha19, h⟩ := bind_some h
  refine AWP.u (W.loadAgg Z Z Z Z Z Z Z (.F Z Z Z Z (M1 ha19) Z (.j Z Z (.ac Z Z Z (.ac Z Z Z (W.alloc Z Z Z Z (.v Z Z (W.storeAgg Z Z Z Z Z Z Z (.nil (b6 (.q (.aa (.q (.u (W.loadAgg Z Z Z Z Z Z Z (W.build Z Z Z Z (.neqP Z Z Z Z Z Z Z (.v Z Z (.nil (b6 (.ad Z h (fun hc3 h => ?_) (fun hc3 h => ?_))))))))))))))))))))))
  ·refine AWP.q (.drawEI [2] mixed Z Z Z ?_)
   refine d6.consN Z Z (fun E => W.loadAgg Z Z Z Z Z Z Z .N) Z (.consN Z Z (fun E => AOps.v Z Z .N) Z ?_)
   apply d6.consE (v := .undef); exact Z; exact Z; intro E
   refine W.storeAgg Z Z Z Z Z Z Z .N
   exact Z
   exact Z
   refine d6.done Z ?_ ?_
   ·refine d5.cons Z Z ?_ ?_
    refine b7.go Z Z (fun E => W.loadAgg Z Z Z Z Z Z Z .N) ?_
    refine b7.skip Z (b7.nil)
    refine d5.cons Z Z ?_ ?_
    refine b7.go Z Z (fun E => AOps.v Z Z .N) ?_
    refine b7.skip Z (b7.nil)
    refine d5.skip Z (d5.nil)
   dsimp only [i5]
   refine b6 (.nilrow 1 2 Z (.ret (k9 (e6 ?_))))
   obtain rfl := oi h
   exact Done.ret Z Z
  ·refine AWP.q (.u (.j Z Z (.ab Z Z Z (.v Z Z (.nil (b6 (.ite Z h (fun hc4 h => ?_) (fun hc4 h => ?_))))))))
   ·refine AWP.q (.u (W.build Z Z Z Z (.v Z Z (W.storeAgg Z Z Z Z Z Z Z (.nil (b6 (.nilrow 1 2 Z (.ret (k9 (e6 ?_))))))))))
    obtain rfl := oi h
    exact Done.ret Z Z
   ·refine AWP.skip (e9 (b6 (.q (.u (.v Z Z (.nil (b6 (.q (.q (.u (W.fieldAddr Z Z Z Z (.E Z Z Z Z Z Z (S.len Z Z (fun hl33 => .j Z Z (.nil (b6 (.aa (.virtV 1 intI 7 Z Z Z ?_))))))))))))))))))
    obtain ⟨oo, ho1, h⟩ := bind_some h
    refine AWP.rngS ho1 (fun t6 c5 => ⟨[(1, .c (.ptr 0 0 0)), (3, .c (.ptr 1 0 0)), (7, .c (.own 4 0 c5.length)), (33, .c (int (t.operators.length : Int))), (34, .c (int t6))], [.one (.cells 4 [(tT t)]), .one (.cells 2 [[int 0, int 0]]), .dead, .dead, .one (vec 1 intI c5)]⟩) (fun o e st => match o with | .inl c5 => e = .exit 1 ∧ Sub [] st ⟨[(3, .c (.ptr 1 0 0)), (7, .c (.own 4 0 c5.length))], [.one (.cells 4 [(tT t)]), .one (.cells 2 [[int 0, int 0]]), .dead, .dead, .one (vec 1 intI c5)]⟩ | .inr x => e = .ret ∧ Done [.t 2, .cell 3 27 2] (fun t _ => t = .tup [.c (row 1 intI x.1), .agg [int x.2.code, int x.2.index]]) .ret st) ?_ ?_ ?_ ?_
    ·try dsimp only
     exact Sub.cut ⟨Z, Z, (H6 (by first | rfl | simp only [List.length_set])), Z, Z, Y⟩ Z ⟨.one Z, .one Z, .dead, .dead, .vec, Y⟩ Z
    ·intro t6 c5 hlot6 hltt6 _
     try dsimp only
     refine AWP.q (.u (.J Z Z Z (.nil (b6 (.q (.ag Z hltt6 (.exit (e7 (e7 ⟨Z, ?_⟩)))))))))
     exact Sub.env ⟨Z, Z, Y⟩
    ·intro t6 c5 o hlot6 hltt6 h
     unfold E0 at h
     try dsimp only at h ⊢
     refine AWP.q (.u (.J Z Z Z (.nil (b6 (.q (.ah Z hltt6 (.skip (b6 (.seqF (D8) o (fun c7 => ⟨[(1, .c (.ptr 0 0 0)), (3, .c (.ptr 1 0 0)), (7, .c (.own 7 0 c7.length)), (33, .c (int (t.operators.length : Int))), (34, .c (int t6))], [.one (.cells 4 [(tT t)]), .one (.cells 2 [[int 0, int 0]]), .dead, .dead, .dead, .dead, .dead, .one (vec 1 intI c7)]⟩) (fun c7 h => ?_) ?_)))))))))
     ·unfold D8 at h
      try dsimp only at h ⊢
      refine AWP.u (.add Z Z Z (by omega) (.j Z Z (.nil ?_)))
      obtain rfl := oi h
      refine b6 ⟨_, Z, ?_⟩
      exact (Sub.move (env' := [(1, .c (.ptr 0 0 0)), (3, .c (.ptr 1 0 0)), (7, .c (.own 4 0 c7.length)), (33, .c (int (t.operators.length : Int))), (34, .c (int (t6 + 1)))]) (σ' := [.one (.cells 4 [(tT t)]), .one (.cells 2 [[int 0, int 0]]), .dead, .dead, .one (vec 1 intI c7), .dead, .dead]) 4 7 Z Z Z ⟨Z, Z, Z, Z, Z, Y⟩ Z ⟨⟨Z, Z⟩, ⟨Z, Z⟩, trivial, trivial, ⟨Blk.im_ok _ _ _, f7 Z⟩, trivial, trivial, Y⟩).trans (Sub.cut ⟨Z, Z, Z, Z, Z, Y⟩ Z ⟨.one Z, .one Z, .dead, .dead, .vec, Y⟩ Z)
     ·refine AWP.aa (.q (.u (.j Z Z (.v Z Z (.nil (b6 (.q ?_)))))))
      obtain ⟨a40, ha40, h⟩ := bind_some h
      refine AWP.u (W.loadAgg Z Z Z Z Z Z Z (.j Z Z (.F Z Z Z Z (O0 ha40) Z (.j Z Z (.ac Z Z Z (.ac Z Z Z (W.alloc Z Z Z Z (.v Z Z (W.storeAgg Z Z Z Z Z Z Z (.nil (b6 (.q (.q (.u (W.loadAgg Z Z Z Z Z Z Z (W.build Z Z Z Z (.neqP Z Z Z Z Z Z Z (.nil (b6 (.ad Z h (fun hc8 h => ?_) (fun hc8 h => ?_)))))))))))))))))))))
      ·refine AWP.q (.drawEI [2] mixed Z Z Z ?_)
       refine d6.consN Z Z (fun E => W.loadAgg Z Z Z Z Z Z Z .N) Z (.consN Z Z (fun E => AOps.v Z Z .N) Z ?_)
       apply d6.consE (v := .undef); exact Z; exact Z; intro E
       refine W.storeAgg Z Z Z Z Z Z Z .N
       exact Z
       exact Z
       refine d6.done Z ?_ ?_
       ·refine d5.cons Z Z ?_ ?_
        refine b7.go Z Z (fun E => W.loadAgg Z Z Z Z Z Z Z .N) ?_
        refine b7.skip Z (b7.nil)
        refine d5.cons Z Z ?_ ?_
        refine b7.go Z Z (fun E => AOps.v Z Z .N) ?_
        refine b7.skip Z (b7.nil)
        refine d5.skip Z (d5.nil)
       dsimp only [i5]
       refine b6 (.nilrow 1 2 Z (.ret (e6 (k9 (e6 ?_)))))
       obtain rfl := oi h
       refine e6 ⟨_, Z, Z, ?_⟩
       exact Done.ret Z Z
      ·refine AWP.skip (b6 (.q (.u (.j Z Z (.ab Z Z Z (.nil (b6 (.ite Z h (fun hc9 h => ?_) (fun hc9 h => ?_)))))))))
       ·obtain ⟨a52, ha52, h⟩ := bind_some h
        refine AWP.u (.j Z Z (.j Z Z (S.lit (f := intI) (l := [t6]) (ess := [[int t6]]) Z Z Z Z Z Z Z ⟨⟨.inl Z, Y⟩, Y⟩ Z Z Z (S.append (f := intI) ha52 Z Z Z Z Z Z (.own Z Z) Z Z Z Z (.v Z Z (.nil (e9 (b6 ⟨_, h, ?_⟩))))))))
        exact Sub.cut ⟨Z, Z, Z, Z, Z, Y⟩ Z ⟨.one Z, .one Z, .dead, .dead, .dead, .dead, .dead, .vec, Y⟩ Z
       ·refine AWP.skip (e9 (b6 ⟨_, h, ?_⟩))
        exact (Sub.move (env' := [(1, .c (.ptr 0 0 0)), (3, .c (.ptr 1 0 0)), (7, .c (.own 7 0 c5.length)), (33, .c (int (t.operators.length : Int))), (34, .c (int t6))]) (σ' := [.one (.cells 4 [(tT t)]), .one (.cells 2 [[int 0, int 0]]), .dead, .dead, .dead, .one (.cells 2 [[int a40.2.code, int a40.2.index]]), .dead, .one (vec 1 intI c5)]) 7 4 Z Z Z ⟨Z, Z, Z, Z, Z, Y⟩ Z ⟨⟨Z, Z⟩, ⟨Z, Z⟩, trivial, trivial, trivial, ⟨Z, Z⟩, trivial, ⟨Blk.im_ok _ _ _, f7 Z⟩, Y⟩).trans (Sub.cut ⟨Z, Z, Z, Z, Z, Y⟩ Z ⟨.one Z, .one Z, .dead, .dead, .dead, .dead, .dead, .vec, Y⟩ Z)
    ·intro e s hq
     rcases oo with c5 | x
     ·try dsimp only at h hq
      obtain ⟨rfl, hs⟩ := hq
      refine ⟨_, hs, ?_⟩
      refine j7 (b6 (.q (.u (.j Z Z (W.build Z Z Z Z (.v Z Z (W.storeAgg Z Z Z Z Z Z Z (.nil (b6 (.frzV (id := 4) (l := c5) (env2 := [(2, .c (row 1 intI c5)), (3, .c (.ptr 1 0 0))]) (σ2 := [.one (.cells 4 [(tT t)]), .one (.cells 2 [[int 0, int 0]]), .dead, .dead, .dead]) Z Z (by exact ⟨⟨_, Z, .inr ⟨_, Z, Z, Z⟩⟩, ⟨_, Z, .inl ⟨Z, Z⟩⟩, Y⟩) Z (by exact ⟨⟨Z, .inl ⟨Z, Z⟩, .inl ⟨Z, Z⟩, .inl ⟨Z, Z⟩, .inl ⟨Z, Z⟩, Y⟩, ⟨Z, .inl ⟨Z, Z⟩, .inl ⟨Z, Z⟩, Y⟩, trivial, trivial, trivial, Y⟩) (.ret ?_)))))))))))
      obtain rfl := oi h
      exact Done.ret Z Z
     ·try dsimp only at h hq
      obtain ⟨rfl, hs⟩ := hq
      refine ⟨_, Sub.refl _ _, ?_⟩
      refine k9 (e6 ?_)
      obtain rfl := oi h
      exact hs
theorem ad0 {av : List Int} {bv : List Int} {r : Bool} (h : N2 av bv = some r) : e8 prog 23 [.c (row 1 intI av), .c (row 1 intI bv)] (.c (bool r)) := by
 unfold e8
 refine FnOk.enter (rs := [.t 4]) func23 Z ntmps23 results23 Z ⟨trivial, Y⟩ (by kernel_rfl) Z ?_
 unfold N2 at h
 refine AWP.q (.u (.v Z Z (.nil (b6 (.q (.q (.u (.j Z Z (S.len Z Z (fun hl7 => .j Z Z (S.len Z Z (fun hl9 => .neq Z Z Z (.nil (b6 (.iteN Z h (fun hc3 h => ?_) (fun hc3 h => ?_))))))))))))))))
 ·refine AWP.q (.u (.v Z Z (.nil (b6 (.ret (e6 ?_))))))
  obtain rfl := oi h
  exact Done.ret Z Z
 ·refine AWP.skip (b6 (.q (.q (.u (.v Z Z (.nil (b6 (.aa ?_))))))))
  obtain ⟨oo, ho1, h⟩ := bind_some h
  refine AWP.rngS ho1 (fun iv4 _ => ⟨[(0, .c (row 1 intI av)), (1, .c (row 1 intI bv)), (5, .c (int iv4))], []⟩) (fun o e st => match o with | .inl _ => e = .exit 0 ∧ Sub [] st ⟨[], []⟩ | .inr x => e = .ret ∧ Done [.t 4] (fun t _ => t = .c (bool x)) .ret st) ?_ ?_ ?_ ?_
  ·try dsimp only
   exact Sub.env ⟨Z, Z, Z, Y⟩
  ·intro iv4 s hloiv4 hltiv4 _
   try dsimp only
   refine AWP.q (.q (.u (.j Z Z (.j Z Z (S.len Z Z (fun hl13 => .J Z Z Z (.nil (b6 (.ag Z hltiv4 (.exit (e7 (e7 ⟨Z, ?_⟩))))))))))))
   exact Sub.env trivial
  ·intro iv4 s o hloiv4 hltiv4 h
   unfold M0 at h
   try dsimp only at h ⊢
   refine AWP.q (.q (.u (.j Z Z (.j Z Z (S.len Z Z (fun hl13 => .J Z Z Z (.nil (b6 (.ah Z hltiv4 (.skip (b6 (.q (.aa (.q ?_))))))))))))))
   obtain ⟨a19, ha19, a23, ha23, h⟩ := b2 h
   refine AWP.drawI mixed Z ?_
   refine i8.consF Z (fun E => AOps.j Z Z .N) Z (.consF Z (fun E => AOps.j Z Z .N) Z (.consF Z (fun E => S.idx ha19 Z Z Z Z .N) Z (.consF Z (fun E => AOps.ai Z Z Z Z .N) Z (.consF Z (fun E => AOps.j Z Z .N) Z (.consF Z (fun E => AOps.j Z Z .N) Z (.consF Z (fun E => S.idx ha23 Z Z Z Z .N) Z (.consF Z (fun E => AOps.ai Z Z Z Z .N) Z (.consF Z (fun E => AOps.neq Z Z Z .N) Z ?_))))))))
   refine i8.done ?_
   dsimp only [i5]
   refine b6 (.iteN Z h (fun hc5 h => ?_) (fun hc5 h => ?_))
   ·refine AWP.q (.u (.v Z Z (.nil (b6 (.ret (k9 (e6 ?_)))))))
    obtain rfl := oi h
    refine e6 ⟨_, Z, Z, ?_⟩
    exact Done.ret Z Z
   ·refine AWP.skip (e9 (b6 (.u (.j Z Z (.add Z Z Z (by omega) (.v Z Z (.nil ?_)))))))
    obtain rfl := oi h
    refine b6 ⟨_, Z, ?_⟩
    exact Sub.env ⟨Z, Z, Z, Y⟩
  ·intro e s hq
   rcases oo with u | x
   ·try dsimp only at h hq
    obtain ⟨rfl, hs⟩ := hq
    refine ⟨_, hs, ?_⟩
    refine j7 (b6 (.q (.u (.v Z Z (.nil (b6 (.ret ?_)))))))
    obtain rfl := oi h
    exact Done.ret Z Z
   ·try dsimp only at h hq
    obtain ⟨rfl, hs⟩ := hq
    refine ⟨_, Sub.refl _ _, ?_⟩
    refine k9 (e6 ?_)
    obtain rfl := oi h
    exact hs
theorem P5 {t : d9} {r : Bool} (h : s8 t = some r) : e8 prog 6 [.agg (tT t)] (.c (bool r)) := by
 unfold e8
 refine FnOk.enter (rs := [.t 2]) func6 Z ntmps6 results6 Z ⟨trivial, Y⟩ (by kernel_rfl) Z ?_
 unfold s8 at h
 refine AWP.q (.u (W.box Z Z Z Z Z Z (.v Z Z (.nil (b6 (.q ?_))))))
 obtain ⟨a12, ha12, h⟩ := bind_some h
 refine AWP.u (W.loadAgg Z Z Z Z Z Z Z (.F Z Z Z Z (ag1 ha12) Z (.j Z Z (.ac Z Z Z (.ac Z Z Z (W.alloc Z Z Z Z (.v Z Z (W.storeAgg Z Z Z Z Z Z Z (.nil (b6 (.q ?_)))))))))))
 obtain ⟨a16, ha16, h⟩ := bind_some h
 refine AWP.u (W.loadAgg Z Z Z Z Z Z Z (.F Z Z Z Z (al3 ha16) Z (W.alloc Z Z Z Z (W.storeAgg Z Z Z Z Z Z Z (.nil (b6 (.q (.q (.u (W.fieldAddr Z Z Z Z (.E Z Z Z Z Z Z (.neq Z Z Z (.nil (b6 (.iteN Z h (fun hc2 h => ?_) (fun hc2 h => ?_))))))))))))))))
 ·obtain ⟨t3, hx4, h⟩ := bind_some h
  refine AWP.seqJ (⟨[(2, .c (bool t3))], []⟩) ?_ ?_
  ·rcases bft ((decide (a12.2.code = a16.code)) && (decide (a12.2.index = a16.index))) with hb5 | hb5
   ·replace hx4 := K9 hb5 hx4
    rcases bft (decide ((a12.1.length : Int) = 0)) with hb6 | hb6
    ·replace hx4 := L8 hb6 hx4
     obtain ⟨a29, ha29, hx4⟩ := bind_some hx4
     refine AWP.u (W.loadAgg Z Z Z Z Z Z Z (W.loadAgg Z Z Z Z Z Z Z (.eqlP Z Z Z Z Z Z Z (.j Z Z (.z Z Z Z hb5 (.j Z Z ?_))))))
     refine AOps.z Z Z Z hb5 ?_; refine S.len Z Z (fun hl25 => ?_)
     refine AOps.z Z Z Z hb5 (.ab Z Z Z (.U Z hb5 Z Z (.j Z Z (.z Z Z Z hb6 (.F Z Z Z Z (R1 ha29) Z (.U Z hb6 Z Z (.v Z Z (.nil ?_))))))))
     obtain rfl := oi hx4
     refine b6 (Sub.cut ⟨Z, Y⟩ Z trivial Z)
    ·replace hx4 := L5 hb6 hx4
     refine AWP.u (W.loadAgg Z Z Z Z Z Z Z (W.loadAgg Z Z Z Z Z Z Z (.eqlP Z Z Z Z Z Z Z (.j Z Z (.z Z Z Z hb5 (.j Z Z ?_))))))
     refine AOps.z Z Z Z hb5 ?_; refine S.len Z Z (fun hl25 => ?_)
     refine AOps.z Z Z Z hb5 (.ab Z Z Z (.U Z hb5 Z Z (.j Z Z (.B Z Z Z hb6 (.O Z hb6 Z Z (.v Z Z (.nil ?_)))))))
     obtain rfl := oi hx4
     refine b6 (Sub.cut ⟨Z, Y⟩ Z trivial Z)
   ·replace hx4 := L3 hb5 hx4
    refine AWP.u (W.loadAgg Z Z Z Z Z Z Z (W.loadAgg Z Z Z Z Z Z Z (.eqlP Z Z Z Z Z Z Z (.j Z Z (.B Z Z Z hb5 (.B Z Z Z hb5 (.B Z Z Z hb5 (.O Z hb5 Z Z (.j Z Z (.B Z Z Z Z (.O Z Z Z Z (.v Z Z (.nil ?_)))))))))))))
    obtain rfl := oi hx4
    refine b6 (Sub.cut ⟨Z, Y⟩ Z trivial Z)
  ·refine AWP.ret (e6 ?_)
   obtain rfl := oi h
   exact Done.ret Z Z
 ·refine AWP.skip (b6 (.q ?_))
  obtain ⟨a33, ha33, h⟩ := bind_some h
  refine AWP.u (W.loadAgg Z Z Z Z Z Z Z (.F Z Z Z Z (af0 ha33) Z (.j Z Z (.ac Z Z Z (.ac Z Z Z (.v Z Z (.v Z Z (.nil (b6 (.q (.seqJ (⟨[(1, .c (.ptr 0 0 0)), (3, .c (row 1 intI a12.1)), (4, .c (.ptr 1 0 0)), (42, .c (bool ((!a33.2) || (decide (300 < (a33.1.length : Int))))))], [.one (.cells 4 [(tT t)]), .one (.cells 2 [[int a12.2.code, int a12.2.index]]), .one (.cells 2 [[int a16.code, int a16.index]])]⟩) ?_ ?_)))))))))))
  ·rcases bft (!a33.2) with hb1 | hb1
   ·refine AWP.u (.j Z Z (.ae Z Z (.j Z Z (.B Z Z Z hb1 (.B Z Z Z hb1 (.B Z Z Z hb1 (.U Z hb1 Z Z (.nil (b6 ?_)))))))))
    simp only [s5 hb1, or_t hb1, Bool.false_or, Bool.true_or, Bool.false_and, Bool.true_and]
    exact Sub.env ⟨Z, Z, Z, Z, Y⟩
   ·refine AWP.u (.j Z Z (.ae Z Z (.j Z Z (.z Z Z Z hb1 (.j Z Z ?_)))))
    refine AOps.z Z Z Z hb1 ?_; refine S.len Z Z (fun hl40 => ?_)
    refine AOps.z Z Z Z hb1 (.gtr Z Z Z (.O Z hb1 Z Z (.nil (b6 ?_))))
    simp only [E3 hb1, or_f hb1, Bool.false_or, Bool.true_or, Bool.false_and, Bool.true_and]
    exact Sub.env ⟨Z, Z, Z, Z, Y⟩
  ·refine AWP.ad Z h (fun hc7 h => ?_) (fun hc7 h => ?_)
   ·refine AWP.q ?_
    obtain ⟨a43, ha43, h⟩ := bind_some h
    refine AWP.u (.F Z Z Z Z (R1 ha43) Z (.v Z Z (.nil (b6 (.ret (e6 ?_))))))
    obtain rfl := oi h
    exact Done.ret Z Z
   ·refine AWP.skip (b6 (.q (.q ?_)))
    obtain ⟨a45, ha45, h⟩ := bind_some h
    refine AWP.u (W.loadAgg Z Z Z Z Z Z Z (.F Z Z Z Z (aj4 ha45) Z (.ab Z Z Z (.nil (b6 (.ite Z h (fun hc8 h => ?_) (fun hc8 h => ?_)))))))
    ·obtain ⟨t9, hx10, h⟩ := bind_some h
     refine AWP.seqJ (⟨[(2, .c (bool t9))], []⟩) ?_ ?_
     ·obtain ⟨a48, ha48, hx10⟩ := bind_some hx10
      rcases bft ((decide (a12.2.code = a48.code)) && (decide (a12.2.index = a48.index))) with hb11 | hb11
      ·replace hx10 := K9 hb11 hx10
       rcases bft (decide ((a12.1.length : Int) = 0)) with hb12 | hb12
       ·replace hx10 := L8 hb12 hx10
        obtain ⟨a56, ha56, hx10⟩ := bind_some hx10
        refine AWP.drawI mixed Z ?_
        refine i8.consF Z (fun E => W.loadAgg Z Z Z Z Z Z Z .N) Z (.consF Z (fun E => AOps.F Z Z Z Z (F9 ha48) Z .N) Z (.consF Z (fun E => AOps.eqlP Z Z Z Z Z Z Z .N) Z (.consF Z (fun E => AOps.j Z Z .N) Z (.consF Z (fun E => AOps.z Z Z Z hb11 (.j Z Z .N)) Z ?_))))
        apply i8.consF; exact Z; intro E
        refine AOps.z Z Z Z hb11 ?_; refine S.len Z Z (fun hl52 => ?_)
        exact AOps.nil ⟨Z, Z⟩
        exact Z
        refine i8.consF Z (fun E => AOps.z Z Z Z hb11 (.ab Z Z Z .N)) Z (.consF Z (fun E => AOps.U Z hb11 Z Z .N) Z (.consF Z (fun E => AOps.j Z Z .N) Z (.consF Z (fun E => AOps.z Z Z Z hb12 (.F Z Z Z Z (R1 ha56) Z .N)) Z (.consF Z (fun E => AOps.U Z hb12 Z Z .N) Z (.consF Z (fun E => AOps.v Z Z .N) Z ?_)))))
        refine i8.done ?_
        dsimp only [i5]
        obtain rfl := oi hx10
        refine b6 (Sub.cut ⟨Z, Y⟩ Z trivial Z)
       ·replace hx10 := L5 hb12 hx10
        refine AWP.drawI mixed Z ?_
        refine i8.consF Z (fun E => W.loadAgg Z Z Z Z Z Z Z .N) Z (.consF Z (fun E => AOps.F Z Z Z Z (F9 ha48) Z .N) Z (.consF Z (fun E => AOps.eqlP Z Z Z Z Z Z Z .N) Z (.consF Z (fun E => AOps.j Z Z .N) Z (.consF Z (fun E => AOps.z Z Z Z hb11 (.j Z Z .N)) Z ?_))))
        apply i8.consF; exact Z; intro E
        refine AOps.z Z Z Z hb11 ?_; refine S.len Z Z (fun hl52 => ?_)
        exact AOps.nil ⟨Z, Z⟩
        exact Z
        refine i8.consF Z (fun E => AOps.z Z Z Z hb11 (.ab Z Z Z .N)) Z (.consF Z (fun E => AOps.U Z hb11 Z Z .N) Z (.consF Z (fun E => AOps.j Z Z .N) Z (.consF Z (fun E => AOps.B Z Z Z hb12 .N) Z (.consF Z (fun E => AOps.O Z hb12 Z Z .N) Z (.consF Z (fun E => AOps.v Z Z .N) Z ?_)))))
        refine i8.done ?_
        dsimp only [i5]
        obtain rfl := oi hx10
        refine b6 (Sub.cut ⟨Z, Y⟩ Z trivial Z)
      ·replace hx10 := L3 hb11 hx10
       refine AWP.drawI mixed Z ?_
       refine i8.consF Z (fun E => W.loadAgg Z Z Z Z Z Z Z .N) Z (.consF Z (fun E => AOps.F Z Z Z Z (F9 ha48) Z .N) Z (.consF Z (fun E => AOps.eqlP Z Z Z Z Z Z Z .N) Z (.consF Z (fun E => AOps.j Z Z .N) Z (.consF Z (fun E => AOps.B Z Z Z hb11 .N) Z (.consF Z (fun E => AOps.B Z Z Z hb11 .N) Z (.consF Z (fun E => AOps.B Z Z Z hb11 .N) Z (.consF Z (fun E => AOps.O Z hb11 Z Z .N) Z (.consF Z (fun E => AOps.j Z Z .N) Z (.consF Z (fun E => AOps.B Z Z Z Z .N) Z (.consF Z (fun E => AOps.O Z Z Z Z .N) Z (.consF Z (fun E => AOps.v Z Z .N) Z ?_)))))))))))
       refine i8.done ?_
       dsimp only [i5]
       obtain rfl := oi hx10
       refine b6 (Sub.cut ⟨Z, Y⟩ Z trivial Z)
     ·refine AWP.ret (e6 ?_)
      obtain rfl := oi h
      exact Done.ret Z Z
    ·refine AWP.skip (b6 (.q (.u (.v Z Z (.nil (b6 (.q (.q (.u (.v Z Z (.nil (b6 (.aa (.virtV 1 intI 8 Z Z Z ?_))))))))))))))
     obtain ⟨c13, ho1, h⟩ := bind_some h
     refine AWP.forS ho1 (fun op14 c13 => ⟨[(1, .c (.ptr 0 0 0)), (3, .c (row 1 intI a12.1)), (4, .c (.ptr 1 0 0)), (8, .c (.own 3 0 c13.length)), (9, .c (int op14))], [.one (.cells 4 [(tT t)]), .one (.cells 2 [[int a12.2.code, int a12.2.index]]), .dead, .one (vec 1 intI c13)]⟩) (fun c13 e st => e = .exit 0 ∧ Sub [] st ⟨[(3, .c (row 1 intI a12.1)), (4, .c (.ptr 1 0 0)), (8, .c (.own 3 0 c13.length))], [.one (.cells 4 [(tT t)]), .one (.cells 2 [[int a12.2.code, int a12.2.index]]), .dead, .one (vec 1 intI c13)]⟩) ?_ ?_ ?_ ?_
     ·try dsimp only
      exact Sub.cut ⟨Z, Z, Z, (H6 (by first | rfl | simp only [List.length_set])), Z, Y⟩ Z ⟨.one Z, .one Z, .dead, .vec, Y⟩ Z
     ·intro op14 c13 hloop14 hltop14 _
      try dsimp only
      refine AWP.q (.q (.u (.j Z Z (W.fieldAddr Z Z Z Z (.E Z Z Z Z Z Z (S.len Z Z (fun hl61 => .J Z Z Z (.nil (b6 (.ag Z hltop14 (.exit (e7 (e7 ⟨Z, ?_⟩)))))))))))))
      exact Sub.env ⟨Z, Z, Z, Y⟩
     ·intro op14 c13 o hloop14 hltop14 h
      unfold o9 at h
      try dsimp only at h ⊢
      refine AWP.q (.q (.u (.j Z Z (W.fieldAddr Z Z Z Z (.E Z Z Z Z Z Z (S.len Z Z (fun hl61 => .J Z Z Z (.nil (b6 (.ah Z hltop14 (.skip (b6 ?_))))))))))))
      obtain ⟨c15, hx16, h⟩ := bind_some h
      refine AWP.seqJ (⟨[(1, .c (.ptr 0 0 0)), (3, .c (row 1 intI a12.1)), (4, .c (.ptr 1 0 0)), (8, .c (.own 5 0 c15.length)), (9, .c (int op14))], [.one (.cells 4 [(tT t)]), .one (.cells 2 [[int a12.2.code, int a12.2.index]]), .dead, .dead, .dead, .one (vec 1 intI c15)]⟩) ?_ ?_
      ·refine AWP.aa (.q ?_)
       obtain ⟨a67, ha67, a68, ha68, hx16⟩ := b2 hx16
       refine AWP.u (W.loadAgg Z Z Z Z Z Z Z (.j Z Z (.F Z Z Z Z (ref8_Dropped_ok ha67) Z (.F Z Z Z Z (aj4 ha68) Z (.ab Z Z Z (.nil (b6 (.ite Z hx16 (fun hc17 hx16 => ?_) (fun hc17 hx16 => ?_)))))))))
       ·obtain ⟨a73, ha73, hx16⟩ := bind_some hx16
        refine AWP.u (.j Z Z (.j Z Z (S.lit (f := intI) (l := [op14]) (ess := [[int op14]]) Z Z Z Z Z Z Z ⟨⟨.inl Z, Y⟩, Y⟩ Z Z Z (S.append (f := intI) ha73 Z Z Z Z Z Z (.own Z Z) Z Z Z Z (.v Z Z (.nil (e9 ?_)))))))
        obtain rfl := oi hx16
        refine b6 (Sub.cut ⟨Z, Z, Z, Z, Z, Y⟩ Z ⟨.one Z, .one Z, .dead, .dead, .dead, .vec, Y⟩ Z)
       ·refine AWP.skip (e9 ?_)
        obtain rfl := oi hx16
        refine b6 ((Sub.move (env' := [(1, .c (.ptr 0 0 0)), (3, .c (row 1 intI a12.1)), (4, .c (.ptr 1 0 0)), (8, .c (.own 5 0 c13.length)), (9, .c (int op14))]) (σ' := [.one (.cells 4 [(tT t)]), .one (.cells 2 [[int a12.2.code, int a12.2.index]]), .dead, .dead, .dead, .one (vec 1 intI c13)]) 5 3 Z Z Z ⟨Z, Z, Z, Z, Z, Y⟩ Z ⟨⟨Z, Z⟩, ⟨Z, Z⟩, trivial, trivial, trivial, ⟨Blk.im_ok _ _ _, f7 Z⟩, Y⟩).trans (Sub.env ⟨Z, Z, Z, Z, Z, Y⟩))
      ·refine AWP.u (.j Z Z (.add Z Z Z (by omega) (.v Z Z (.nil ?_))))
       obtain rfl := oi h
       refine b6 ((Sub.move (env' := [(1, .c (.ptr 0 0 0)), (3, .c (row 1 intI a12.1)), (4, .c (.ptr 1 0 0)), (8, .c (.own 3 0 c15.length)), (9, .c (int (op14 + 1)))]) (σ' := [.one (.cells 4 [(tT t)]), .one (.cells 2 [[int a12.2.code, int a12.2.index]]), .dead, .one (vec 1 intI c15), .dead]) 3 5 Z Z Z ⟨Z, Z, Z, Z, Z, Y⟩ Z ⟨⟨Z, Z⟩, ⟨Z, Z⟩, trivial, ⟨Blk.im_ok _ _ _, f7 Z⟩, trivial, Y⟩).trans (Sub.cut ⟨Z, Z, Z, Z, Z, Y⟩ Z ⟨.one Z, .one Z, .dead, .vec, Y⟩ Z))
     ·intro e s hq
      obtain ⟨rfl, hs⟩ := hq
      refine ⟨_, hs, ?_⟩
      refine j7 (b6 ?_)
      obtain ⟨t18, hx19, h⟩ := bind_some h
      refine AWP.seqJ (⟨[(2, .c (bool t18))], []⟩) ?_ ?_
      ·rcases bft (decide (a12.2.code = 0)) with hb20 | hb20
       ·replace hx19 := L8 hb20 hx19
        obtain ⟨a80, ha80, hx19⟩ := bind_some hx19
        rcases bft (a80) with hb21 | hb21
        ·replace hx19 := K9 hb21 hx19
         obtain ⟨a83, ha83, hx19⟩ := bind_some hx19
         refine AWP.u (W.fieldAddr Z Z Z Z (.E Z Z Z Z Z Z (.ab Z Z Z (.j Z Z (.z Z Z Z hb20 (.j Z Z (.z Z Z Z hb20 (.j Z Z (.z Z Z Z hb20 (.callL Z Z (.cons (.c .imm) (.cons (.c (.own Z Z)) .nil)) Z (ad0 ha80) Z (.U Z hb20 Z Z (.j Z Z (.z Z Z Z hb21 (.F Z Z Z Z (R1 ha83) Z (.U Z hb21 Z Z (.v Z Z (.nil ?_)))))))))))))))))
         obtain rfl := oi hx19
         refine b6 (Sub.cut ⟨Z, Y⟩ Z trivial Z)
        ·replace hx19 := L3 hb21 hx19
         refine AWP.u (W.fieldAddr Z Z Z Z (.E Z Z Z Z Z Z (.ab Z Z Z (.j Z Z (.z Z Z Z hb20 (.j Z Z (.z Z Z Z hb20 (.j Z Z (.z Z Z Z hb20 (.callL Z Z (.cons (.c .imm) (.cons (.c (.own Z Z)) .nil)) Z (ad0 ha80) Z (.U Z hb20 Z Z (.j Z Z (.B Z Z Z hb21 (.O Z hb21 Z Z (.v Z Z (.nil ?_))))))))))))))))
         obtain rfl := oi hx19
         refine b6 (Sub.cut ⟨Z, Y⟩ Z trivial Z)
       ·replace hx19 := L5 hb20 hx19
        refine AWP.u (W.fieldAddr Z Z Z Z (.E Z Z Z Z Z Z (.ab Z Z Z (.j Z Z (.B Z Z Z hb20 (.B Z Z Z hb20 (.B Z Z Z hb20 (.O Z hb20 Z Z (.j Z Z (.B Z Z Z Z (.O Z Z Z Z (.v Z Z (.nil ?_)))))))))))))
        obtain rfl := oi hx19
        refine b6 (Sub.cut ⟨Z, Y⟩ Z trivial Z)
      ·refine AWP.ret ?_
       obtain rfl := oi h
       exact Done.ret Z Z
end Ab
end
section
namespace Ab
open Go
theorem W3 {α : Type} {l : List α} {k : Nat} : ix l (k : Int) = l[k]? := by simp [ix]
theorem n8 {α : Type} {l : List α} {i : Int} (h0 : 0 ≤ i) (h1 : i < l.length) : ∃ a, ix l i = some a ∧ l[i.toNat]? = some a := by
 have h : i.toNat < l.length := by omega
 exact ⟨l[i.toNat], by simp [ix, h0, h], by simp [h]⟩
theorem o6 {α : Type} {l : List α} {i : Int} {a : α} (h : ix l i = some a) : 0 ≤ i ∧ i < l.length ∧ l[i.toNat]? = some a := by
 unfold ix at h
 split at h
 ·have := (List.getElem?_eq_some_iff.1 h).1
  exact ⟨by assumption, by omega, h⟩
 ·cases h
theorem A6 {n : Int} (h1 : -9223372036854775808 ≤ n) (h2 : n ≤ 9223372036854775807) : w64 n = n := w64_eq ⟨h1, h2⟩
theorem forN_inv {S : Type} {body : Int → S → Option S} (P : Int → S → Prop) : ∀ (k : Nat) (i : Int) (s : S), P i s →
  (∀ j s, i ≤ j → j < i + k → P j s → ∃ s', body j s = some s' ∧ P (j + 1) s') → ∃ s', forN body k i s = some s' ∧ P (i + k) s'
 | 0, i, s, h, _ => ⟨s, rfl, by simpa using h⟩
 | k + 1, i, s, h, hb => by
  obtain ⟨s1, h1, h2⟩ := hb i s (Int.le_refl _) (by omega) h
  obtain ⟨s2, h3, h4⟩ := forN_inv P k (i + 1) s1 h2 (fun j s g1 g2 => hb j s (by omega) (by omega))
  exact ⟨s2, by simp only [forN, h1]; exact h3, by rw [show i + ((k + 1 : Nat) : Int) = i + 1 + k by omega]; exact h4⟩
theorem y5 {S : Type} {body : Int → S → Option S} {n : Int} (P : Int → S → Prop) {s : S} (hn : 0 ≤ n) (h0 : P 0 s)
  (hb : ∀ j s, 0 ≤ j → j < n → P j s → ∃ s', body j s = some s' ∧ P (j + 1) s') : ∃ s', forR 0 n body s = some s' ∧ P n s' := by
 obtain ⟨s', h1, h2⟩ := forN_inv P (n - 0).toNat 0 s h0 (fun j s g1 g2 => hb j s g1 (by omega))
 exact ⟨s', h1, by rwa [show (0 : Int) + ((n - 0).toNat : Int) = n by omega] at h2⟩
theorem rngN_inv {S O : Type} {body : Int → S → Option (S ⊕ O)} (P : Int → S → Prop) (Q : O → Prop) : ∀ (k : Nat) (i : Int) (s : S), P i s →
  (∀ j s, i ≤ j → j < i + k → P j s → (∃ s', body j s = some (.inl s') ∧ P (j + 1) s') ∨ ∃ o, body j s = some (.inr o) ∧ Q o) →
  (∃ s', rngN body k i s = some (.inl s') ∧ P (i + k) s') ∨ ∃ o, rngN body k i s = some (.inr o) ∧ Q o
 | 0, i, s, h, _ => .inl ⟨s, rfl, by simpa using h⟩
 | k + 1, i, s, h, hb => by
  rcases hb i s (Int.le_refl _) (by omega) h with ⟨s1, h1, h2⟩ | ⟨o, h1, h2⟩
  ·rcases rngN_inv P Q k (i + 1) s1 h2 (fun j s g1 g2 => hb j s (by omega) (by omega)) with ⟨s2, h3, h4⟩ | ⟨o, h3, h4⟩
   ·exact .inl ⟨s2, by simp only [rngN, h1]; exact h3, by rw [show i + ((k + 1 : Nat) : Int) = i + 1 + k by omega]; exact h4⟩
   ·exact .inr ⟨o, by simp only [rngN, h1]; exact h3, h4⟩
  ·exact .inr ⟨o, by simp only [rngN, h1], h2⟩
theorem ah7 {S O : Type} {body : Int → S → Option (S ⊕ O)} {n : Int} (P : Int → S → Prop) (Q : O → Prop) {s : S} (hn : 0 ≤ n) (h0 : P 0 s)
  (hb : ∀ j s, 0 ≤ j → j < n → P j s → (∃ s', body j s = some (.inl s') ∧ P (j + 1) s') ∨ ∃ o, body j s = some (.inr o) ∧ Q o) :
  (∃ s', rngX 0 n body s = some (.inl s') ∧ P n s') ∨ ∃ o, rngX 0 n body s = some (.inr o) ∧ Q o := by
 rcases rngN_inv P Q (n - 0).toNat 0 s h0 (fun j s g1 g2 => hb j s g1 (by omega)) with ⟨s', h1, h2⟩ | h
 ·exact .inl ⟨s', h1, by rwa [show (0 : Int) + ((n - 0).toNat : Int) = n by omega] at h2⟩
 ·exact .inr h
theorem LoopN_inv {S O : Type} {body : S → Option (S ⊕ O)} (P : S → Prop) (Q : O → Prop) (μ : S → Nat) (hb : ∀ s, P s → (∃ s', body s = some (.inl s') ∧ P s' ∧ μ s' < μ s) ∨ ∃ o, body s = some (.inr o) ∧ Q o) :
  ∀ (k : Nat) (s : S), μ s < k → P s → ∃ o, O4 body k s = some o ∧ Q o
 | 0, s, h, _ => by omega
 | k + 1, s, h, hs => by
  rcases hb s hs with ⟨s', h1, h2, h3⟩ | ⟨o, h1, h2⟩
  ·obtain ⟨o, g1, g2⟩ := LoopN_inv P Q μ hb k s' (by omega) h2
   exact ⟨o, by simp only [O4, h1]; exact g1, g2⟩
  ·exact ⟨o, by simp only [O4, h1], h2⟩
theorem T3 {S O : Type} {body : S → Option (S ⊕ O)} (P : S → Prop) (Q : O → Prop) (μ : S → Nat) {s : S} (hs : P s)
  (hb : ∀ s, P s → (∃ s', body s = some (.inl s') ∧ P s' ∧ μ s' < μ s) ∨ ∃ o, body s = some (.inr o) ∧ Q o) : ∃ o, Loop body s = some o ∧ Q o := by
 obtain ⟨o, h1, h2⟩ := LoopN_inv P Q μ hb (μ s + 1) s (by omega) hs
 exact ⟨o, Loop_iff.2 ⟨_, h1⟩, h2⟩
/-! ### Two loops that do the same -/
theorem rngN_eq {S O : Type} {b1 b2 : Int → S → Option (S ⊕ O)} (P : Int → S → Prop) : ∀ (k : Nat) (i : Int) (s : S), P i s →
  (∀ j s, i ≤ j → j < i + k → P j s → b1 j s = b2 j s ∧ b1 j s ≠ none ∧ ∀ s', b1 j s = some (.inl s') → P (j + 1) s') →
  rngN b1 k i s = rngN b2 k i s ∧ rngN b1 k i s ≠ none ∧ ∀ s', rngN b1 k i s = some (.inl s') → P (i + k) s'
 | 0, i, s, h, _ => ⟨rfl, by simp [rngN], fun s' hs => by simp only [rngN, Option.some.injEq, Sum.inl.injEq] at hs; subst hs; simpa using h⟩
 | k + 1, i, s, h, hb => by
  obtain ⟨h1, h2, h3⟩ := hb i s (Int.le_refl _) (by omega) h
  simp only [rngN]
  rw [← h1]
  cases hc : b1 i s with
  | none => exact absurd hc h2
  | some x =>
   cases x with
   | inr o => exact ⟨rfl, by simp, fun s' hs => by simp at hs⟩
   | inl s1 =>
    dsimp only
    have := rngN_eq (b1 := b1) (b2 := b2) P k (i + 1) s1 (h3 s1 hc) (fun j s g1 g2 => hb j s (by omega) (by omega))
    rwa [show i + 1 + (k : Int) = i + ((k + 1 : Nat) : Int) by omega] at this
theorem rngX_eq {S O : Type} {b1 b2 : Int → S → Option (S ⊕ O)} {n : Int} (P : Int → S → Prop) {s : S} (hn : 0 ≤ n) (h0 : P 0 s)
  (hb : ∀ j s, 0 ≤ j → j < n → P j s → b1 j s = b2 j s ∧ b1 j s ≠ none ∧ ∀ s', b1 j s = some (.inl s') → P (j + 1) s') :
  rngX 0 n b1 s = rngX 0 n b2 s ∧ rngX 0 n b1 s ≠ none ∧ ∀ s', rngX 0 n b1 s = some (.inl s') → P n s' := by
 have := rngN_eq P (n - 0).toNat 0 s h0 (fun j s g1 g2 => hb j s g1 (by omega))
 rwa [show (0 : Int) + ((n - 0).toNat : Int) = n by omega] at this
end Ab
end
section
namespace Ab
open Go
noncomputable def dec (p : Prop) : Bool := @decide p (Classical.propDecidable p)
@[simp] theorem k8 {p : Prop} : dec p = true ↔ p := by simp [dec]
@[simp] theorem dec_false {p : Prop} : dec p = false ↔ ¬ p := by simp [dec]
@[simp] theorem Y6 {p : Prop} : (!dec p) = dec (¬ p) := by by_cases h : p <;> simp [dec, h]
theorem decide_dec {p : Prop} [Decidable p] : decide p = dec p := by by_cases h : p <;> simp [dec, h]
theorem j6 {p : Prop} (h : p) : dec p = true := k8.2 h
theorem p8 {p : Prop} (h : ¬ p) : dec p = false := dec_false.2 h
theorem I9 {p q : Prop} (h : p ↔ q) : dec p = dec q := by rw [propext h]
theorem dec_and {p q : Prop} : (dec p && dec q) = dec (p ∧ q) := by by_cases h : p <;> by_cases g : q <;> simp [dec, h, g]
theorem dec_or {p q : Prop} : (dec p || dec q) = dec (p ∨ q) := by by_cases h : p <;> by_cases g : q <;> simp [dec, h, g]
theorem ifP {α : Type} {p : Prop} {a b : α} (h : p) : (if dec p = true then a else b) = a := if_pos (j6 h)
theorem ifN {α : Type} {p : Prop} {a b : α} (h : ¬ p) : (if dec p = true then a else b) = b := if_neg fun g => h (k8.1 g)
theorem ifNN {α : Type} {p : Prop} {a b : α} (h : p) : (if dec (¬ p) = true then a else b) = b := ifN (not_not_intro h)
theorem ix_ltN {α : Type} {l : List α} {k : Nat} (h : k < l.length) : ix l (k : Int) = some l[k] := by rw [W3]; simp [h]
theorem z8 {α : Type} {l : List α} {i : Int} {a : α} (h : ix l i = some a) : a ∈ l := List.mem_of_getElem? (o6 h).2.2
theorem A7 {α : Type} {l : List α} {a : α} (h : a ∈ l) : ∃ i : Int, 0 ≤ i ∧ i < l.length ∧ ix l i = some a := by
 obtain ⟨k, hk⟩ := List.getElem?_of_mem h
 exact ⟨k, by omega, by have := (List.getElem?_eq_some_iff.1 hk).1; omega, by rw [W3, hk]⟩
theorem Y0 {α : Type} {l : List α} {i j : Int} {x : α} (h0 : 0 ≤ i) (h1 : i < l.length) (hj : 0 ≤ j) : ix (l.set i.toNat x) j = if j = i then some x else ix l j := by
 simp only [ix, hj, if_true, List.getElem?_set]
 by_cases h : j = i
 ·subst h; rw [if_pos rfl, if_pos rfl, if_pos (by omega)]
 ·rw [if_neg h, if_neg (by omega)]
theorem V3 {O : Type} {body : Int → Unit → Option (Unit ⊕ O)} {n : Int} (g : Int → Option O) (hn : 0 ≤ n)
  (hb : ∀ j, 0 ≤ j → j < n → (∀ i, 0 ≤ i → i < j → g i = none) → body j () = some (match g j with | none => .inl () | some o => .inr o)) :
  (rngX 0 n body () = some (.inl ()) ∧ ∀ j, 0 ≤ j → j < n → g j = none) ∨ ∃ j o, 0 ≤ j ∧ j < n ∧ g j = some o ∧ (∀ i, 0 ≤ i → i < j → g i = none) ∧ rngX 0 n body () = some (.inr o) := by
 rcases ah7 (body := body) (n := n) (fun j _ => ∀ i, 0 ≤ i → i < j → g i = none) (fun o => ∃ j, 0 ≤ j ∧ j < n ∧ g j = some o ∧ ∀ i, 0 ≤ i → i < j → g i = none) (s := ()) hn (fun i h1 h2 => by omega) (fun j s h0 h1 hP => by
  have := hb j h0 h1 hP
  cases hg : g j with
  | none => rw [hg] at this; exact .inl ⟨(), this, fun i h2 h3 => by
    rcases Int.lt_or_eq_of_le (Int.le_of_lt_add_one h3) with h | h
    ·exact hP i h2 h
    ·rw [h, hg]⟩
  | some o => rw [hg] at this; exact .inr ⟨o, this, j, h0, h1, hg, hP⟩) with ⟨s', h1, h2⟩ | ⟨o, h1, j, h2, h3, h4, h5⟩
 ·exact .inl ⟨h1, h2⟩
 ·exact .inr ⟨j, o, h2, h3, h4, h5, h1⟩
theorem rng_list {α O : Type} {l : List α} {body : Int → Unit → Option (Unit ⊕ O)} (q : α → Prop) (b : O)
  (hb : ∀ j a, ix l j = some a → (q a ∧ body j () = some (.inl ())) ∨ (¬ q a ∧ body j () = some (.inr b))) :
  rngX 0 (l.length : Int) body () = some (if dec (∀ a ∈ l, q a) = true then .inl () else .inr b) := by
 rcases V3 (body := body) (n := (l.length : Int)) (fun j => match ix l j with | some a => if dec (q a) = true then none else some b | none => none) (by omega) (fun j h0 h1 _ => by
  obtain ⟨a, h2, _⟩ := n8 h0 h1
  rw [h2]
  rcases hb j a h2 with ⟨h3, h4⟩ | ⟨h3, h4⟩
  ·rw [h4]; simp [h3]
  ·rw [h4]; simp [h3]) with ⟨h1, h2⟩ | ⟨j, o, h0, h1, h2, _, h4⟩
 ·rw [h1, if_pos]
  rw [k8]
  intro a ha
  obtain ⟨i, g1, g2, g3⟩ := A7 ha
  have := h2 i g1 g2
  rw [g3] at this
  simpa using this
 ·rw [h4]
  obtain ⟨a, g1, _⟩ := n8 h0 h1
  rw [g1] at h2
  simp only [k8] at h2
  split at h2
  ·cases h2
  ·rename_i hq
   cases h2
   rw [if_neg]
   rw [k8]
   exact fun h => hq (j6 (h a (z8 g1)))
abbrev Inc (l : List Int) : Prop := l.Pairwise (· < ·)
theorem inc_of_adj : ∀ {l : List Int}, (∀ (k : Nat) a b, l[k]? = some a → l[k + 1]? = some b → a < b) → Inc l
 | [], _ => .nil
 | [_], _ => by simp
 | a :: b :: l, h => by
  have ih : Inc (b :: l) := inc_of_adj fun k x y h1 h2 => h (k + 1) x y (by simpa using h1) (by simpa using h2)
  have hab : a < b := h 0 a b rfl rfl
  refine List.pairwise_cons.2 ⟨fun c hc => ?_, ih⟩
  rcases List.mem_cons.1 hc with rfl | hc
  ·exact hab
  ·exact Int.lt_trans hab ((List.pairwise_cons.1 ih).1 c hc)
theorem Inc.get {l : List Int} (h : Inc l) {i j : Nat} {a b : Int} (hi : l[i]? = some a) (hj : l[j]? = some b) (hij : i < j) : a < b := by
 obtain ⟨h1, rfl⟩ := List.getElem?_eq_some_iff.1 hi
 obtain ⟨h2, rfl⟩ := List.getElem?_eq_some_iff.1 hj
 exact List.pairwise_iff_getElem.1 h i j h1 h2 hij
theorem Inc.ext : ∀ {l m : List Int}, Inc l → Inc m → (∀ x, x ∈ l ↔ x ∈ m) → l = m
 | [], [], _, _, _ => rfl
 | [], b :: m, _, _, h => absurd ((h b).2 (by simp)) (by simp)
 | a :: l, [], _, _, h => absurd ((h a).1 (by simp)) (by simp)
 | a :: l, b :: m, hl, hm, h => by
  obtain ⟨l1, l2⟩ := List.pairwise_cons.1 hl
  obtain ⟨m1, m2⟩ := List.pairwise_cons.1 hm
  have hab : a = b := by
   rcases List.mem_cons.1 ((h a).1 (by simp)) with e | e
   ·exact e
   ·rcases List.mem_cons.1 ((h b).2 (by simp)) with e' | e'
    ·exact e'.symm
    ·have := l1 b e'; have := m1 a e; omega
  subst hab
  rw [Inc.ext l2 m2 fun x => ⟨fun hx => ?_, fun hx => ?_⟩]
  ·rcases List.mem_cons.1 ((h x).1 (by simp [hx])) with e | e
   ·have := l1 x hx; omega
   ·exact e
  ·rcases List.mem_cons.1 ((h x).2 (by simp [hx])) with e | e
   ·have := m1 x hx; omega
   ·exact e
theorem Inc.filter {l : List Int} (h : Inc l) (p : Int → Bool) : Inc (l.filter p) := List.Pairwise.filter p h
def nums (lo : Int) : Nat → List Int
 | 0 => []
 | k + 1 => lo :: nums (lo + 1) k
theorem P6 {x : Int} : ∀ {k : Nat} {lo : Int}, x ∈ nums lo k ↔ lo ≤ x ∧ x < lo + k
 | 0, lo => by simp [nums]
 | k + 1, lo => by
  rw [nums, List.mem_cons, P6 (k := k)]
  omega
theorem ai3 : ∀ (k : Nat) (lo : Int), Inc (nums lo k)
 | 0, _ => .nil
 | k + 1, lo => List.pairwise_cons.2 ⟨fun x hx => by have := P6.1 hx; omega, ai3 k (lo + 1)⟩
theorem len_nums : ∀ (k : Nat) (lo : Int), (nums lo k).length = k
 | 0, _ => rfl
 | k + 1, lo => by simp [nums, len_nums k]
noncomputable def y7 (p : Int → Prop) (n : Int) : List Int := (nums 0 n.toNat).filter fun x => dec (p x)
theorem B8 {p : Int → Prop} {n x : Int} : x ∈ y7 p n ↔ 0 ≤ x ∧ x < n ∧ p x := by
 rw [y7, List.mem_filter, P6, k8]
 constructor
 ·rintro ⟨⟨h1, h2⟩, h3⟩; exact ⟨h1, by omega, h3⟩
 ·rintro ⟨h1, h2, h3⟩; exact ⟨⟨h1, by omega⟩, h3⟩
theorem U7 (p : Int → Prop) (n : Int) : Inc (y7 p n) := (ai3 _ _).filter _
theorem setOf_congr {p q : Int → Prop} {n : Int} (h : ∀ x, 0 ≤ x → x < n → (p x ↔ q x)) : y7 p n = y7 q n := by
 refine List.filter_congr fun x hx => I9 ?_
 have := P6.1 hx
 exact h x (by omega) (by omega)
def SetN (l : List Int) (n : Int) : Prop := Inc l ∧ ∀ x ∈ l, 0 ≤ x ∧ x < n
theorem X1 (p : Int → Prop) (n : Int) : SetN (y7 p n) n := ⟨U7 p n, fun x hx => by have := B8.1 hx; exact ⟨this.1, this.2.1⟩⟩
theorem SetN.eq {l : List Int} {n : Int} (h : SetN l n) : l = y7 (· ∈ l) n :=
 h.1.ext (U7 _ _) fun x => ⟨fun hx => B8.2 ⟨(h.2 x hx).1, (h.2 x hx).2, hx⟩, fun hx => (B8.1 hx).2.2⟩
theorem SetN.eq_of {l : List Int} {n : Int} (h : SetN l n) {p : Int → Prop} (hp : ∀ x, 0 ≤ x → x < n → (x ∈ l ↔ p x)) : l = y7 p n :=
 h.eq.trans (setOf_congr hp)
theorem SetN.len {l : List Int} {n : Int} (h : SetN l n) : l.length ≤ n.toNat := by
 rw [h.eq, y7]
 exact Nat.le_trans (List.length_filter_le _ _) (Nat.le_of_eq (len_nums _ _))
theorem setN_nil (n : Int) : SetN [] n := ⟨.nil, by simp⟩
theorem forR_setOf {b : Nat} {n : Int} {body : Int → List Int → Option (List Int)} (q : Int → Prop) (hn : 0 ≤ n) (hl : n.toNat * b ≤ 140737488355328)
  (hb : ∀ j c, 0 ≤ j → j < n → (q j → body j c = app b c [j]) ∧ (¬ q j → body j c = some c)) : forR 0 n body [] = some (y7 q n) := by
 obtain ⟨s', h1, h2⟩ := y5 (body := body) (n := n) (s := []) (fun j c => c = y7 q j) hn (by simp [y7, nums]) (fun j c h0 h1 hP => by
  have hs : y7 q (j + 1) = y7 q j ++ if dec (q j) = true then [j] else [] := by
   refine (U7 q (j + 1)).ext ?_ fun x => ?_
   ·refine List.pairwise_append.2 ⟨U7 _ _, by split <;> simp, fun a ha b hb => ?_⟩
    have := B8.1 ha
    split at hb
    ·simp at hb; omega
    ·cases hb
   ·rw [List.mem_append, B8, B8]
    by_cases hq : q j
    ·rw [if_pos (j6 hq)]
     simp only [List.mem_singleton]
     refine ⟨fun h => ?_, fun h => ?_⟩
     ·by_cases e : x = j
      ·exact .inr e
      ·exact .inl ⟨h.1, by omega, h.2.2⟩
     ·rcases h with h | rfl
      ·exact ⟨h.1, by omega, h.2.2⟩
      ·exact ⟨h0, by omega, hq⟩
    ·rw [if_neg (by simpa using hq)]
     simp only [List.not_mem_nil, or_false]
     refine ⟨fun h => ⟨h.1, ?_, h.2.2⟩, fun h => ⟨h.1, by omega, h.2.2⟩⟩
     rcases Int.lt_or_eq_of_le (Int.le_of_lt_add_one h.2.1) with e | e
     ·exact e
     ·rw [e] at h; exact absurd h.2.2 hq
  by_cases hq : q j
  ·refine ⟨c ++ [j], ?_, by rw [hs, hP, if_pos (j6 hq)]⟩
   rw [(hb j c h0 h1).1 hq, app, if_pos]
   have h3 : c.length ≤ j.toNat := by rw [hP]; exact (X1 q j).len
   refine Nat.le_trans (Nat.mul_le_mul_right b ?_) hl
   simp; omega
  ·refine ⟨c, (hb j c h0 h1).2 hq, ?_⟩
   rw [hs, hP, if_neg (by simpa using hq), List.append_nil])
 rw [h1, h2]
end Ab
end
section
namespace Ab
open Go
theorem has_eq (l : List Int) (n : Int) : J3 l n = some (dec (n ∈ l)) := by
 unfold J3
 rw [rng_list (l := l) (fun a => a ≠ n) true (fun j a h => by
  unfold af7
  rw [h]
  by_cases e : a = n <;> simp [e])]
 by_cases h : n ∈ l
 ·rw [if_neg (by simp only [k8]; exact fun g => g n h rfl)]
  simp [h]
 ·rw [if_pos (by simp only [k8]; exact fun a ha e => h (e ▸ ha))]
  simp [h]
theorem subset_eq (part l : List Int) : N6 part l = some (dec (∀ x ∈ part, x ∈ l)) := by
 unfold N6
 rw [rng_list (l := part) (fun a => a ∈ l) false (fun j a h => by
  unfold Y4
  rw [h]
  by_cases e : a ∈ l <;> simp [e, has_eq])]
 by_cases h : ∀ x ∈ part, x ∈ l
 ·rw [if_pos (j6 h), j6 h]; rfl
 ·rw [if_neg (by rw [p8 h]; simp), p8 h]; rfl
theorem disjoint_eq (a b : List Int) : N1 a b = some (dec (∀ x ∈ a, x ∉ b)) := by
 unfold N1
 rw [rng_list (l := a) (fun x => x ∉ b) false (fun j x h => by
  unfold U2
  rw [h]
  by_cases e : x ∈ b <;> simp [e, has_eq])]
 by_cases h : ∀ x ∈ a, x ∉ b
 ·rw [if_pos (j6 h), j6 h]; rfl
 ·rw [if_neg (by rw [p8 h]; simp), p8 h]; rfl
theorem in_eq (n lo hi : Int) : U8 n lo hi = some (dec (lo ≤ n ∧ n ≤ hi)) := by
 unfold U8; rw [decide_dec, decide_dec, dec_and]
theorem at_eq (c i : Int) : K2 c i = some ⟨c, i⟩ := rfl
def stepOk (l : List Int) (n j : Int) : Prop := ∀ a, ix l j = some a → (0 ≤ a ∧ a < n) ∧ ∀ b, 0 < j → ix l (j - 1) = some b → b < a
theorem ab6 {l : List Int} {n : Int} : (∀ j : Int, 0 ≤ j → j < l.length → stepOk l n j) ↔ SetN l n := by
 constructor
 ·intro h
  refine ⟨inc_of_adj fun k a b h1 h2 => ?_, fun x hx => ?_⟩
  ·have hk := (List.getElem?_eq_some_iff.1 h2).1
   have := (h ((k + 1 : Nat) : Int) (by omega) (by omega) b (by rw [W3]; exact h2)).2 a (by omega)
   rw [show ((k + 1 : Nat) : Int) - 1 = (k : Nat) by omega] at this
   exact this (by rw [W3]; exact h1)
  ·obtain ⟨i, h1, h2, h3⟩ := A7 hx
   exact (h i h1 h2 x h3).1
 ·intro h j h0 h1 a ha
  refine ⟨h.2 a (z8 ha), fun b hj hb => ?_⟩
  obtain ⟨_, _, ga⟩ := o6 ha
  obtain ⟨_, _, gb⟩ := o6 hb
  exact h.1.get gb ga (by omega)
theorem isSet_eq (l : List Int) (n : Int) : B4 l n = some (dec (SetN l n)) := by
 unfold B4
 rcases V3 (body := O5 l n) (n := (l.length : Int)) (fun j => if dec (stepOk l n j) = true then none else some false) (by omega) (fun j h0 h1 _ => by
  obtain ⟨a, ha, _⟩ := n8 (l := l) h0 h1
  unfold O5
  rw [ha]
  simp only [oB]
  by_cases c1 : a < 0
  ·rw [if_pos c1, if_neg]
   ·rfl
   ·rw [k8]; intro h; have := (h a ha).1; omega
  ·rw [if_neg c1]
   by_cases c2 : n ≤ a
   ·rw [if_pos c2, if_neg]
    ·rfl
    ·rw [k8]; intro h; have := (h a ha).1; omega
   ·rw [if_neg c2]
    by_cases c3 : 0 < j
    ·obtain ⟨b, hb, _⟩ := n8 (l := l) (i := j - 1) (by omega) (by omega)
     rw [if_pos c3, hb]
     simp only [oB]
     by_cases c4 : a ≤ b
     ·rw [if_pos (by simpa using c4), if_neg]
      rw [k8]; intro h; have := (h a ha).2 b c3 hb; omega
     ·rw [if_neg (by simpa using c4), if_pos]
      rw [k8]; intro x hx
      rw [ha] at hx; cases hx
      exact ⟨by omega, fun y _ hy => by rw [hb] at hy; cases hy; omega⟩
    ·rw [if_neg c3]
     simp only [oB]
     rw [if_neg (by simp), if_pos]
     rw [k8]; intro x hx
     rw [ha] at hx; cases hx
     exact ⟨by omega, fun y hy => absurd hy c3⟩) with ⟨h1, h2⟩ | ⟨j, o, h0, h1, h2, _, h4⟩
 ·rw [h1, j6]
  ·rfl
  ·exact ab6.1 fun j g1 g2 => by have := h2 j g1 g2; simpa using this
 ·rw [h4]
  split at h2
  ·cases h2
  ·rename_i hs
   cases h2
   rw [p8]
   ·rfl
   ·exact fun h => hs (j6 (ab6.2 h j h0 h1))
theorem rIsSet_eq (l : List Int) {n : Int} (hn : -9223372036854775808 < n) (hn' : n ≤ 9223372036854775807) : F6 l n = some (dec (SetN l n)) := by
 unfold F6
 rcases V3 (body := S9 l n) (n := (l.length : Int)) (fun j => if dec (stepOk l n j) = true then none else some false) (by omega) (fun j h0 h1 _ => by
  obtain ⟨a, ha, _⟩ := n8 (l := l) h0 h1
  unfold S9
  rw [ha]
  simp only [oB, in_eq, A6 (n := n - 1) (by omega) (by omega), Y6]
  by_cases c1 : 0 ≤ a ∧ a ≤ n - 1
  ·rw [if_neg (by simpa using c1)]
   by_cases c3 : 0 < j
   ·obtain ⟨b, hb, _⟩ := n8 (l := l) (i := j - 1) (by omega) (by omega)
    rw [if_pos c3, hb]
    simp only [oB]
    by_cases c4 : a ≤ b
    ·rw [if_pos (by simpa using c4), if_neg]
     rw [k8]; intro h; have := (h a ha).2 b c3 hb; omega
    ·rw [if_neg (by simpa using c4), if_pos]
     rw [k8]; intro x hx
     rw [ha] at hx; cases hx
     exact ⟨by omega, fun y _ hy => by rw [hb] at hy; cases hy; omega⟩
   ·rw [if_neg c3]
    simp only [oB]
    rw [if_neg (by simp), if_pos]
    rw [k8]; intro x hx
    rw [ha] at hx; cases hx
    exact ⟨by omega, fun y hy => absurd hy c3⟩
  ·rw [if_pos (by simpa using c1), if_neg]
   ·rfl
   ·rw [k8]; intro h; have := (h a ha).1; omega) with ⟨h1, h2⟩ | ⟨j, o, h0, h1, h2, _, h4⟩
 ·rw [h1, j6]
  ·rfl
  ·exact ab6.1 fun j g1 g2 => by have := h2 j g1 g2; simpa using this
 ·rw [h4]
  split at h2
  ·cases h2
  ·rename_i hs
   cases h2
   rw [p8]
   ·rfl
   ·exact fun h => hs (j6 (ab6.2 h j h0 h1))
end Ab
end
section
namespace Ab
open Go
theorem half_eq {i j : Int} (h0 : 0 ≤ i) (h1 : i ≤ j) (h2 : j ≤ 1000000) : w64 (shrW .u64 ((IntKind.u64).wrap (w64 (i + j))) 1) = (i + j) / 2 := by
 rw [A6 (n := i + j) (by omega) (by omega), IntKind.wrap_u64, Int.emod_eq_of_lt (by omega) (by omega)]
 have : shrW .u64 (i + j) 1 = (i + j) / 2 := by
  simp only [shrW, IntKind.bits]
  rw [show min (1 : Int).toNat 64 = 1 by rfl, Int.fdiv_eq_ediv_of_nonneg _ (by decide)]
  rfl
 rw [this]
 exact A6 (by omega) (by omega)
theorem less_eq (a b : Int) : Q0 a b = some (decide (a < b)) := by simp [Q0, B9]
theorem bsearch_eq {xs : List Int} (hs : Inc xs) (hl : xs.length ≤ 500000) (t : Int) : ∃ i, o8 xs t = some (i, dec (t ∈ xs)) ∧ 0 ≤ i ∧ i ≤ xs.length ∧ (∀ k a, 0 ≤ k → k < i → ix xs k = some a → a < t) ∧ (∀ k a, i ≤ k → ix xs k = some a → t ≤ a) := by
 unfold o8
 obtain ⟨i, h1, h2, h3, h4, h5⟩ := T3 (body := v6 xs t) (fun p => (0 ≤ p.1 ∧ p.1 ≤ p.2 ∧ p.2 ≤ xs.length) ∧ (∀ k a, 0 ≤ k → k < p.1 → ix xs k = some a → a < t) ∧ (∀ k a, p.2 ≤ k → ix xs k = some a → t ≤ a))
  (fun i => 0 ≤ i ∧ i ≤ xs.length ∧ (∀ k a, 0 ≤ k → k < i → ix xs k = some a → a < t) ∧ (∀ k a, i ≤ k → ix xs k = some a → t ≤ a)) (fun p => (p.2 - p.1).toNat) (s := (0, (xs.length : Int)))
  ⟨⟨by simp, by simp, by simp⟩, fun k a h1 h2 => by simp at h2; omega, fun k a h1 h2 => by have := (o6 h2).2.1; simp at h1; omega⟩ (fun ⟨i, j⟩ ⟨⟨g1, g2, g3⟩, g4, g5⟩ => by
  dsimp only at g1 g2 g3 g4 g5 ⊢
  unfold v6
  dsimp only
  by_cases c : i < j
  ·rw [if_pos c, half_eq g1 g2 (by omega)]
   obtain ⟨a, ha, ga⟩ := n8 (l := xs) (i := (i + j) / 2) (by omega) (by omega)
   rw [ha]
   simp only [oB, less_eq, decide_eq_true_eq]
   by_cases c2 : a < t
   ·rw [if_pos c2, A6 (by omega) (by omega)]
    refine .inl ⟨_, rfl, ⟨⟨by dsimp only; omega, by dsimp only; omega, g3⟩, fun k b k0 k1 hb => ?_, g5⟩, by dsimp only; omega⟩
    dsimp only at k1
    obtain ⟨_, _, gb⟩ := o6 hb
    by_cases e : k = (i + j) / 2
    ·subst e; rw [ha] at hb; cases hb; exact c2
    ·have := hs.get gb ga (by omega); omega
   ·rw [if_neg c2]
    refine .inl ⟨_, rfl, ⟨⟨g1, by dsimp only; omega, by dsimp only; omega⟩, g4, fun k b k0 hb => ?_⟩, by dsimp only; omega⟩
    dsimp only at k0
    obtain ⟨_, _, gb⟩ := o6 hb
    by_cases e : k = (i + j) / 2
    ·subst e; rw [ha] at hb; cases hb; omega
    ·have := hs.get ga gb (by omega); omega
  ·rw [if_neg c]
   have : i = j := by omega
   subst this
   exact .inr ⟨i, rfl, g1, g3, g4, g5⟩)
 rw [h1]
 simp only [oB]
 refine ⟨i, ?_, h2, h3, h4, h5⟩
 have nin : (∀ a, ix xs i = some a → a ≠ t) → t ∉ xs := fun hne hin => by
  obtain ⟨k, k0, k1, hk⟩ := A7 hin
  rcases Int.lt_trichotomy k i with c | c | c
  ·have := h4 k t k0 c hk; omega
  ·subst c; exact hne t hk rfl
  ·obtain ⟨b, hb, gb⟩ := n8 (l := xs) (i := i) (by omega) (by omega)
   obtain ⟨_, _, gk⟩ := o6 hk
   have := hs.get gb gk (by omega)
   have := h5 i b (Int.le_refl _) hb
   omega
 by_cases c : i < xs.length
 ·obtain ⟨a, ha, ga⟩ := n8 (l := xs) (i := i) (by omega) c
  rw [if_pos c, ha]
  simp only [oB]
  by_cases c2 : a = t
  ·subst c2
   rw [if_pos rfl, j6 (z8 ha)]
   rfl
  ·rw [if_neg c2]
   simp only [G9, decide_true, Bool.not_true, Bool.false_eq_true, if_false, oB]
   rw [p8 (nin fun b hb => by rw [ha] at hb; cases hb; exact c2)]
 ·rw [if_neg c]
  simp only [oB]
  rw [p8 (nin fun b hb => by have := (o6 hb).2.1; omega)]
theorem bsearch2 {xs : List Int} (hs : Inc xs) (hl : xs.length ≤ 500000) (t : Int) : ∃ i, o8 xs t = some (i, dec (t ∈ xs)) :=
 let ⟨i, h, _⟩ := bsearch_eq hs hl t
 ⟨i, h⟩
theorem containsFunc_eq {l : List Int} {f : Int → Option Bool} (p : Int → Prop) (hf : ∀ x ∈ l, f x = some (dec (p x))) : u3 l f = some (dec (∃ x ∈ l, p x)) := by
 unfold u3 B0
 rcases V3 (body := y8 l f) (n := (l.length : Int)) (fun j => if dec (∀ a, ix l j = some a → ¬ p a) = true then none else some j) (by omega) (fun j h0 h1 _ => by
  obtain ⟨a, ha, _⟩ := n8 (l := l) h0 h1
  unfold y8
  rw [ha]
  simp only [oB, hf a (z8 ha)]
  by_cases c : p a
  ·rw [if_pos (j6 c), if_neg (by rw [k8]; exact fun h => h a rfl c)]
  ·rw [if_neg (by rw [p8 c]; simp), if_pos (j6 fun b hb => by cases hb; exact c)]) with ⟨h1, h2⟩ | ⟨j, o, h0, h1, h2, _, h4⟩
 ·rw [h1]
  simp only [oB]
  rw [p8]
  ·rfl
  ·rintro ⟨x, hx, hp⟩
   obtain ⟨i, g1, g2, g3⟩ := A7 hx
   have := h2 i g1 g2
   split at this
   ·rename_i h; exact k8.1 h x g3 hp
   ·cases this
 ·rw [h4]
  split at h2
  ·cases h2
  ·rename_i h
   cases h2
   simp only [oB]
   rw [j6]
   ·simp [h0]
   ·simp only [k8] at h
    obtain ⟨a, g1, _⟩ := n8 (l := l) h0 h1
    refine ⟨a, z8 g1, ?_⟩
    rcases Classical.em (p a) with c | c
    ·exact c
    ·exact absurd (fun b hb => by rw [g1] at hb; cases hb; exact c) h
theorem meets_eq {a b : List Int} (hb : Inc b) (hl : b.length ≤ 500000) : Q4 a b = some (dec (∃ x ∈ a, x ∈ b)) := by
 unfold Q4
 rw [containsFunc_eq (fun x => x ∈ b) (fun x _ => by
  unfold Q7
  obtain ⟨i, h⟩ := bsearch2 hb hl x
  rw [h]; rfl)]
 rfl
/-! ### Sorted, and equal neighbours made one -/
end Ab
end
section
namespace Ab
open Go
def M5 (o : f5) (n : Int) : Prop := SetN o.pre n ∧ SetN o.add n ∧ SetN o.del n ∧ ∀ x ∈ o.add, x ∉ o.del
def R6 (o : f5) : Prop := 0 ≤ o.cost ∧ o.cost ≤ 100
noncomputable def N0 (o : f5) (n : Int) : Int := if dec (M5 o n) = true then if dec (R6 o) = true then 0 else 3 else 5
structure i4 (t : d9) : Prop where
 n0 : 0 ≤ t.facts
 n1 : t.facts ≤ 24
 init : SetN t.init t.facts
 goal : SetN t.goal t.facts
 ops : t.operators.length ≤ 40
 op : ∀ o ∈ t.operators, M5 o t.facts ∧ R6 o
theorem opCode_zero {o : f5} {n : Int} : N0 o n = 0 ↔ M5 o n ∧ R6 o := by
 unfold N0
 by_cases h : M5 o n
 ·rw [if_pos (j6 h)]
  by_cases g : R6 o
  ·rw [if_pos (j6 g)]; simp [h, g]
  ·rw [if_neg (by rw [p8 g]; simp)]; simp [g]
 ·rw [if_neg (by rw [p8 h]; simp)]; simp [h]
theorem operator_eq {o : f5} {n : Int} (h0 : 0 ≤ n) (h1 : n ≤ 24) : I3 o n = some (N0 o n) := by
 unfold I3 N0
 simp only [isSet_eq, oB, Y6]
 have bad : ¬ M5 o n → dec (M5 o n) = true → False := fun h g => h (k8.1 g)
 by_cases c1 : SetN o.pre n
 ·rw [if_neg (by simpa using c1)]
  by_cases c2 : SetN o.add n
  ·rw [if_neg (by simpa using c2)]
   by_cases c3 : SetN o.del n
   ·rw [if_neg (by simpa using c3)]
    have hl := c3.len
    rw [meets_eq c3.1 (by omega)]
    simp only [oB]
    by_cases c4 : ∃ x ∈ o.add, x ∈ o.del
    ·rw [if_pos (j6 c4), if_neg]
     rw [k8]
     obtain ⟨x, g1, g2⟩ := c4
     exact fun h => h.2.2.2 x g1 g2
    ·have hs : M5 o n := ⟨c1, c2, c3, fun x g1 g2 => c4 ⟨x, g1, g2⟩⟩
     rw [if_neg (by rw [p8 c4]; simp), if_pos (j6 hs)]
     by_cases c5 : R6 o
     ·rw [if_pos (j6 c5), if_neg]
      have := c5.1; have := c5.2
      simp; omega
     ·rw [if_neg (fun h => c5 (k8.1 h)), if_pos]
      unfold R6 at c5
      simp; omega
   ·rw [if_pos (by simpa using c3)]
    simp only [oB, if_true]
    rw [if_neg fun h => c3 (k8.1 h).2.2.1]
  ·rw [if_pos (by simpa using c2)]
   simp only [oB, if_true]
   rw [if_neg fun h => c2 (k8.1 h).2.1]
 ·rw [if_pos (by simpa using c1)]
  simp only [oB, if_true]
  rw [if_neg fun h => c1 (k8.1 h).1]
theorem aa1 (t : d9) : ∃ f, p9 t = some f ∧ G7 t = some f ∧ ((f = ⟨0, 0⟩ ∧ i4 t) ∨ (f.code ≠ 0 ∧ ¬ i4 t)) := by
 unfold p9 G7
 simp only [in_eq, at_eq, oB, Y6]
 by_cases c1 : 0 ≤ t.facts ∧ t.facts ≤ 24
 ·rw [if_neg (by simp; omega), ifNN c1]
  simp only [isSet_eq, rIsSet_eq (n := t.facts) _ (by omega) (by omega), oB, Y6]
  by_cases c2 : SetN t.init t.facts
  ·rw [ifNN c2, ifNN c2]
   by_cases c3 : SetN t.goal t.facts
   ·rw [ifNN c3, ifNN c3]
    by_cases c4 : 40 < (t.operators.length : Int)
    ·rw [if_pos c4, if_pos c4]
     exact ⟨_, rfl, rfl, .inr ⟨by simp, fun h => by have := h.ops; omega⟩⟩
    ·rw [if_neg c4, if_neg c4]
     have hb : ∀ j : Int, 0 ≤ j → j < t.operators.length → ∃ o, ix t.operators j = some o ∧ D4 t j () = some (if N0 o t.facts = 0 then .inl () else .inr ⟨N0 o t.facts, j⟩) ∧ B5 t j () = some (if N0 o t.facts = 0 then .inl () else .inr ⟨N0 o t.facts, j⟩) := fun j h0 h1 => by
      obtain ⟨o, ho, _⟩ := n8 (l := t.operators) h0 h1
      refine ⟨o, ho, ?_, ?_⟩
      ·unfold D4
       rw [ho]
       simp only [oB, operator_eq c1.1 c1.2]
       by_cases e : N0 o t.facts = 0
       ·rw [if_pos e, if_pos e]
       ·rw [if_neg e, if_neg e]
      ·unfold B5
       rw [ho]
       simp only [oB, rIsSet_eq (n := t.facts) _ (show -9223372036854775808 < t.facts by omega) (show t.facts ≤ 9223372036854775807 by omega), disjoint_eq, in_eq, at_eq, Y6]
       have hp : (if dec (¬ SetN o.pre t.facts) = true then some true else if dec (¬ SetN o.add t.facts) = true then some true else if dec (¬ SetN o.del t.facts) = true then some true else some (dec (¬ ∀ x ∈ o.add, x ∉ o.del))) = some (dec (¬ M5 o t.facts)) := by
        unfold M5
        by_cases g1 : SetN o.pre t.facts
        ·rw [if_neg (by simpa using g1)]
         by_cases g2 : SetN o.add t.facts
         ·rw [if_neg (by simpa using g2)]
          by_cases g3 : SetN o.del t.facts
          ·rw [if_neg (by simpa using g3)]
           exact congrArg some (I9 ⟨fun h g => h g.2.2.2, fun h g => h ⟨g1, g2, g3, g⟩⟩)
          ·rw [if_pos (by simpa using g3), j6 (fun g => g3 g.2.2.1)]
         ·rw [if_pos (by simpa using g2), j6 (fun g => g2 g.2.1)]
        ·rw [if_pos (by simpa using g1), j6 (fun g => g1 g.1)]
       rw [hp]
       simp only [oB]
       unfold N0
       by_cases g1 : M5 o t.facts
       ·rw [if_neg (by simpa using g1), if_pos (j6 g1)]
        by_cases g2 : R6 o
        ·rw [ifP g2, ifNN (p := 0 ≤ o.cost ∧ o.cost ≤ 100) g2]; rfl
        ·rw [ifN g2, ifP (p := ¬ (0 ≤ o.cost ∧ o.cost ≤ 100)) g2]; rfl
       ·rw [if_pos (j6 g1), if_neg (fun h => g1 (k8.1 h))]; rfl
     have heq : rngX 0 (t.operators.length : Int) (D4 t) () = rngX 0 (t.operators.length : Int) (B5 t) () :=
      (rngX_eq (fun _ _ => True) (by omega) trivial (fun j s h0 h1 _ => by
       obtain ⟨o, _, e1, e2⟩ := hb j h0 h1
       exact ⟨by rw [e1, e2], by rw [e1]; simp, fun _ _ => trivial⟩)).1
     rcases V3 (body := B5 t) (n := (t.operators.length : Int)) (fun j => match ix t.operators j with | some o => if N0 o t.facts = 0 then none else some (⟨N0 o t.facts, j⟩ : i9) | none => none) (by omega) (fun j h0 h1 _ => by
      obtain ⟨o, e0, _, e2⟩ := hb j h0 h1
      rw [e2, e0]
      dsimp only
      split <;> rfl) with ⟨h1, h2⟩ | ⟨j, f, h0, h1, h2, _, h4⟩
     ·rw [heq, h1]
      refine ⟨⟨0, 0⟩, rfl, rfl, .inl ⟨rfl, c1.1, c1.2, c2, c3, by omega, fun o ho => ?_⟩⟩
      obtain ⟨j, g0, g1, g2⟩ := A7 ho
      have := h2 j g0 g1
      rw [g2] at this
      dsimp only at this
      split at this
      ·rename_i e; exact opCode_zero.1 e
      ·cases this
     ·rw [heq, h4]
      obtain ⟨o, e0, _, _⟩ := hb j h0 h1
      rw [e0] at h2
      dsimp only at h2
      split at h2
      ·cases h2
      ·rename_i e
       cases h2
       exact ⟨_, rfl, rfl, .inr ⟨e, fun h => e (opCode_zero.2 (h.op o (z8 e0)))⟩⟩
   ·rw [ifP c3, ifP c3]
    exact ⟨_, rfl, rfl, .inr ⟨by simp, fun h => c3 h.goal⟩⟩
  ·rw [ifP c2, ifP c2]
   exact ⟨_, rfl, rfl, .inr ⟨by simp, fun h => c2 h.init⟩⟩
 ·rw [if_pos (by simp; omega), if_pos (j6 c1)]
  exact ⟨_, rfl, rfl, .inr ⟨by simp, fun h => c1 ⟨h.n0, h.n1⟩⟩⟩
/-! ### What operators and plans do -/
def noOp : f5 := ⟨[], [], [], 0⟩
def opAt (t : d9) (op : Int) : f5 := (t.operators[op.toNat]?).getD noOp
theorem ix_op {t : d9} {op : Int} (h0 : 0 ≤ op) (h1 : op < t.operators.length) : ix t.operators op = some (opAt t op) := by
 obtain ⟨a, h2, h3⟩ := n8 h0 h1
 rw [h2, opAt, h3]; rfl
theorem i4.at {t : d9} (h : i4 t) {op : Int} (h0 : 0 ≤ op) (h1 : op < t.operators.length) : M5 (opAt t op) t.facts ∧ R6 (opAt t op) := h.op _ (z8 (ix_op h0 h1))
def can (t : d9) (s : List Int) (op : Int) : Prop := ∀ x ∈ (opAt t op).pre, x ∈ s
noncomputable def aft (t : d9) (s : List Int) (op : Int) : List Int := y7 (fun x => x ∈ (opAt t op).add ∨ x ∈ s ∧ x ∉ (opAt t op).del) t.facts
theorem T8 (t : d9) (s : List Int) (op : Int) : SetN (aft t s op) t.facts := X1 _ _
theorem applies_eq {t : d9} {op : Int} (h0 : 0 ≤ op) (h1 : op < t.operators.length) (s : List Int) : J8 t s op = some (dec (can t s op)) := by
 unfold J8
 rw [ix_op h0 h1]
 simp only [oB, subset_eq]
 rfl
theorem after_eq {t : d9} (ht : i4 t) {op : Int} (h0 : 0 ≤ op) (h1 : op < t.operators.length) (s : List Int) : R2 t s op = some (aft t s op) := by
 have := ht.n1
 unfold R2
 rw [if_pos (by omega)]
 rw [forR_setOf (b := 8) (fun x => x ∈ (opAt t op).add ∨ x ∈ s ∧ x ∉ (opAt t op).del) ht.n0 (by omega) (fun j c g0 g1 => by
  unfold ab1
  simp only [ix_op h0 h1, oB, has_eq, Y6]
  have e : (if dec (j ∈ (opAt t op).add) = true then some true else if dec (j ∈ s) = true then some (dec (j ∉ (opAt t op).del)) else some false) = some (dec (j ∈ (opAt t op).add ∨ j ∈ s ∧ j ∉ (opAt t op).del)) := by
   by_cases c1 : j ∈ (opAt t op).add
   ·rw [if_pos (j6 c1), j6 (.inl c1)]
   ·rw [if_neg (fun h => c1 (k8.1 h))]
    by_cases c2 : j ∈ s
    ·rw [if_pos (j6 c2)]
     exact congrArg some (I9 ⟨fun h => .inr ⟨c2, h⟩, fun h => (h.resolve_left c1).2⟩)
    ·rw [if_neg (fun h => c2 (k8.1 h)), p8 (fun h => c2 (h.resolve_left c1).1)]
  rw [e]
  simp only [oB]
  refine ⟨fun hq => ?_, fun hq => ?_⟩
  ·rw [if_pos (j6 hq)]
   cases app 8 c [j] <;> rfl
  ·rw [if_neg (fun h => hq (k8.1 h))]; rfl)]
 rfl
noncomputable def ends (t : d9) : List Int → List Int → Option (List Int)
 | s, [] => some s
 | s, op :: r => if dec (can t s op) = true then ends t (aft t s op) r else none
theorem ends_setN {t : d9} : ∀ {plan s e : List Int}, SetN s t.facts → ends t s plan = some e → SetN e t.facts
 | [], s, e, hs, h => by cases h; exact hs
 | op :: r, s, e, hs, h => by
  simp only [ends] at h
  split at h
  ·exact ends_setN (T8 t s op) h
  ·cases h
theorem ends_append {t : d9} : ∀ {p q s : List Int}, ends t s (p ++ q) = (ends t s p).bind fun e => ends t e q
 | [], q, s => rfl
 | op :: r, q, s => by
  simp only [List.cons_append, ends]
  split
  ·exact ends_append
  ·rfl
def F5 (t : d9) (s plan : List Int) : Prop := ∃ e, ends t s plan = some e ∧ ∀ x ∈ t.goal, x ∈ e
end Ab
end
section
namespace Ab
open Go
/-! ### States as' numbers -/
def wsN : List Int → Nat
 | [] => 0
 | a :: l => 2 ^ a.toNat + wsN l
theorem wsN_append : ∀ {l m : List Int}, wsN (l ++ m) = wsN l + wsN m
 | [], m => by simp [wsN]
 | a :: l, m => by simp only [List.cons_append, wsN, wsN_append (l := l)]; omega
theorem wsN_le : ∀ {l : List Int}, (∀ x ∈ l, x < 24) → wsN l ≤ l.length * 16777216
 | [], _ => by simp [wsN]
 | a :: l, h => by
  have h1 := wsN_le (l := l) fun x hx => h x (List.mem_cons_of_mem _ hx)
  have h2 : 2 ^ a.toNat ≤ 2 ^ 24 := Nat.pow_le_pow_right (by decide) (by have := h a (by simp); omega)
  simp only [wsN, List.length_cons]
  omega
theorem wsN_dvd {k : Nat} : ∀ {l : List Int}, (∀ x ∈ l, k ≤ x.toNat) → 2 ^ k ∣ wsN l
 | [], _ => ⟨0, rfl⟩
 | a :: l, h => Nat.dvd_add (Nat.pow_dvd_pow 2 (h a (by simp))) (wsN_dvd fun x hx => h x (List.mem_cons_of_mem _ hx))
theorem two_pow_no {k : Nat} (h : 2 ^ (k + 1) ∣ 2 ^ k) : False := by
 have h1 := Nat.le_of_dvd (Nat.two_pow_pos k) h
 have h2 := Nat.two_pow_pos k
 rw [Nat.pow_succ] at h1
 omega
theorem wsN_ne {a : Int} {l m : List Int} (ha : 0 ≤ a) (hl : ∀ x ∈ l, a < x) (hm : ∀ x ∈ m, a < x) : wsN (a :: l) ≠ wsN m := fun h => by
 have d1 : 2 ^ (a.toNat + 1) ∣ wsN l := wsN_dvd fun x hx => by have := hl x hx; omega
 have d2 : 2 ^ (a.toNat + 1) ∣ wsN m := wsN_dvd fun x hx => by have := hm x hx; omega
 rw [← h, wsN] at d2
 exact two_pow_no ((Nat.dvd_add_left d1).1 d2)
theorem wsN_inj : ∀ {l m : List Int}, Inc l → Inc m → (∀ x ∈ l, 0 ≤ x) → (∀ x ∈ m, 0 ≤ x) → wsN l = wsN m → l = m
 | [], [], _, _, _, _, _ => rfl
 | [], b :: m, _, _, _, _, h => by
  have := Nat.two_pow_pos b.toNat
  simp only [wsN] at h; omega
 | a :: l, [], _, _, _, _, h => by
  have := Nat.two_pow_pos a.toNat
  simp only [wsN] at h; omega
 | a :: l, b :: m, h1, h2, h3, h4, h => by
  obtain ⟨l1, l2⟩ := List.pairwise_cons.1 h1
  obtain ⟨m1, m2⟩ := List.pairwise_cons.1 h2
  rcases Int.lt_trichotomy a b with c | c | c
  ·exact absurd h (wsN_ne (h3 a (by simp)) l1 fun x hx => by
    rcases List.mem_cons.1 hx with rfl | hx
    ·exact c
    ·have := m1 x hx; omega)
  ·subst c
   simp only [wsN] at h
   rw [wsN_inj l2 m2 (fun x hx => h3 x (List.mem_cons_of_mem _ hx)) (fun x hx => h4 x (List.mem_cons_of_mem _ hx)) (by omega)]
  ·exact absurd h.symm (wsN_ne (h4 b (by simp)) m1 fun x hx => by
    rcases List.mem_cons.1 hx with rfl | hx
    ·exact c
    ·have := l1 x hx; omega)
theorem SetN.word_inj {s s' : List Int} {n : Int} (h : SetN s n) (h' : SetN s' n) (e : wsN s = wsN s') : s = s' :=
 wsN_inj h.1 h'.1 (fun x hx => (h.2 x hx).1) (fun x hx => (h'.2 x hx).1) e
theorem word_eq {s : List Int} {n : Int} (hs : SetN s n) (hn : n ≤ 24) : I1 s = some (wsN s : Int) := by
 have hl := hs.len
 unfold I1
 obtain ⟨w, h1, h2⟩ := y5 (body := W9 s) (n := (s.length : Int)) (s := 0) (fun j w => w = (wsN (s.take j.toNat) : Int)) (by omega) (by simp [wsN]) (fun j w j0 j1 hP => by
  obtain ⟨a, ha, ga⟩ := n8 (l := s) j0 j1
  have hb := hs.2 a (z8 ha)
  have ht : s.take (j + 1).toNat = s.take j.toNat ++ [a] := by rw [show (j + 1).toNat = j.toNat + 1 by omega, List.take_add_one, ga]; rfl
  have b1 : wsN (s.take j.toNat) ≤ (s.take j.toNat).length * 16777216 := wsN_le fun x hx => by have := hs.2 x (List.mem_of_mem_take hx); omega
  have b2 : (s.take j.toNat).length ≤ 24 := by rw [List.length_take]; omega
  have b4 : (s.take j.toNat).length * 16777216 ≤ 24 * 16777216 := Nat.mul_le_mul_right _ b2
  obtain ⟨q, hq⟩ : ∃ q : Nat, q = 2 ^ a.toNat := ⟨_, rfl⟩
  have b3 : q ≤ 16777216 := by rw [hq]; exact (Nat.pow_le_pow_right (by decide) (by omega) : 2 ^ a.toNat ≤ 2 ^ 24)
  have ep : (2 : Int) ^ a.toNat = (q : Int) := by rw [hq]; push_cast; rfl
  unfold W9
  rw [ha]
  simp only [oB]
  rw [IntKind.wrap_u64, Int.emod_eq_of_lt (by omega) (by omega), chk0, if_neg (by omega)]
  simp only [oB]
  have es : shlW .i64 1 a = (q : Int) := by
   unfold shlW
   rw [show min a.toNat (IntKind.i64).bits = a.toNat by simp only [IntKind.bits]; omega, Int.one_mul, ep]
   exact A6 (by omega) (by omega)
  rw [es, A6 (by omega) (by omega), ht, wsN_append, hP]
  refine ⟨_, rfl, ?_⟩
  simp only [wsN, ← hq]
  omega)
 rw [h1, h2, Int.toNat_natCast, List.take_length]
 rfl
end Ab
end
section
namespace Ab
open Go
/-! ### Maps -/
theorem C9 {K V : Type} [DecidableEq K] (k k' : K) (v : V) : ∀ m : List (K × V), mget (mset m k v) k' = if k' = k then some v else mget m k'
 | [] => by
  simp only [mset, mget]
 | p :: r => by
  simp only [mset]
  by_cases h : k = p.1
  ·rw [if_pos h]
   simp only [mget]
   by_cases h2 : k' = k
   ·rw [if_pos h2, if_pos h2]
   ·rw [if_neg h2, if_neg h2, if_neg (by rw [← h]; exact h2)]
  ·rw [if_neg h]
   simp only [mget]
   rw [C9 k k' v r]
   by_cases h2 : k' = p.1
   ·rw [if_pos h2, if_pos h2, if_neg (fun e => h (e.symm.trans h2))]
   ·rw [if_neg h2, if_neg h2]
end Ab
end
