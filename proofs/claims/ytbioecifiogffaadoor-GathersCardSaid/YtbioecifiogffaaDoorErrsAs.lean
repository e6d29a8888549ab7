/- errors.As at a *ReadError and a *WriteError of this program's own errors and of ErrSink, and errors.Is of ErrSink: what each answers. Conditions: the variable errors.errorType reads as the text lays it. (After the guide's worked example.) -/
import Derived.Test.YtbioecifiogffaaDoorErrs
import Derived.LaidEql
import Derived.Stop.Asserts
import Derived.RowKitTokens
namespace Go.Proofs.YtbioecifiogffaaDoor
open Go.RowKit Go.Extern.Stop Go.Stop Go.Extern

set_option maxHeartbeats 4000000 in
set_option maxRecDepth 1000000 in
/-- errors.as where the wrapped error is of the target's own type: found in the second round. -/
theorem as_own_R (a c : Nat) (t vb : Addr) (old : Value) (w : World) (hc : w.cell? ⟨a, 1, none⟩ = some (.iface 70 (.pointer (some ⟨c, 0, none⟩))))
    (ht : w.cell? t = some old) (hf : w.frozen? t = false) (hvb : w.cell? vb = some (.pointer (some t))) :
    Calls Tryd.prog 58 #[.iface 71 (.pointer (some ⟨a, 0, none⟩)), .iface 73 (.pointer (some t)), .agg #[.pointer (some ⟨7, 73, none⟩), .pointer (some vb), .int .u64 150], .iface 128 (.agg #[.pointer (some ⟨7, 70, none⟩)])] w
      fun ev w' => ev = .returned (.bool true) ∧ w'.cell? t = some (.pointer (some ⟨c, 0, none⟩)) ∧ Keeps (fun k => k = t.block) w w' := by
  have h10 := @run_callFunc_extern Tryd.prog 59 _ ReflectliteType.typeOf Tryd.func59 (by kernel_rfl) (by kernel_rfl) (by kernel_rfl) (by kernel_rfl)
  have h35 := @run_callFunc_extern Tryd.prog 176 _ (ReflectliteType.relation "AssignableTo" ReflectliteType.assignableTo) Tryd.func176 (by kernel_rfl) (by kernel_rfl) (by kernel_rfl) (by kernel_rfl)
  have h6 := @run_callFunc_extern Tryd.prog 55 _ (fun args => ReflectliteValue.unpack (args.getD 0 (.tuple #[]))) Tryd.func55 (by kernel_rfl) (by kernel_rfl) (by kernel_rfl) (by kernel_rfl)
  have h11 := @run_callFunc_extern Tryd.prog 67 _ (ReflectliteValue.method (ReflectliteValue.valueError "reflectlite.Value.Elem" 0) ReflectliteValue.elem) Tryd.func67 (by kernel_rfl) (by kernel_rfl) (by kernel_rfl) (by kernel_rfl)
  have h12 := @run_callFunc_extern Tryd.prog 68 _ ReflectliteValue.set Tryd.func68 (by kernel_rfl) (by kernel_rfl) (by kernel_rfl) (by kernel_rfl)
  have tO := Tryd.typeOfO
  have tR := Tryd.typeOfR
  have mA := Tryd.methodAssignableTo
  have aO := Tryd.assignableO
  have aR := Tryd.assignableR
  have vO := Tryd.valueOfO
  have mU := Tryd.methodUnwrapR ⟨a, 0, none⟩
  have sA := Tryd.assertAsR
  have sU := Tryd.assertUnR
  have hal := World.block_lt_of_cell? w _ hc
  have htl := World.block_lt_of_cell? w _ ht
  have hvl := World.block_lt_of_cell? w _ hvb
  have hc1 : ∀ o, (w.alloc o).cell? ⟨a, 1, none⟩ = some (.iface 70 (.pointer (some ⟨c, 0, none⟩))) := fun o => (World.cell?_alloc_lt _ _ _ hal).trans hc
  have el := Tryd.elemVT vb t (w.alloc (.cells #[.pointer (some ⟨7, 73, none⟩), .pointer (some vb), .int .u64 150] 106)) ((World.cell?_alloc_lt _ _ _ hvl).trans hvb)
  have ht2 : ∀ o p, ((w.alloc o).alloc p).cell? t = some old := fun o p => by rw [World.cell?_alloc_lt _ _ t (by simp; omega), World.cell?_alloc_lt _ _ t htl]; exact ht
  have st := Tryd.setO t ⟨w.heap.size + 1, 0, none⟩ ⟨c, 0, none⟩ old ((w.alloc (.cells #[.pointer (some ⟨7, 73, none⟩), .pointer (some vb), .int .u64 150] 106)).alloc (.cells #[.pointer (some ⟨c, 0, none⟩)] 70))
    (by rw [World.cell?_alloc_at _ _ _ _ (by simp)]; rfl)
    (ht2 _ _)
    (by rw [World.frozen?_alloc_old _ _ t (by simp; omega), World.frozen?_alloc_old _ _ t (Nat.ne_of_lt htl)]; exact hf)
  have HT := Lib.hid ht2
  clear hvb ht2
  go_enter Tryd.func58, Tryd.ntmps58
  go_wp2
  refine wp_loop_rounds 2 ?_
  rw [rounds_succ]
  go_wp2_with (go_at_call 168; refine (unwrapR a _ _ (hc1 _)).mono ?_; rintro e w' ⟨rfl, rfl⟩)
  rw [rounds_succ]
  go_wp2
  go_ret
  exact ⟨rfl, World.cell?_setCell_same' _ _ _ (by rw [HT.out]; rfl), (((Keeps.refl (fun k => k = t.block) w).alloc _).alloc _).setCell (p := t) (fun _ => rfl) _⟩

set_option maxHeartbeats 4000000 in
set_option maxRecDepth 1000000 in
theorem As_own_R (a c : Nat) (t : Addr) (old : Value) (w : World) (hg : w.cell? ⟨3, 0, none⟩ = some (.iface 128 (.agg #[.pointer (some ⟨7, 45, none⟩)])))
    (hc : w.cell? ⟨a, 1, none⟩ = some (.iface 70 (.pointer (some ⟨c, 0, none⟩)))) (ht : w.cell? t = some old) (hf : w.frozen? t = false) :
    Calls Tryd.prog 36 #[.iface 71 (.pointer (some ⟨a, 0, none⟩)), .iface 73 (.pointer (some t))] w
      fun ev w' => ev = .returned (.bool true) ∧ w'.cell? t = some (.pointer (some ⟨c, 0, none⟩)) ∧ Keeps (fun k => k = t.block) w w' := by
  have h6 := @run_callFunc_extern Tryd.prog 55 _ (fun args => ReflectliteValue.unpack (args.getD 0 (.tuple #[]))) Tryd.func55 (by kernel_rfl) (by kernel_rfl) (by kernel_rfl) (by kernel_rfl)
  have h7 := @run_callFunc_extern Tryd.prog 56 _ (ReflectliteValue.methodAny (ReflectliteValue.valueError "reflectlite.Value.Type" 0) (fun t _ _ _ => ReflectliteType.toType t)) Tryd.func56 (by kernel_rfl) (by kernel_rfl) (by kernel_rfl) (by kernel_rfl)
  have h8 := @run_callFunc_extern Tryd.prog 57 _ (ReflectliteValue.method (ReflectliteValue.valueError "reflectlite.Value.IsNil" 0) ReflectliteValue.isNil) Tryd.func57 (by kernel_rfl) (by kernel_rfl) (by kernel_rfl) (by kernel_rfl)
  have h27 := @run_callFunc_extern Tryd.prog 162 _ (ReflectliteType.abiMethod fun t => do pure (.int .u8 (← Rtype.kind t))) Tryd.func162 (by kernel_rfl) (by kernel_rfl) (by kernel_rfl) (by kernel_rfl)
  have h37 := @run_callFunc_extern Tryd.prog 178 _ (ReflectliteType.method ReflectliteType.elem) Tryd.func178 (by kernel_rfl) (by kernel_rfl) (by kernel_rfl) (by kernel_rfl)
  have h38 := @run_callFunc_extern Tryd.prog 179 _ (ReflectliteType.relation "Implements" ReflectliteType.implements_) Tryd.func179 (by kernel_rfl) (by kernel_rfl) (by kernel_rfl) (by kernel_rfl)
  have f6 := Tryd.valueOfT
  have f7 := Tryd.typeT
  have mK := Tryd.methodKind
  have mE := Tryd.methodElem
  have mI := Tryd.methodImplements
  have k27 := Tryd.kindT
  have k25 := Tryd.kindO
  have e27 := Tryd.elemT
  have i25 := Tryd.implementsO
  have hal := World.block_lt_of_cell? w _ hc
  have htl := World.block_lt_of_cell? w _ ht
  have hgl := World.block_lt_of_cell? w _ hg
  have n8 := Tryd.isNilT ⟨w.heap.size, 0, none⟩ t ((w.alloc (.cells #[.pointer (some t)] 73)).alloc (.cells #[.pointer (some ⟨7, 73, none⟩), .pointer (some ⟨w.heap.size, 0, none⟩), .int .u64 150] 106)) (by simp)
  have hg2 : ∀ o p, ((w.alloc o).alloc p).cell? ⟨3, 0, none⟩ = some (.iface 128 (.agg #[.pointer (some ⟨7, 45, none⟩)])) := fun o p => by
    rw [World.cell?_alloc_lt _ _ _ (by simp; simp at hgl; omega), World.cell?_alloc_lt _ _ _ hgl]; exact hg
  have hlast := as_own_R a c t ⟨w.heap.size, 0, none⟩ old ((w.alloc (.cells #[.pointer (some t)] 73)).alloc (.cells #[.pointer (some ⟨7, 73, none⟩), .pointer (some ⟨w.heap.size, 0, none⟩), .int .u64 150] 106))
    (by rw [World.cell?_alloc_lt _ _ _ (by simp; simp at hal; omega), World.cell?_alloc_lt _ _ _ hal]; exact hc)
    (by rw [World.cell?_alloc_lt _ _ t (by simp; omega), World.cell?_alloc_lt _ _ t htl]; exact ht)
    (by rw [World.frozen?_alloc_old _ _ t (by simp; omega), World.frozen?_alloc_old _ _ t (Nat.ne_of_lt htl)]; exact hf)
    (by simp)
  have HL := Lib.hid hlast
  clear hlast ht hf hc hg
  go_enter Tryd.func36, Tryd.ntmps36
  go_wp2_with (go_at_call 58; refine HL.out.mono ?_; rintro e w' ⟨rfl, hcl, hk⟩)
  go_ret
  exact ⟨rfl, hcl, ((((Keeps.refl _ w).alloc _).alloc _).trans hk (fun _ _ h => h))⟩

set_option maxHeartbeats 4000000 in
set_option maxRecDepth 1000000 in
/-- errors.as where the wrapped error is of the target's own type: found in the second round. -/
theorem as_own_W (a c : Nat) (t vb : Addr) (old : Value) (w : World) (hc : w.cell? ⟨a, 1, none⟩ = some (.iface 70 (.pointer (some ⟨c, 0, none⟩))))
    (ht : w.cell? t = some old) (hf : w.frozen? t = false) (hvb : w.cell? vb = some (.pointer (some t))) :
    Calls Tryd.prog 58 #[.iface 78 (.pointer (some ⟨a, 0, none⟩)), .iface 73 (.pointer (some t)), .agg #[.pointer (some ⟨7, 73, none⟩), .pointer (some vb), .int .u64 150], .iface 128 (.agg #[.pointer (some ⟨7, 70, none⟩)])] w
      fun ev w' => ev = .returned (.bool true) ∧ w'.cell? t = some (.pointer (some ⟨c, 0, none⟩)) ∧ Keeps (fun k => k = t.block) w w' := by
  have h10 := @run_callFunc_extern Tryd.prog 59 _ ReflectliteType.typeOf Tryd.func59 (by kernel_rfl) (by kernel_rfl) (by kernel_rfl) (by kernel_rfl)
  have h35 := @run_callFunc_extern Tryd.prog 176 _ (ReflectliteType.relation "AssignableTo" ReflectliteType.assignableTo) Tryd.func176 (by kernel_rfl) (by kernel_rfl) (by kernel_rfl) (by kernel_rfl)
  have h6 := @run_callFunc_extern Tryd.prog 55 _ (fun args => ReflectliteValue.unpack (args.getD 0 (.tuple #[]))) Tryd.func55 (by kernel_rfl) (by kernel_rfl) (by kernel_rfl) (by kernel_rfl)
  have h11 := @run_callFunc_extern Tryd.prog 67 _ (ReflectliteValue.method (ReflectliteValue.valueError "reflectlite.Value.Elem" 0) ReflectliteValue.elem) Tryd.func67 (by kernel_rfl) (by kernel_rfl) (by kernel_rfl) (by kernel_rfl)
  have h12 := @run_callFunc_extern Tryd.prog 68 _ ReflectliteValue.set Tryd.func68 (by kernel_rfl) (by kernel_rfl) (by kernel_rfl) (by kernel_rfl)
  have tO := Tryd.typeOfO
  have tR := Tryd.typeOfW
  have mA := Tryd.methodAssignableTo
  have aO := Tryd.assignableO
  have aR := Tryd.assignableW
  have vO := Tryd.valueOfO
  have mU := Tryd.methodUnwrapW ⟨a, 0, none⟩
  have sA := Tryd.assertAsW
  have sU := Tryd.assertUnW
  have hal := World.block_lt_of_cell? w _ hc
  have htl := World.block_lt_of_cell? w _ ht
  have hvl := World.block_lt_of_cell? w _ hvb
  have hc1 : ∀ o, (w.alloc o).cell? ⟨a, 1, none⟩ = some (.iface 70 (.pointer (some ⟨c, 0, none⟩))) := fun o => (World.cell?_alloc_lt _ _ _ hal).trans hc
  have el := Tryd.elemVT vb t (w.alloc (.cells #[.pointer (some ⟨7, 73, none⟩), .pointer (some vb), .int .u64 150] 106)) ((World.cell?_alloc_lt _ _ _ hvl).trans hvb)
  have ht2 : ∀ o p, ((w.alloc o).alloc p).cell? t = some old := fun o p => by rw [World.cell?_alloc_lt _ _ t (by simp; omega), World.cell?_alloc_lt _ _ t htl]; exact ht
  have st := Tryd.setO t ⟨w.heap.size + 1, 0, none⟩ ⟨c, 0, none⟩ old ((w.alloc (.cells #[.pointer (some ⟨7, 73, none⟩), .pointer (some vb), .int .u64 150] 106)).alloc (.cells #[.pointer (some ⟨c, 0, none⟩)] 70))
    (by rw [World.cell?_alloc_at _ _ _ _ (by simp)]; rfl)
    (ht2 _ _)
    (by rw [World.frozen?_alloc_old _ _ t (by simp; omega), World.frozen?_alloc_old _ _ t (Nat.ne_of_lt htl)]; exact hf)
  have HT := Lib.hid ht2
  clear hvb ht2
  go_enter Tryd.func58, Tryd.ntmps58
  go_wp2
  refine wp_loop_rounds 2 ?_
  rw [rounds_succ]
  go_wp2_with (go_at_call 170; refine (unwrapW a _ _ (hc1 _)).mono ?_; rintro e w' ⟨rfl, rfl⟩)
  rw [rounds_succ]
  go_wp2
  go_ret
  exact ⟨rfl, World.cell?_setCell_same' _ _ _ (by rw [HT.out]; rfl), (((Keeps.refl (fun k => k = t.block) w).alloc _).alloc _).setCell (p := t) (fun _ => rfl) _⟩

set_option maxHeartbeats 4000000 in
set_option maxRecDepth 1000000 in
theorem As_own_W (a c : Nat) (t : Addr) (old : Value) (w : World) (hg : w.cell? ⟨3, 0, none⟩ = some (.iface 128 (.agg #[.pointer (some ⟨7, 45, none⟩)])))
    (hc : w.cell? ⟨a, 1, none⟩ = some (.iface 70 (.pointer (some ⟨c, 0, none⟩)))) (ht : w.cell? t = some old) (hf : w.frozen? t = false) :
    Calls Tryd.prog 36 #[.iface 78 (.pointer (some ⟨a, 0, none⟩)), .iface 73 (.pointer (some t))] w
      fun ev w' => ev = .returned (.bool true) ∧ w'.cell? t = some (.pointer (some ⟨c, 0, none⟩)) ∧ Keeps (fun k => k = t.block) w w' := by
  have h6 := @run_callFunc_extern Tryd.prog 55 _ (fun args => ReflectliteValue.unpack (args.getD 0 (.tuple #[]))) Tryd.func55 (by kernel_rfl) (by kernel_rfl) (by kernel_rfl) (by kernel_rfl)
  have h7 := @run_callFunc_extern Tryd.prog 56 _ (ReflectliteValue.methodAny (ReflectliteValue.valueError "reflectlite.Value.Type" 0) (fun t _ _ _ => ReflectliteType.toType t)) Tryd.func56 (by kernel_rfl) (by kernel_rfl) (by kernel_rfl) (by kernel_rfl)
  have h8 := @run_callFunc_extern Tryd.prog 57 _ (ReflectliteValue.method (ReflectliteValue.valueError "reflectlite.Value.IsNil" 0) ReflectliteValue.isNil) Tryd.func57 (by kernel_rfl) (by kernel_rfl) (by kernel_rfl) (by kernel_rfl)
  have h27 := @run_callFunc_extern Tryd.prog 162 _ (ReflectliteType.abiMethod fun t => do pure (.int .u8 (← Rtype.kind t))) Tryd.func162 (by kernel_rfl) (by kernel_rfl) (by kernel_rfl) (by kernel_rfl)
  have h37 := @run_callFunc_extern Tryd.prog 178 _ (ReflectliteType.method ReflectliteType.elem) Tryd.func178 (by kernel_rfl) (by kernel_rfl) (by kernel_rfl) (by kernel_rfl)
  have h38 := @run_callFunc_extern Tryd.prog 179 _ (ReflectliteType.relation "Implements" ReflectliteType.implements_) Tryd.func179 (by kernel_rfl) (by kernel_rfl) (by kernel_rfl) (by kernel_rfl)
  have f6 := Tryd.valueOfT
  have f7 := Tryd.typeT
  have mK := Tryd.methodKind
  have mE := Tryd.methodElem
  have mI := Tryd.methodImplements
  have k27 := Tryd.kindT
  have k25 := Tryd.kindO
  have e27 := Tryd.elemT
  have i25 := Tryd.implementsO
  have hal := World.block_lt_of_cell? w _ hc
  have htl := World.block_lt_of_cell? w _ ht
  have hgl := World.block_lt_of_cell? w _ hg
  have n8 := Tryd.isNilT ⟨w.heap.size, 0, none⟩ t ((w.alloc (.cells #[.pointer (some t)] 73)).alloc (.cells #[.pointer (some ⟨7, 73, none⟩), .pointer (some ⟨w.heap.size, 0, none⟩), .int .u64 150] 106)) (by simp)
  have hg2 : ∀ o p, ((w.alloc o).alloc p).cell? ⟨3, 0, none⟩ = some (.iface 128 (.agg #[.pointer (some ⟨7, 45, none⟩)])) := fun o p => by
    rw [World.cell?_alloc_lt _ _ _ (by simp; simp at hgl; omega), World.cell?_alloc_lt _ _ _ hgl]; exact hg
  have hlast := as_own_W a c t ⟨w.heap.size, 0, none⟩ old ((w.alloc (.cells #[.pointer (some t)] 73)).alloc (.cells #[.pointer (some ⟨7, 73, none⟩), .pointer (some ⟨w.heap.size, 0, none⟩), .int .u64 150] 106))
    (by rw [World.cell?_alloc_lt _ _ _ (by simp; simp at hal; omega), World.cell?_alloc_lt _ _ _ hal]; exact hc)
    (by rw [World.cell?_alloc_lt _ _ t (by simp; omega), World.cell?_alloc_lt _ _ t htl]; exact ht)
    (by rw [World.frozen?_alloc_old _ _ t (by simp; omega), World.frozen?_alloc_old _ _ t (Nat.ne_of_lt htl)]; exact hf)
    (by simp)
  have HL := Lib.hid hlast
  clear hlast ht hf hc hg
  go_enter Tryd.func36, Tryd.ntmps36
  go_wp2_with (go_at_call 58; refine HL.out.mono ?_; rintro e w' ⟨rfl, hcl, hk⟩)
  go_ret
  exact ⟨rfl, hcl, ((((Keeps.refl _ w).alloc _).alloc _).trans hk (fun _ _ h => h))⟩

set_option maxHeartbeats 4000000 in
set_option maxRecDepth 1000000 in
/-- errors.as where what is wrapped is no error of the target's type and wraps nothing. -/
theorem as_no_W (a : Nat) (p : Option Addr) (t vb : Addr) (w : World) (hc : w.cell? ⟨a, 1, none⟩ = some (.iface 197 (.pointer p))) :
    Calls Tryd.prog 58 #[.iface 78 (.pointer (some ⟨a, 0, none⟩)), .iface 73 (.pointer (some t)), .agg #[.pointer (some ⟨7, 73, none⟩), .pointer (some vb), .int .u64 150], .iface 128 (.agg #[.pointer (some ⟨7, 70, none⟩)])] w
      fun ev w' => ev = .returned (.bool false) ∧ Fresh w w' := by
  have h10 := @run_callFunc_extern Tryd.prog 59 _ ReflectliteType.typeOf Tryd.func59 (by kernel_rfl) (by kernel_rfl) (by kernel_rfl) (by kernel_rfl)
  have h35 := @run_callFunc_extern Tryd.prog 176 _ (ReflectliteType.relation "AssignableTo" ReflectliteType.assignableTo) Tryd.func176 (by kernel_rfl) (by kernel_rfl) (by kernel_rfl) (by kernel_rfl)
  have tW := Tryd.typeOfW
  have tS := Tryd.typeOfS
  have mA := Tryd.methodAssignableTo
  have aS := Tryd.assignableS
  have aW := Tryd.assignableW
  have mU := Tryd.methodUnwrapW ⟨a, 0, none⟩
  have sA := Tryd.assertAsW
  have sU := Tryd.assertUnW
  have sA2 := Tryd.assertAsS
  have sU2 := Tryd.assertUnS
  have sU3 := Tryd.assertUsS
  have hal := World.block_lt_of_cell? w _ hc
  have hc1 : ∀ o, (w.alloc o).cell? ⟨a, 1, none⟩ = some (.iface 197 (.pointer p)) := fun o => (World.cell?_alloc_lt _ _ _ hal).trans hc
  go_enter Tryd.func58, Tryd.ntmps58
  go_wp2
  refine wp_loop_rounds 2 ?_
  rw [rounds_succ]
  go_wp2_with (go_at_call 170; refine (unwrapW a _ _ (hc1 _)).mono ?_; rintro e w' ⟨rfl, rfl⟩)
  rw [rounds_succ]
  go_wp2
  go_ret
  exact ⟨rfl, ((Keeps.refl _ w).alloc _)⟩

set_option maxHeartbeats 4000000 in
set_option maxRecDepth 1000000 in
theorem As_no_W (a : Nat) (p : Option Addr) (t : Addr) (old : Value) (w : World) (hg : w.cell? ⟨3, 0, none⟩ = some (.iface 128 (.agg #[.pointer (some ⟨7, 45, none⟩)])))
    (hc : w.cell? ⟨a, 1, none⟩ = some (.iface 197 (.pointer p))) (ht : w.cell? t = some old) :
    Calls Tryd.prog 36 #[.iface 78 (.pointer (some ⟨a, 0, none⟩)), .iface 73 (.pointer (some t))] w
      fun ev w' => ev = .returned (.bool false) ∧ Fresh w w' := by
  have h6 := @run_callFunc_extern Tryd.prog 55 _ (fun args => ReflectliteValue.unpack (args.getD 0 (.tuple #[]))) Tryd.func55 (by kernel_rfl) (by kernel_rfl) (by kernel_rfl) (by kernel_rfl)
  have h7 := @run_callFunc_extern Tryd.prog 56 _ (ReflectliteValue.methodAny (ReflectliteValue.valueError "reflectlite.Value.Type" 0) (fun t _ _ _ => ReflectliteType.toType t)) Tryd.func56 (by kernel_rfl) (by kernel_rfl) (by kernel_rfl) (by kernel_rfl)
  have h8 := @run_callFunc_extern Tryd.prog 57 _ (ReflectliteValue.method (ReflectliteValue.valueError "reflectlite.Value.IsNil" 0) ReflectliteValue.isNil) Tryd.func57 (by kernel_rfl) (by kernel_rfl) (by kernel_rfl) (by kernel_rfl)
  have h27 := @run_callFunc_extern Tryd.prog 162 _ (ReflectliteType.abiMethod fun t => do pure (.int .u8 (← Rtype.kind t))) Tryd.func162 (by kernel_rfl) (by kernel_rfl) (by kernel_rfl) (by kernel_rfl)
  have h37 := @run_callFunc_extern Tryd.prog 178 _ (ReflectliteType.method ReflectliteType.elem) Tryd.func178 (by kernel_rfl) (by kernel_rfl) (by kernel_rfl) (by kernel_rfl)
  have h38 := @run_callFunc_extern Tryd.prog 179 _ (ReflectliteType.relation "Implements" ReflectliteType.implements_) Tryd.func179 (by kernel_rfl) (by kernel_rfl) (by kernel_rfl) (by kernel_rfl)
  have f6 := Tryd.valueOfT
  have f7 := Tryd.typeT
  have mK := Tryd.methodKind
  have mE := Tryd.methodElem
  have mI := Tryd.methodImplements
  have k27 := Tryd.kindT
  have k25 := Tryd.kindO
  have e27 := Tryd.elemT
  have i25 := Tryd.implementsO
  have hal := World.block_lt_of_cell? w _ hc
  have htl := World.block_lt_of_cell? w _ ht
  have hgl := World.block_lt_of_cell? w _ hg
  have n8 := Tryd.isNilT ⟨w.heap.size, 0, none⟩ t ((w.alloc (.cells #[.pointer (some t)] 73)).alloc (.cells #[.pointer (some ⟨7, 73, none⟩), .pointer (some ⟨w.heap.size, 0, none⟩), .int .u64 150] 106)) (by simp)
  have hg2 : ∀ o p, ((w.alloc o).alloc p).cell? ⟨3, 0, none⟩ = some (.iface 128 (.agg #[.pointer (some ⟨7, 45, none⟩)])) := fun o p => by
    rw [World.cell?_alloc_lt _ _ _ (by simp; simp at hgl; omega), World.cell?_alloc_lt _ _ _ hgl]; exact hg
  have hlast := as_no_W a p t ⟨w.heap.size, 0, none⟩ ((w.alloc (.cells #[.pointer (some t)] 73)).alloc (.cells #[.pointer (some ⟨7, 73, none⟩), .pointer (some ⟨w.heap.size, 0, none⟩), .int .u64 150] 106))
    (by rw [World.cell?_alloc_lt _ _ _ (by simp; simp at hal; omega), World.cell?_alloc_lt _ _ _ hal]; exact hc)
  have HL := Lib.hid hlast
  clear hlast ht hc hg
  go_enter Tryd.func36, Tryd.ntmps36
  go_wp2_with (go_at_call 58; refine HL.out.mono ?_; rintro e w' ⟨rfl, hk⟩)
  go_ret
  exact ⟨rfl, ((((Keeps.refl _ w).alloc _).alloc _).tr hk)⟩
end Go.Proofs.YtbioecifiogffaaDoor
