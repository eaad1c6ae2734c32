/- Facts on this program's types. -/
import Derived.Test.YtaikkfdnbihbiaaDoorProg
import Derived.Test.YtaikkfdnbihbiaaDoorAKD
import Derived.Test.YtaikkfdnbihbiaaDoorAKI
namespace Go.Proofs.YtaikkfdnbihbiaaDoor
open Go Go.AK
theorem ty2 : tyOf Tryd.prog 2 = some ⟨.int .i64, 1, 8, .int .i64 0, true⟩ := by kernel_rfl
@[go_sem] theorem kd2 : kind Tryd.prog 2 = some (.int .i64) := by simp only [kind, ty2, Option.map_some]
@[go_sem] theorem un2 : Tryd.prog.underlying 2 = some (.int .i64) := by kernel_rfl
@[go_sem] theorem ld2 (H : AHeap) (l i j : Nat) : loadA Tryd.prog H 2 (.pointer (some ⟨l, i, some j⟩)) = ldO false 1 (H.obj l) i j := load_ptr ty2
@[go_sem] theorem li2 (H : AHeap) (cs : List Value) (j : Nat) : loadA Tryd.prog H 2 (inp cs j) = cut false cs j 1 := load_inp ty2
@[go_sem] theorem st2 (H : AHeap) (l i j : Nat) (v : Value) : storeA Tryd.prog H 2 v (.pointer (some ⟨l, i, some j⟩)) = stO 1 H l i j v.cells.toList (H.obj l) := store_ptr ty2
@[go_sem] theorem bx2 (H : AHeap) (v : Value) : boxA Tryd.prog H 2 v = bxO 1 H v.cells.toList := box_of ty2
@[go_sem] theorem al2 (H : AHeap) : allocA Tryd.prog H 2 = bxO 1 H [.int .i64 0] := alloc_of ty2 rfl
theorem ty3 : tyOf Tryd.prog 3 = some ⟨.int .i64, 1, 8, .int .i64 0, true⟩ := by kernel_rfl
@[go_sem] theorem kd3 : kind Tryd.prog 3 = some (.int .i64) := by simp only [kind, ty3, Option.map_some]
@[go_sem] theorem un3 : Tryd.prog.underlying 3 = some (.int .i64) := by kernel_rfl
@[go_sem] theorem ld3 (H : AHeap) (l i j : Nat) : loadA Tryd.prog H 3 (.pointer (some ⟨l, i, some j⟩)) = ldO false 1 (H.obj l) i j := load_ptr ty3
@[go_sem] theorem li3 (H : AHeap) (cs : List Value) (j : Nat) : loadA Tryd.prog H 3 (inp cs j) = cut false cs j 1 := load_inp ty3
@[go_sem] theorem st3 (H : AHeap) (l i j : Nat) (v : Value) : storeA Tryd.prog H 3 v (.pointer (some ⟨l, i, some j⟩)) = stO 1 H l i j v.cells.toList (H.obj l) := store_ptr ty3
@[go_sem] theorem bx3 (H : AHeap) (v : Value) : boxA Tryd.prog H 3 v = bxO 1 H v.cells.toList := box_of ty3
@[go_sem] theorem al3 (H : AHeap) : allocA Tryd.prog H 3 = bxO 1 H [.int .i64 0] := alloc_of ty3 rfl
theorem ty4 : tyOf Tryd.prog 4 = some ⟨.bool, 1, 1, .bool false, true⟩ := by kernel_rfl
@[go_sem] theorem kd4 : kind Tryd.prog 4 = some (.bool) := by simp only [kind, ty4, Option.map_some]
@[go_sem] theorem ld4 (H : AHeap) (l i j : Nat) : loadA Tryd.prog H 4 (.pointer (some ⟨l, i, some j⟩)) = ldO false 1 (H.obj l) i j := load_ptr ty4
@[go_sem] theorem li4 (H : AHeap) (cs : List Value) (j : Nat) : loadA Tryd.prog H 4 (inp cs j) = cut false cs j 1 := load_inp ty4
@[go_sem] theorem st4 (H : AHeap) (l i j : Nat) (v : Value) : storeA Tryd.prog H 4 v (.pointer (some ⟨l, i, some j⟩)) = stO 1 H l i j v.cells.toList (H.obj l) := store_ptr ty4
@[go_sem] theorem bx4 (H : AHeap) (v : Value) : boxA Tryd.prog H 4 v = bxO 1 H v.cells.toList := box_of ty4
@[go_sem] theorem al4 (H : AHeap) : allocA Tryd.prog H 4 = bxO 1 H [.bool false] := alloc_of ty4 rfl
theorem ty5 : tyOf Tryd.prog 5 = some ⟨.int .u8, 1, 1, .int .u8 0, true⟩ := by kernel_rfl
@[go_sem] theorem kd5 : kind Tryd.prog 5 = some (.int .u8) := by simp only [kind, ty5, Option.map_some]
@[go_sem] theorem un5 : Tryd.prog.underlying 5 = some (.int .u8) := by kernel_rfl
@[go_sem] theorem ld5 (H : AHeap) (l i j : Nat) : loadA Tryd.prog H 5 (.pointer (some ⟨l, i, some j⟩)) = ldO false 1 (H.obj l) i j := load_ptr ty5
@[go_sem] theorem li5 (H : AHeap) (cs : List Value) (j : Nat) : loadA Tryd.prog H 5 (inp cs j) = cut false cs j 1 := load_inp ty5
@[go_sem] theorem st5 (H : AHeap) (l i j : Nat) (v : Value) : storeA Tryd.prog H 5 v (.pointer (some ⟨l, i, some j⟩)) = stO 1 H l i j v.cells.toList (H.obj l) := store_ptr ty5
@[go_sem] theorem bx5 (H : AHeap) (v : Value) : boxA Tryd.prog H 5 v = bxO 1 H v.cells.toList := box_of ty5
@[go_sem] theorem al5 (H : AHeap) : allocA Tryd.prog H 5 = bxO 1 H [.int .u8 0] := alloc_of ty5 rfl
theorem ty9 : tyOf Tryd.prog 9 = some ⟨.string, 1, 16, .string ⟨#[]⟩, true⟩ := by kernel_rfl
@[go_sem] theorem kd9 : kind Tryd.prog 9 = some (.string) := by simp only [kind, ty9, Option.map_some]
@[go_sem] theorem un9 : Tryd.prog.underlying 9 = some (.string) := by kernel_rfl
@[go_sem] theorem ld9 (H : AHeap) (l i j : Nat) : loadA Tryd.prog H 9 (.pointer (some ⟨l, i, some j⟩)) = ldO false 1 (H.obj l) i j := load_ptr ty9
@[go_sem] theorem li9 (H : AHeap) (cs : List Value) (j : Nat) : loadA Tryd.prog H 9 (inp cs j) = cut false cs j 1 := load_inp ty9
@[go_sem] theorem st9 (H : AHeap) (l i j : Nat) (v : Value) : storeA Tryd.prog H 9 v (.pointer (some ⟨l, i, some j⟩)) = stO 1 H l i j v.cells.toList (H.obj l) := store_ptr ty9
@[go_sem] theorem bx9 (H : AHeap) (v : Value) : boxA Tryd.prog H 9 v = bxO 1 H v.cells.toList := box_of ty9
@[go_sem] theorem al9 (H : AHeap) : allocA Tryd.prog H 9 = bxO 1 H [.string ⟨#[]⟩] := alloc_of ty9 rfl
theorem ty12 : tyOf Tryd.prog 12 = some ⟨.int .u64, 1, 8, .int .u64 0, true⟩ := by kernel_rfl
@[go_sem] theorem kd12 : kind Tryd.prog 12 = some (.int .u64) := by simp only [kind, ty12, Option.map_some]
@[go_sem] theorem un12 : Tryd.prog.underlying 12 = some (.int .u64) := by kernel_rfl
@[go_sem] theorem ld12 (H : AHeap) (l i j : Nat) : loadA Tryd.prog H 12 (.pointer (some ⟨l, i, some j⟩)) = ldO false 1 (H.obj l) i j := load_ptr ty12
@[go_sem] theorem li12 (H : AHeap) (cs : List Value) (j : Nat) : loadA Tryd.prog H 12 (inp cs j) = cut false cs j 1 := load_inp ty12
@[go_sem] theorem st12 (H : AHeap) (l i j : Nat) (v : Value) : storeA Tryd.prog H 12 v (.pointer (some ⟨l, i, some j⟩)) = stO 1 H l i j v.cells.toList (H.obj l) := store_ptr ty12
@[go_sem] theorem bx12 (H : AHeap) (v : Value) : boxA Tryd.prog H 12 v = bxO 1 H v.cells.toList := box_of ty12
@[go_sem] theorem al12 (H : AHeap) : allocA Tryd.prog H 12 = bxO 1 H [.int .u64 0] := alloc_of ty12 rfl
theorem ty13 : tyOf Tryd.prog 13 = some ⟨.struct [(0, 9, true), (1, 12, true)], 2, 24, .agg [.string ⟨#[]⟩, .int .u64 0].toArray, true⟩ := by kernel_rfl
@[go_sem] theorem kd13 : kind Tryd.prog 13 = some (.struct [(0, 9, true), (1, 12, true)]) := by simp only [kind, ty13, Option.map_some]
@[go_sem] theorem ld13 (H : AHeap) (l i j : Nat) : loadA Tryd.prog H 13 (.pointer (some ⟨l, i, some j⟩)) = ldO true 2 (H.obj l) i j := load_ptr ty13
@[go_sem] theorem li13 (H : AHeap) (cs : List Value) (j : Nat) : loadA Tryd.prog H 13 (inp cs j) = cut true cs j 2 := load_inp ty13
@[go_sem] theorem st13 (H : AHeap) (l i j : Nat) (v : Value) : storeA Tryd.prog H 13 v (.pointer (some ⟨l, i, some j⟩)) = stO 2 H l i j v.cells.toList (H.obj l) := store_ptr ty13
@[go_sem] theorem bx13 (H : AHeap) (v : Value) : boxA Tryd.prog H 13 v = bxO 2 H v.cells.toList := box_of ty13
@[go_sem] theorem al13 (H : AHeap) : allocA Tryd.prog H 13 = bxO 2 H [.string ⟨#[]⟩, .int .u64 0] := alloc_of ty13 rfl
@[go_sem] theorem fa13_0 (l i j : Nat) : fieldA Tryd.prog 13 0 (.pointer (some ⟨l, i, some j⟩)) = some (.pointer (some ⟨l, i, some (j + 0)⟩)) := fieldA_ptr kd13 rfl
@[go_sem] theorem fi13_0 (cs : List Value) (j : Nat) : fieldA Tryd.prog 13 0 (inp cs j) = some (inp cs (j + 0)) := fieldA_inp kd13 rfl
@[go_sem] theorem fa13_1 (l i j : Nat) : fieldA Tryd.prog 13 1 (.pointer (some ⟨l, i, some j⟩)) = some (.pointer (some ⟨l, i, some (j + 1)⟩)) := fieldA_ptr kd13 rfl
@[go_sem] theorem fi13_1 (cs : List Value) (j : Nat) : fieldA Tryd.prog 13 1 (inp cs j) = some (inp cs (j + 1)) := fieldA_inp kd13 rfl
theorem ty20 : tyOf Tryd.prog 20 = some ⟨.other, 1, 16, .nilIface, true⟩ := by kernel_rfl
@[go_sem] theorem kd20 : kind Tryd.prog 20 = some (.other) := by simp only [kind, ty20, Option.map_some]
@[go_sem] theorem ld20 (H : AHeap) (l i j : Nat) : loadA Tryd.prog H 20 (.pointer (some ⟨l, i, some j⟩)) = ldO false 1 (H.obj l) i j := load_ptr ty20
@[go_sem] theorem li20 (H : AHeap) (cs : List Value) (j : Nat) : loadA Tryd.prog H 20 (inp cs j) = cut false cs j 1 := load_inp ty20
@[go_sem] theorem st20 (H : AHeap) (l i j : Nat) (v : Value) : storeA Tryd.prog H 20 v (.pointer (some ⟨l, i, some j⟩)) = stO 1 H l i j v.cells.toList (H.obj l) := store_ptr ty20
@[go_sem] theorem bx20 (H : AHeap) (v : Value) : boxA Tryd.prog H 20 v = bxO 1 H v.cells.toList := box_of ty20
@[go_sem] theorem al20 (H : AHeap) : allocA Tryd.prog H 20 = bxO 1 H [.nilIface] := alloc_of ty20 rfl
theorem ty21 : tyOf Tryd.prog 21 = some ⟨.int .i32, 1, 4, .int .i32 0, true⟩ := by kernel_rfl
@[go_sem] theorem kd21 : kind Tryd.prog 21 = some (.int .i32) := by simp only [kind, ty21, Option.map_some]
@[go_sem] theorem un21 : Tryd.prog.underlying 21 = some (.int .i32) := by kernel_rfl
@[go_sem] theorem ld21 (H : AHeap) (l i j : Nat) : loadA Tryd.prog H 21 (.pointer (some ⟨l, i, some j⟩)) = ldO false 1 (H.obj l) i j := load_ptr ty21
@[go_sem] theorem li21 (H : AHeap) (cs : List Value) (j : Nat) : loadA Tryd.prog H 21 (inp cs j) = cut false cs j 1 := load_inp ty21
@[go_sem] theorem st21 (H : AHeap) (l i j : Nat) (v : Value) : storeA Tryd.prog H 21 v (.pointer (some ⟨l, i, some j⟩)) = stO 1 H l i j v.cells.toList (H.obj l) := store_ptr ty21
@[go_sem] theorem bx21 (H : AHeap) (v : Value) : boxA Tryd.prog H 21 v = bxO 1 H v.cells.toList := box_of ty21
@[go_sem] theorem al21 (H : AHeap) : allocA Tryd.prog H 21 = bxO 1 H [.int .i32 0] := alloc_of ty21 rfl
theorem ty22 : tyOf Tryd.prog 22 = some ⟨.slice 37, 1, 24, .slice none 0 0, true⟩ := by kernel_rfl
@[go_sem] theorem kd22 : kind Tryd.prog 22 = some (.slice 37) := by simp only [kind, ty22, Option.map_some]
@[go_sem] theorem un22 : Tryd.prog.underlying 22 = some (.slice 37) := by kernel_rfl
@[go_sem] theorem ld22 (H : AHeap) (l i j : Nat) : loadA Tryd.prog H 22 (.pointer (some ⟨l, i, some j⟩)) = ldO false 1 (H.obj l) i j := load_ptr ty22
@[go_sem] theorem li22 (H : AHeap) (cs : List Value) (j : Nat) : loadA Tryd.prog H 22 (inp cs j) = cut false cs j 1 := load_inp ty22
@[go_sem] theorem st22 (H : AHeap) (l i j : Nat) (v : Value) : storeA Tryd.prog H 22 v (.pointer (some ⟨l, i, some j⟩)) = stO 1 H l i j v.cells.toList (H.obj l) := store_ptr ty22
@[go_sem] theorem bx22 (H : AHeap) (v : Value) : boxA Tryd.prog H 22 v = bxO 1 H v.cells.toList := box_of ty22
@[go_sem] theorem al22 (H : AHeap) : allocA Tryd.prog H 22 = bxO 1 H [.slice none 0 0] := alloc_of ty22 rfl
theorem ty26 : tyOf Tryd.prog 26 = some ⟨.slice 31, 1, 24, .slice none 0 0, true⟩ := by kernel_rfl
@[go_sem] theorem kd26 : kind Tryd.prog 26 = some (.slice 31) := by simp only [kind, ty26, Option.map_some]
@[go_sem] theorem un26 : Tryd.prog.underlying 26 = some (.slice 31) := by kernel_rfl
@[go_sem] theorem ld26 (H : AHeap) (l i j : Nat) : loadA Tryd.prog H 26 (.pointer (some ⟨l, i, some j⟩)) = ldO false 1 (H.obj l) i j := load_ptr ty26
@[go_sem] theorem li26 (H : AHeap) (cs : List Value) (j : Nat) : loadA Tryd.prog H 26 (inp cs j) = cut false cs j 1 := load_inp ty26
@[go_sem] theorem st26 (H : AHeap) (l i j : Nat) (v : Value) : storeA Tryd.prog H 26 v (.pointer (some ⟨l, i, some j⟩)) = stO 1 H l i j v.cells.toList (H.obj l) := store_ptr ty26
@[go_sem] theorem bx26 (H : AHeap) (v : Value) : boxA Tryd.prog H 26 v = bxO 1 H v.cells.toList := box_of ty26
@[go_sem] theorem al26 (H : AHeap) : allocA Tryd.prog H 26 = bxO 1 H [.slice none 0 0] := alloc_of ty26 rfl
theorem ty30 : tyOf Tryd.prog 30 = some ⟨.struct [(0, 9, true), (1, 3, true), (2, 3, true), (3, 3, true), (4, 9, true), (5, 9, true), (6, 3, true)], 7, 80, .agg [.string ⟨#[]⟩, .int .i64 0, .int .i64 0, .int .i64 0, .string ⟨#[]⟩, .string ⟨#[]⟩, .int .i64 0].toArray, true⟩ := by kernel_rfl
@[go_sem] theorem kd30 : kind Tryd.prog 30 = some (.struct [(0, 9, true), (1, 3, true), (2, 3, true), (3, 3, true), (4, 9, true), (5, 9, true), (6, 3, true)]) := by simp only [kind, ty30, Option.map_some]
@[go_sem] theorem ld30 (H : AHeap) (l i j : Nat) : loadA Tryd.prog H 30 (.pointer (some ⟨l, i, some j⟩)) = ldO true 7 (H.obj l) i j := load_ptr ty30
@[go_sem] theorem li30 (H : AHeap) (cs : List Value) (j : Nat) : loadA Tryd.prog H 30 (inp cs j) = cut true cs j 7 := load_inp ty30
@[go_sem] theorem st30 (H : AHeap) (l i j : Nat) (v : Value) : storeA Tryd.prog H 30 v (.pointer (some ⟨l, i, some j⟩)) = stO 7 H l i j v.cells.toList (H.obj l) := store_ptr ty30
@[go_sem] theorem bx30 (H : AHeap) (v : Value) : boxA Tryd.prog H 30 v = bxO 7 H v.cells.toList := box_of ty30
@[go_sem] theorem al30 (H : AHeap) : allocA Tryd.prog H 30 = bxO 7 H [.string ⟨#[]⟩, .int .i64 0, .int .i64 0, .int .i64 0, .string ⟨#[]⟩, .string ⟨#[]⟩, .int .i64 0] := alloc_of ty30 rfl
@[go_sem] theorem fa30_0 (l i j : Nat) : fieldA Tryd.prog 30 0 (.pointer (some ⟨l, i, some j⟩)) = some (.pointer (some ⟨l, i, some (j + 0)⟩)) := fieldA_ptr kd30 rfl
@[go_sem] theorem fi30_0 (cs : List Value) (j : Nat) : fieldA Tryd.prog 30 0 (inp cs j) = some (inp cs (j + 0)) := fieldA_inp kd30 rfl
@[go_sem] theorem fa30_1 (l i j : Nat) : fieldA Tryd.prog 30 1 (.pointer (some ⟨l, i, some j⟩)) = some (.pointer (some ⟨l, i, some (j + 1)⟩)) := fieldA_ptr kd30 rfl
@[go_sem] theorem fi30_1 (cs : List Value) (j : Nat) : fieldA Tryd.prog 30 1 (inp cs j) = some (inp cs (j + 1)) := fieldA_inp kd30 rfl
@[go_sem] theorem fa30_2 (l i j : Nat) : fieldA Tryd.prog 30 2 (.pointer (some ⟨l, i, some j⟩)) = some (.pointer (some ⟨l, i, some (j + 2)⟩)) := fieldA_ptr kd30 rfl
@[go_sem] theorem fi30_2 (cs : List Value) (j : Nat) : fieldA Tryd.prog 30 2 (inp cs j) = some (inp cs (j + 2)) := fieldA_inp kd30 rfl
@[go_sem] theorem fa30_3 (l i j : Nat) : fieldA Tryd.prog 30 3 (.pointer (some ⟨l, i, some j⟩)) = some (.pointer (some ⟨l, i, some (j + 3)⟩)) := fieldA_ptr kd30 rfl
@[go_sem] theorem fi30_3 (cs : List Value) (j : Nat) : fieldA Tryd.prog 30 3 (inp cs j) = some (inp cs (j + 3)) := fieldA_inp kd30 rfl
@[go_sem] theorem fa30_4 (l i j : Nat) : fieldA Tryd.prog 30 4 (.pointer (some ⟨l, i, some j⟩)) = some (.pointer (some ⟨l, i, some (j + 4)⟩)) := fieldA_ptr kd30 rfl
@[go_sem] theorem fi30_4 (cs : List Value) (j : Nat) : fieldA Tryd.prog 30 4 (inp cs j) = some (inp cs (j + 4)) := fieldA_inp kd30 rfl
@[go_sem] theorem fa30_5 (l i j : Nat) : fieldA Tryd.prog 30 5 (.pointer (some ⟨l, i, some j⟩)) = some (.pointer (some ⟨l, i, some (j + 5)⟩)) := fieldA_ptr kd30 rfl
@[go_sem] theorem fi30_5 (cs : List Value) (j : Nat) : fieldA Tryd.prog 30 5 (inp cs j) = some (inp cs (j + 5)) := fieldA_inp kd30 rfl
@[go_sem] theorem fa30_6 (l i j : Nat) : fieldA Tryd.prog 30 6 (.pointer (some ⟨l, i, some j⟩)) = some (.pointer (some ⟨l, i, some (j + 6)⟩)) := fieldA_ptr kd30 rfl
@[go_sem] theorem fi30_6 (cs : List Value) (j : Nat) : fieldA Tryd.prog 30 6 (inp cs j) = some (inp cs (j + 6)) := fieldA_inp kd30 rfl
theorem ty31 : tyOf Tryd.prog 31 = some ⟨.struct [(0, 9, true), (1, 3, true), (2, 3, true), (3, 3, true), (4, 9, true), (5, 9, true), (6, 3, true)], 7, 80, .agg [.string ⟨#[]⟩, .int .i64 0, .int .i64 0, .int .i64 0, .string ⟨#[]⟩, .string ⟨#[]⟩, .int .i64 0].toArray, true⟩ := by kernel_rfl
@[go_sem] theorem kd31 : kind Tryd.prog 31 = some (.struct [(0, 9, true), (1, 3, true), (2, 3, true), (3, 3, true), (4, 9, true), (5, 9, true), (6, 3, true)]) := by simp only [kind, ty31, Option.map_some]
@[go_sem] theorem ld31 (H : AHeap) (l i j : Nat) : loadA Tryd.prog H 31 (.pointer (some ⟨l, i, some j⟩)) = ldO true 7 (H.obj l) i j := load_ptr ty31
@[go_sem] theorem li31 (H : AHeap) (cs : List Value) (j : Nat) : loadA Tryd.prog H 31 (inp cs j) = cut true cs j 7 := load_inp ty31
@[go_sem] theorem st31 (H : AHeap) (l i j : Nat) (v : Value) : storeA Tryd.prog H 31 v (.pointer (some ⟨l, i, some j⟩)) = stO 7 H l i j v.cells.toList (H.obj l) := store_ptr ty31
@[go_sem] theorem bx31 (H : AHeap) (v : Value) : boxA Tryd.prog H 31 v = bxO 7 H v.cells.toList := box_of ty31
@[go_sem] theorem al31 (H : AHeap) : allocA Tryd.prog H 31 = bxO 7 H [.string ⟨#[]⟩, .int .i64 0, .int .i64 0, .int .i64 0, .string ⟨#[]⟩, .string ⟨#[]⟩, .int .i64 0] := alloc_of ty31 rfl
@[go_sem] theorem fa31_0 (l i j : Nat) : fieldA Tryd.prog 31 0 (.pointer (some ⟨l, i, some j⟩)) = some (.pointer (some ⟨l, i, some (j + 0)⟩)) := fieldA_ptr kd31 rfl
@[go_sem] theorem fi31_0 (cs : List Value) (j : Nat) : fieldA Tryd.prog 31 0 (inp cs j) = some (inp cs (j + 0)) := fieldA_inp kd31 rfl
@[go_sem] theorem fa31_1 (l i j : Nat) : fieldA Tryd.prog 31 1 (.pointer (some ⟨l, i, some j⟩)) = some (.pointer (some ⟨l, i, some (j + 1)⟩)) := fieldA_ptr kd31 rfl
@[go_sem] theorem fi31_1 (cs : List Value) (j : Nat) : fieldA Tryd.prog 31 1 (inp cs j) = some (inp cs (j + 1)) := fieldA_inp kd31 rfl
@[go_sem] theorem fa31_2 (l i j : Nat) : fieldA Tryd.prog 31 2 (.pointer (some ⟨l, i, some j⟩)) = some (.pointer (some ⟨l, i, some (j + 2)⟩)) := fieldA_ptr kd31 rfl
@[go_sem] theorem fi31_2 (cs : List Value) (j : Nat) : fieldA Tryd.prog 31 2 (inp cs j) = some (inp cs (j + 2)) := fieldA_inp kd31 rfl
@[go_sem] theorem fa31_3 (l i j : Nat) : fieldA Tryd.prog 31 3 (.pointer (some ⟨l, i, some j⟩)) = some (.pointer (some ⟨l, i, some (j + 3)⟩)) := fieldA_ptr kd31 rfl
@[go_sem] theorem fi31_3 (cs : List Value) (j : Nat) : fieldA Tryd.prog 31 3 (inp cs j) = some (inp cs (j + 3)) := fieldA_inp kd31 rfl
@[go_sem] theorem fa31_4 (l i j : Nat) : fieldA Tryd.prog 31 4 (.pointer (some ⟨l, i, some j⟩)) = some (.pointer (some ⟨l, i, some (j + 4)⟩)) := fieldA_ptr kd31 rfl
@[go_sem] theorem fi31_4 (cs : List Value) (j : Nat) : fieldA Tryd.prog 31 4 (inp cs j) = some (inp cs (j + 4)) := fieldA_inp kd31 rfl
@[go_sem] theorem fa31_5 (l i j : Nat) : fieldA Tryd.prog 31 5 (.pointer (some ⟨l, i, some j⟩)) = some (.pointer (some ⟨l, i, some (j + 5)⟩)) := fieldA_ptr kd31 rfl
@[go_sem] theorem fi31_5 (cs : List Value) (j : Nat) : fieldA Tryd.prog 31 5 (inp cs j) = some (inp cs (j + 5)) := fieldA_inp kd31 rfl
@[go_sem] theorem fa31_6 (l i j : Nat) : fieldA Tryd.prog 31 6 (.pointer (some ⟨l, i, some j⟩)) = some (.pointer (some ⟨l, i, some (j + 6)⟩)) := fieldA_ptr kd31 rfl
@[go_sem] theorem fi31_6 (cs : List Value) (j : Nat) : fieldA Tryd.prog 31 6 (inp cs j) = some (inp cs (j + 6)) := fieldA_inp kd31 rfl
theorem ty37 : tyOf Tryd.prog 37 = some ⟨.struct [(0, 9, true), (1, 3, true), (2, 3, true), (3, 3, true), (4, 9, true), (5, 9, true), (6, 3, true)], 7, 80, .agg [.string ⟨#[]⟩, .int .i64 0, .int .i64 0, .int .i64 0, .string ⟨#[]⟩, .string ⟨#[]⟩, .int .i64 0].toArray, true⟩ := by kernel_rfl
@[go_sem] theorem kd37 : kind Tryd.prog 37 = some (.struct [(0, 9, true), (1, 3, true), (2, 3, true), (3, 3, true), (4, 9, true), (5, 9, true), (6, 3, true)]) := by simp only [kind, ty37, Option.map_some]
@[go_sem] theorem ld37 (H : AHeap) (l i j : Nat) : loadA Tryd.prog H 37 (.pointer (some ⟨l, i, some j⟩)) = ldO true 7 (H.obj l) i j := load_ptr ty37
@[go_sem] theorem li37 (H : AHeap) (cs : List Value) (j : Nat) : loadA Tryd.prog H 37 (inp cs j) = cut true cs j 7 := load_inp ty37
@[go_sem] theorem st37 (H : AHeap) (l i j : Nat) (v : Value) : storeA Tryd.prog H 37 v (.pointer (some ⟨l, i, some j⟩)) = stO 7 H l i j v.cells.toList (H.obj l) := store_ptr ty37
@[go_sem] theorem bx37 (H : AHeap) (v : Value) : boxA Tryd.prog H 37 v = bxO 7 H v.cells.toList := box_of ty37
@[go_sem] theorem al37 (H : AHeap) : allocA Tryd.prog H 37 = bxO 7 H [.string ⟨#[]⟩, .int .i64 0, .int .i64 0, .int .i64 0, .string ⟨#[]⟩, .string ⟨#[]⟩, .int .i64 0] := alloc_of ty37 rfl
@[go_sem] theorem fa37_0 (l i j : Nat) : fieldA Tryd.prog 37 0 (.pointer (some ⟨l, i, some j⟩)) = some (.pointer (some ⟨l, i, some (j + 0)⟩)) := fieldA_ptr kd37 rfl
@[go_sem] theorem fi37_0 (cs : List Value) (j : Nat) : fieldA Tryd.prog 37 0 (inp cs j) = some (inp cs (j + 0)) := fieldA_inp kd37 rfl
@[go_sem] theorem fa37_1 (l i j : Nat) : fieldA Tryd.prog 37 1 (.pointer (some ⟨l, i, some j⟩)) = some (.pointer (some ⟨l, i, some (j + 1)⟩)) := fieldA_ptr kd37 rfl
@[go_sem] theorem fi37_1 (cs : List Value) (j : Nat) : fieldA Tryd.prog 37 1 (inp cs j) = some (inp cs (j + 1)) := fieldA_inp kd37 rfl
@[go_sem] theorem fa37_2 (l i j : Nat) : fieldA Tryd.prog 37 2 (.pointer (some ⟨l, i, some j⟩)) = some (.pointer (some ⟨l, i, some (j + 2)⟩)) := fieldA_ptr kd37 rfl
@[go_sem] theorem fi37_2 (cs : List Value) (j : Nat) : fieldA Tryd.prog 37 2 (inp cs j) = some (inp cs (j + 2)) := fieldA_inp kd37 rfl
@[go_sem] theorem fa37_3 (l i j : Nat) : fieldA Tryd.prog 37 3 (.pointer (some ⟨l, i, some j⟩)) = some (.pointer (some ⟨l, i, some (j + 3)⟩)) := fieldA_ptr kd37 rfl
@[go_sem] theorem fi37_3 (cs : List Value) (j : Nat) : fieldA Tryd.prog 37 3 (inp cs j) = some (inp cs (j + 3)) := fieldA_inp kd37 rfl
@[go_sem] theorem fa37_4 (l i j : Nat) : fieldA Tryd.prog 37 4 (.pointer (some ⟨l, i, some j⟩)) = some (.pointer (some ⟨l, i, some (j + 4)⟩)) := fieldA_ptr kd37 rfl
@[go_sem] theorem fi37_4 (cs : List Value) (j : Nat) : fieldA Tryd.prog 37 4 (inp cs j) = some (inp cs (j + 4)) := fieldA_inp kd37 rfl
@[go_sem] theorem fa37_5 (l i j : Nat) : fieldA Tryd.prog 37 5 (.pointer (some ⟨l, i, some j⟩)) = some (.pointer (some ⟨l, i, some (j + 5)⟩)) := fieldA_ptr kd37 rfl
@[go_sem] theorem fi37_5 (cs : List Value) (j : Nat) : fieldA Tryd.prog 37 5 (inp cs j) = some (inp cs (j + 5)) := fieldA_inp kd37 rfl
@[go_sem] theorem fa37_6 (l i j : Nat) : fieldA Tryd.prog 37 6 (.pointer (some ⟨l, i, some j⟩)) = some (.pointer (some ⟨l, i, some (j + 6)⟩)) := fieldA_ptr kd37 rfl
@[go_sem] theorem fi37_6 (cs : List Value) (j : Nat) : fieldA Tryd.prog 37 6 (inp cs j) = some (inp cs (j + 6)) := fieldA_inp kd37 rfl
theorem ty41 : tyOf Tryd.prog 41 = some ⟨.pointer 44, 1, 8, .pointer none, true⟩ := by kernel_rfl
@[go_sem] theorem kd41 : kind Tryd.prog 41 = some (.pointer 44) := by simp only [kind, ty41, Option.map_some]
@[go_sem] theorem ld41 (H : AHeap) (l i j : Nat) : loadA Tryd.prog H 41 (.pointer (some ⟨l, i, some j⟩)) = ldO false 1 (H.obj l) i j := load_ptr ty41
@[go_sem] theorem li41 (H : AHeap) (cs : List Value) (j : Nat) : loadA Tryd.prog H 41 (inp cs j) = cut false cs j 1 := load_inp ty41
@[go_sem] theorem st41 (H : AHeap) (l i j : Nat) (v : Value) : storeA Tryd.prog H 41 v (.pointer (some ⟨l, i, some j⟩)) = stO 1 H l i j v.cells.toList (H.obj l) := store_ptr ty41
@[go_sem] theorem bx41 (H : AHeap) (v : Value) : boxA Tryd.prog H 41 v = bxO 1 H v.cells.toList := box_of ty41
@[go_sem] theorem al41 (H : AHeap) : allocA Tryd.prog H 41 = bxO 1 H [.pointer none] := alloc_of ty41 rfl
theorem ty42 : tyOf Tryd.prog 42 = some ⟨.slice 5, 1, 24, .slice none 0 0, true⟩ := by kernel_rfl
@[go_sem] theorem kd42 : kind Tryd.prog 42 = some (.slice 5) := by simp only [kind, ty42, Option.map_some]
@[go_sem] theorem un42 : Tryd.prog.underlying 42 = some (.slice 5) := by kernel_rfl
@[go_sem] theorem ld42 (H : AHeap) (l i j : Nat) : loadA Tryd.prog H 42 (.pointer (some ⟨l, i, some j⟩)) = ldO false 1 (H.obj l) i j := load_ptr ty42
@[go_sem] theorem li42 (H : AHeap) (cs : List Value) (j : Nat) : loadA Tryd.prog H 42 (inp cs j) = cut false cs j 1 := load_inp ty42
@[go_sem] theorem st42 (H : AHeap) (l i j : Nat) (v : Value) : storeA Tryd.prog H 42 v (.pointer (some ⟨l, i, some j⟩)) = stO 1 H l i j v.cells.toList (H.obj l) := store_ptr ty42
@[go_sem] theorem bx42 (H : AHeap) (v : Value) : boxA Tryd.prog H 42 v = bxO 1 H v.cells.toList := box_of ty42
@[go_sem] theorem al42 (H : AHeap) : allocA Tryd.prog H 42 = bxO 1 H [.slice none 0 0] := alloc_of ty42 rfl
theorem ty43 : tyOf Tryd.prog 43 = some ⟨.struct [(0, 41, true), (1, 42, true)], 2, 32, .agg [.pointer none, .slice none 0 0].toArray, true⟩ := by kernel_rfl
@[go_sem] theorem kd43 : kind Tryd.prog 43 = some (.struct [(0, 41, true), (1, 42, true)]) := by simp only [kind, ty43, Option.map_some]
@[go_sem] theorem ld43 (H : AHeap) (l i j : Nat) : loadA Tryd.prog H 43 (.pointer (some ⟨l, i, some j⟩)) = ldO true 2 (H.obj l) i j := load_ptr ty43
@[go_sem] theorem li43 (H : AHeap) (cs : List Value) (j : Nat) : loadA Tryd.prog H 43 (inp cs j) = cut true cs j 2 := load_inp ty43
@[go_sem] theorem st43 (H : AHeap) (l i j : Nat) (v : Value) : storeA Tryd.prog H 43 v (.pointer (some ⟨l, i, some j⟩)) = stO 2 H l i j v.cells.toList (H.obj l) := store_ptr ty43
@[go_sem] theorem bx43 (H : AHeap) (v : Value) : boxA Tryd.prog H 43 v = bxO 2 H v.cells.toList := box_of ty43
@[go_sem] theorem al43 (H : AHeap) : allocA Tryd.prog H 43 = bxO 2 H [.pointer none, .slice none 0 0] := alloc_of ty43 rfl
@[go_sem] theorem fa43_0 (l i j : Nat) : fieldA Tryd.prog 43 0 (.pointer (some ⟨l, i, some j⟩)) = some (.pointer (some ⟨l, i, some (j + 0)⟩)) := fieldA_ptr kd43 rfl
@[go_sem] theorem fi43_0 (cs : List Value) (j : Nat) : fieldA Tryd.prog 43 0 (inp cs j) = some (inp cs (j + 0)) := fieldA_inp kd43 rfl
@[go_sem] theorem fa43_1 (l i j : Nat) : fieldA Tryd.prog 43 1 (.pointer (some ⟨l, i, some j⟩)) = some (.pointer (some ⟨l, i, some (j + 1)⟩)) := fieldA_ptr kd43 rfl
@[go_sem] theorem fi43_1 (cs : List Value) (j : Nat) : fieldA Tryd.prog 43 1 (inp cs j) = some (inp cs (j + 1)) := fieldA_inp kd43 rfl
theorem ty44 : tyOf Tryd.prog 44 = some ⟨.struct [(0, 41, true), (1, 42, true)], 2, 32, .agg [.pointer none, .slice none 0 0].toArray, true⟩ := by kernel_rfl
@[go_sem] theorem kd44 : kind Tryd.prog 44 = some (.struct [(0, 41, true), (1, 42, true)]) := by simp only [kind, ty44, Option.map_some]
@[go_sem] theorem ld44 (H : AHeap) (l i j : Nat) : loadA Tryd.prog H 44 (.pointer (some ⟨l, i, some j⟩)) = ldO true 2 (H.obj l) i j := load_ptr ty44
@[go_sem] theorem li44 (H : AHeap) (cs : List Value) (j : Nat) : loadA Tryd.prog H 44 (inp cs j) = cut true cs j 2 := load_inp ty44
@[go_sem] theorem st44 (H : AHeap) (l i j : Nat) (v : Value) : storeA Tryd.prog H 44 v (.pointer (some ⟨l, i, some j⟩)) = stO 2 H l i j v.cells.toList (H.obj l) := store_ptr ty44
@[go_sem] theorem bx44 (H : AHeap) (v : Value) : boxA Tryd.prog H 44 v = bxO 2 H v.cells.toList := box_of ty44
@[go_sem] theorem al44 (H : AHeap) : allocA Tryd.prog H 44 = bxO 2 H [.pointer none, .slice none 0 0] := alloc_of ty44 rfl
@[go_sem] theorem fa44_0 (l i j : Nat) : fieldA Tryd.prog 44 0 (.pointer (some ⟨l, i, some j⟩)) = some (.pointer (some ⟨l, i, some (j + 0)⟩)) := fieldA_ptr kd44 rfl
@[go_sem] theorem fi44_0 (cs : List Value) (j : Nat) : fieldA Tryd.prog 44 0 (inp cs j) = some (inp cs (j + 0)) := fieldA_inp kd44 rfl
@[go_sem] theorem fa44_1 (l i j : Nat) : fieldA Tryd.prog 44 1 (.pointer (some ⟨l, i, some j⟩)) = some (.pointer (some ⟨l, i, some (j + 1)⟩)) := fieldA_ptr kd44 rfl
@[go_sem] theorem fi44_1 (cs : List Value) (j : Nat) : fieldA Tryd.prog 44 1 (inp cs j) = some (inp cs (j + 1)) := fieldA_inp kd44 rfl
theorem ty45 : tyOf Tryd.prog 45 = some ⟨.other, 1, 16, .nilIface, true⟩ := by kernel_rfl
@[go_sem] theorem kd45 : kind Tryd.prog 45 = some (.other) := by simp only [kind, ty45, Option.map_some]
@[go_sem] theorem ld45 (H : AHeap) (l i j : Nat) : loadA Tryd.prog H 45 (.pointer (some ⟨l, i, some j⟩)) = ldO false 1 (H.obj l) i j := load_ptr ty45
@[go_sem] theorem li45 (H : AHeap) (cs : List Value) (j : Nat) : loadA Tryd.prog H 45 (inp cs j) = cut false cs j 1 := load_inp ty45
@[go_sem] theorem st45 (H : AHeap) (l i j : Nat) (v : Value) : storeA Tryd.prog H 45 v (.pointer (some ⟨l, i, some j⟩)) = stO 1 H l i j v.cells.toList (H.obj l) := store_ptr ty45
@[go_sem] theorem bx45 (H : AHeap) (v : Value) : boxA Tryd.prog H 45 v = bxO 1 H v.cells.toList := box_of ty45
@[go_sem] theorem al45 (H : AHeap) : allocA Tryd.prog H 45 = bxO 1 H [.nilIface] := alloc_of ty45 rfl
theorem ty46 : tyOf Tryd.prog 46 = some ⟨.other, 1, 16, .nilIface, true⟩ := by kernel_rfl
@[go_sem] theorem kd46 : kind Tryd.prog 46 = some (.other) := by simp only [kind, ty46, Option.map_some]
@[go_sem] theorem ld46 (H : AHeap) (l i j : Nat) : loadA Tryd.prog H 46 (.pointer (some ⟨l, i, some j⟩)) = ldO false 1 (H.obj l) i j := load_ptr ty46
@[go_sem] theorem li46 (H : AHeap) (cs : List Value) (j : Nat) : loadA Tryd.prog H 46 (inp cs j) = cut false cs j 1 := load_inp ty46
@[go_sem] theorem st46 (H : AHeap) (l i j : Nat) (v : Value) : storeA Tryd.prog H 46 v (.pointer (some ⟨l, i, some j⟩)) = stO 1 H l i j v.cells.toList (H.obj l) := store_ptr ty46
@[go_sem] theorem bx46 (H : AHeap) (v : Value) : boxA Tryd.prog H 46 v = bxO 1 H v.cells.toList := box_of ty46
@[go_sem] theorem al46 (H : AHeap) : allocA Tryd.prog H 46 = bxO 1 H [.nilIface] := alloc_of ty46 rfl
theorem ty50 : tyOf Tryd.prog 50 = some ⟨.other, 1, 8, .nilFunc, true⟩ := by kernel_rfl
@[go_sem] theorem kd50 : kind Tryd.prog 50 = some (.other) := by simp only [kind, ty50, Option.map_some]
@[go_sem] theorem ld50 (H : AHeap) (l i j : Nat) : loadA Tryd.prog H 50 (.pointer (some ⟨l, i, some j⟩)) = ldO false 1 (H.obj l) i j := load_ptr ty50
@[go_sem] theorem li50 (H : AHeap) (cs : List Value) (j : Nat) : loadA Tryd.prog H 50 (inp cs j) = cut false cs j 1 := load_inp ty50
@[go_sem] theorem st50 (H : AHeap) (l i j : Nat) (v : Value) : storeA Tryd.prog H 50 v (.pointer (some ⟨l, i, some j⟩)) = stO 1 H l i j v.cells.toList (H.obj l) := store_ptr ty50
@[go_sem] theorem bx50 (H : AHeap) (v : Value) : boxA Tryd.prog H 50 v = bxO 1 H v.cells.toList := box_of ty50
@[go_sem] theorem al50 (H : AHeap) : allocA Tryd.prog H 50 = bxO 1 H [.nilFunc] := alloc_of ty50 rfl
theorem ty51 : tyOf Tryd.prog 51 = some ⟨.slice 9, 1, 24, .slice none 0 0, true⟩ := by kernel_rfl
@[go_sem] theorem kd51 : kind Tryd.prog 51 = some (.slice 9) := by simp only [kind, ty51, Option.map_some]
@[go_sem] theorem un51 : Tryd.prog.underlying 51 = some (.slice 9) := by kernel_rfl
@[go_sem] theorem ld51 (H : AHeap) (l i j : Nat) : loadA Tryd.prog H 51 (.pointer (some ⟨l, i, some j⟩)) = ldO false 1 (H.obj l) i j := load_ptr ty51
@[go_sem] theorem li51 (H : AHeap) (cs : List Value) (j : Nat) : loadA Tryd.prog H 51 (inp cs j) = cut false cs j 1 := load_inp ty51
@[go_sem] theorem st51 (H : AHeap) (l i j : Nat) (v : Value) : storeA Tryd.prog H 51 v (.pointer (some ⟨l, i, some j⟩)) = stO 1 H l i j v.cells.toList (H.obj l) := store_ptr ty51
@[go_sem] theorem bx51 (H : AHeap) (v : Value) : boxA Tryd.prog H 51 v = bxO 1 H v.cells.toList := box_of ty51
@[go_sem] theorem al51 (H : AHeap) : allocA Tryd.prog H 51 = bxO 1 H [.slice none 0 0] := alloc_of ty51 rfl
theorem ty53 : tyOf Tryd.prog 53 = some ⟨.slice 3, 1, 24, .slice none 0 0, true⟩ := by kernel_rfl
@[go_sem] theorem kd53 : kind Tryd.prog 53 = some (.slice 3) := by simp only [kind, ty53, Option.map_some]
@[go_sem] theorem un53 : Tryd.prog.underlying 53 = some (.slice 3) := by kernel_rfl
@[go_sem] theorem ld53 (H : AHeap) (l i j : Nat) : loadA Tryd.prog H 53 (.pointer (some ⟨l, i, some j⟩)) = ldO false 1 (H.obj l) i j := load_ptr ty53
@[go_sem] theorem li53 (H : AHeap) (cs : List Value) (j : Nat) : loadA Tryd.prog H 53 (inp cs j) = cut false cs j 1 := load_inp ty53
@[go_sem] theorem st53 (H : AHeap) (l i j : Nat) (v : Value) : storeA Tryd.prog H 53 v (.pointer (some ⟨l, i, some j⟩)) = stO 1 H l i j v.cells.toList (H.obj l) := store_ptr ty53
@[go_sem] theorem bx53 (H : AHeap) (v : Value) : boxA Tryd.prog H 53 v = bxO 1 H v.cells.toList := box_of ty53
@[go_sem] theorem al53 (H : AHeap) : allocA Tryd.prog H 53 = bxO 1 H [.slice none 0 0] := alloc_of ty53 rfl
theorem ty57 : tyOf Tryd.prog 57 = some ⟨.pointer 60, 1, 8, .pointer none, true⟩ := by kernel_rfl
@[go_sem] theorem kd57 : kind Tryd.prog 57 = some (.pointer 60) := by simp only [kind, ty57, Option.map_some]
@[go_sem] theorem ld57 (H : AHeap) (l i j : Nat) : loadA Tryd.prog H 57 (.pointer (some ⟨l, i, some j⟩)) = ldO false 1 (H.obj l) i j := load_ptr ty57
@[go_sem] theorem li57 (H : AHeap) (cs : List Value) (j : Nat) : loadA Tryd.prog H 57 (inp cs j) = cut false cs j 1 := load_inp ty57
@[go_sem] theorem st57 (H : AHeap) (l i j : Nat) (v : Value) : storeA Tryd.prog H 57 v (.pointer (some ⟨l, i, some j⟩)) = stO 1 H l i j v.cells.toList (H.obj l) := store_ptr ty57
@[go_sem] theorem bx57 (H : AHeap) (v : Value) : boxA Tryd.prog H 57 v = bxO 1 H v.cells.toList := box_of ty57
@[go_sem] theorem al57 (H : AHeap) : allocA Tryd.prog H 57 = bxO 1 H [.pointer none] := alloc_of ty57 rfl
theorem ty59 : tyOf Tryd.prog 59 = some ⟨.struct [(0, 51, true), (1, 4, true)], 2, 32, .agg [.slice none 0 0, .bool false].toArray, true⟩ := by kernel_rfl
@[go_sem] theorem kd59 : kind Tryd.prog 59 = some (.struct [(0, 51, true), (1, 4, true)]) := by simp only [kind, ty59, Option.map_some]
@[go_sem] theorem ld59 (H : AHeap) (l i j : Nat) : loadA Tryd.prog H 59 (.pointer (some ⟨l, i, some j⟩)) = ldO true 2 (H.obj l) i j := load_ptr ty59
@[go_sem] theorem li59 (H : AHeap) (cs : List Value) (j : Nat) : loadA Tryd.prog H 59 (inp cs j) = cut true cs j 2 := load_inp ty59
@[go_sem] theorem st59 (H : AHeap) (l i j : Nat) (v : Value) : storeA Tryd.prog H 59 v (.pointer (some ⟨l, i, some j⟩)) = stO 2 H l i j v.cells.toList (H.obj l) := store_ptr ty59
@[go_sem] theorem bx59 (H : AHeap) (v : Value) : boxA Tryd.prog H 59 v = bxO 2 H v.cells.toList := box_of ty59
@[go_sem] theorem al59 (H : AHeap) : allocA Tryd.prog H 59 = bxO 2 H [.slice none 0 0, .bool false] := alloc_of ty59 rfl
@[go_sem] theorem fa59_0 (l i j : Nat) : fieldA Tryd.prog 59 0 (.pointer (some ⟨l, i, some j⟩)) = some (.pointer (some ⟨l, i, some (j + 0)⟩)) := fieldA_ptr kd59 rfl
@[go_sem] theorem fi59_0 (cs : List Value) (j : Nat) : fieldA Tryd.prog 59 0 (inp cs j) = some (inp cs (j + 0)) := fieldA_inp kd59 rfl
@[go_sem] theorem fa59_1 (l i j : Nat) : fieldA Tryd.prog 59 1 (.pointer (some ⟨l, i, some j⟩)) = some (.pointer (some ⟨l, i, some (j + 1)⟩)) := fieldA_ptr kd59 rfl
@[go_sem] theorem fi59_1 (cs : List Value) (j : Nat) : fieldA Tryd.prog 59 1 (inp cs j) = some (inp cs (j + 1)) := fieldA_inp kd59 rfl
theorem ty60 : tyOf Tryd.prog 60 = some ⟨.struct [(0, 51, true), (1, 4, true)], 2, 32, .agg [.slice none 0 0, .bool false].toArray, true⟩ := by kernel_rfl
@[go_sem] theorem kd60 : kind Tryd.prog 60 = some (.struct [(0, 51, true), (1, 4, true)]) := by simp only [kind, ty60, Option.map_some]
@[go_sem] theorem ld60 (H : AHeap) (l i j : Nat) : loadA Tryd.prog H 60 (.pointer (some ⟨l, i, some j⟩)) = ldO true 2 (H.obj l) i j := load_ptr ty60
@[go_sem] theorem li60 (H : AHeap) (cs : List Value) (j : Nat) : loadA Tryd.prog H 60 (inp cs j) = cut true cs j 2 := load_inp ty60
@[go_sem] theorem st60 (H : AHeap) (l i j : Nat) (v : Value) : storeA Tryd.prog H 60 v (.pointer (some ⟨l, i, some j⟩)) = stO 2 H l i j v.cells.toList (H.obj l) := store_ptr ty60
@[go_sem] theorem bx60 (H : AHeap) (v : Value) : boxA Tryd.prog H 60 v = bxO 2 H v.cells.toList := box_of ty60
@[go_sem] theorem al60 (H : AHeap) : allocA Tryd.prog H 60 = bxO 2 H [.slice none 0 0, .bool false] := alloc_of ty60 rfl
@[go_sem] theorem fa60_0 (l i j : Nat) : fieldA Tryd.prog 60 0 (.pointer (some ⟨l, i, some j⟩)) = some (.pointer (some ⟨l, i, some (j + 0)⟩)) := fieldA_ptr kd60 rfl
@[go_sem] theorem fi60_0 (cs : List Value) (j : Nat) : fieldA Tryd.prog 60 0 (inp cs j) = some (inp cs (j + 0)) := fieldA_inp kd60 rfl
@[go_sem] theorem fa60_1 (l i j : Nat) : fieldA Tryd.prog 60 1 (.pointer (some ⟨l, i, some j⟩)) = some (.pointer (some ⟨l, i, some (j + 1)⟩)) := fieldA_ptr kd60 rfl
@[go_sem] theorem fi60_1 (cs : List Value) (j : Nat) : fieldA Tryd.prog 60 1 (inp cs j) = some (inp cs (j + 1)) := fieldA_inp kd60 rfl
theorem ty64 : tyOf Tryd.prog 64 = some ⟨.map 3 31, 1, 8, .map none, true⟩ := by kernel_rfl
@[go_sem] theorem kd64 : kind Tryd.prog 64 = some (.map 3 31) := by simp only [kind, ty64, Option.map_some]
@[go_sem] theorem ld64 (H : AHeap) (l i j : Nat) : loadA Tryd.prog H 64 (.pointer (some ⟨l, i, some j⟩)) = ldO false 1 (H.obj l) i j := load_ptr ty64
@[go_sem] theorem li64 (H : AHeap) (cs : List Value) (j : Nat) : loadA Tryd.prog H 64 (inp cs j) = cut false cs j 1 := load_inp ty64
@[go_sem] theorem st64 (H : AHeap) (l i j : Nat) (v : Value) : storeA Tryd.prog H 64 v (.pointer (some ⟨l, i, some j⟩)) = stO 1 H l i j v.cells.toList (H.obj l) := store_ptr ty64
@[go_sem] theorem bx64 (H : AHeap) (v : Value) : boxA Tryd.prog H 64 v = bxO 1 H v.cells.toList := box_of ty64
@[go_sem] theorem al64 (H : AHeap) : allocA Tryd.prog H 64 = bxO 1 H [.map none] := alloc_of ty64 rfl
theorem ty65 : tyOf Tryd.prog 65 = some ⟨.map 3 3, 1, 8, .map none, true⟩ := by kernel_rfl
@[go_sem] theorem kd65 : kind Tryd.prog 65 = some (.map 3 3) := by simp only [kind, ty65, Option.map_some]
@[go_sem] theorem ld65 (H : AHeap) (l i j : Nat) : loadA Tryd.prog H 65 (.pointer (some ⟨l, i, some j⟩)) = ldO false 1 (H.obj l) i j := load_ptr ty65
@[go_sem] theorem li65 (H : AHeap) (cs : List Value) (j : Nat) : loadA Tryd.prog H 65 (inp cs j) = cut false cs j 1 := load_inp ty65
@[go_sem] theorem st65 (H : AHeap) (l i j : Nat) (v : Value) : storeA Tryd.prog H 65 v (.pointer (some ⟨l, i, some j⟩)) = stO 1 H l i j v.cells.toList (H.obj l) := store_ptr ty65
@[go_sem] theorem bx65 (H : AHeap) (v : Value) : boxA Tryd.prog H 65 v = bxO 1 H v.cells.toList := box_of ty65
@[go_sem] theorem al65 (H : AHeap) : allocA Tryd.prog H 65 = bxO 1 H [.map none] := alloc_of ty65 rfl
theorem ty68 : tyOf Tryd.prog 68 = some ⟨.pointer 5, 1, 8, .pointer none, true⟩ := by kernel_rfl
@[go_sem] theorem kd68 : kind Tryd.prog 68 = some (.pointer 5) := by simp only [kind, ty68, Option.map_some]
@[go_sem] theorem ld68 (H : AHeap) (l i j : Nat) : loadA Tryd.prog H 68 (.pointer (some ⟨l, i, some j⟩)) = ldO false 1 (H.obj l) i j := load_ptr ty68
@[go_sem] theorem li68 (H : AHeap) (cs : List Value) (j : Nat) : loadA Tryd.prog H 68 (inp cs j) = cut false cs j 1 := load_inp ty68
@[go_sem] theorem st68 (H : AHeap) (l i j : Nat) (v : Value) : storeA Tryd.prog H 68 v (.pointer (some ⟨l, i, some j⟩)) = stO 1 H l i j v.cells.toList (H.obj l) := store_ptr ty68
@[go_sem] theorem bx68 (H : AHeap) (v : Value) : boxA Tryd.prog H 68 v = bxO 1 H v.cells.toList := box_of ty68
@[go_sem] theorem al68 (H : AHeap) : allocA Tryd.prog H 68 = bxO 1 H [.pointer none] := alloc_of ty68 rfl
theorem ty91 : tyOf Tryd.prog 91 = some ⟨.int .u64, 1, 8, .int .u64 0, true⟩ := by kernel_rfl
@[go_sem] theorem kd91 : kind Tryd.prog 91 = some (.int .u64) := by simp only [kind, ty91, Option.map_some]
@[go_sem] theorem un91 : Tryd.prog.underlying 91 = some (.int .u64) := by kernel_rfl
@[go_sem] theorem ld91 (H : AHeap) (l i j : Nat) : loadA Tryd.prog H 91 (.pointer (some ⟨l, i, some j⟩)) = ldO false 1 (H.obj l) i j := load_ptr ty91
@[go_sem] theorem li91 (H : AHeap) (cs : List Value) (j : Nat) : loadA Tryd.prog H 91 (inp cs j) = cut false cs j 1 := load_inp ty91
@[go_sem] theorem st91 (H : AHeap) (l i j : Nat) (v : Value) : storeA Tryd.prog H 91 v (.pointer (some ⟨l, i, some j⟩)) = stO 1 H l i j v.cells.toList (H.obj l) := store_ptr ty91
@[go_sem] theorem bx91 (H : AHeap) (v : Value) : boxA Tryd.prog H 91 v = bxO 1 H v.cells.toList := box_of ty91
@[go_sem] theorem al91 (H : AHeap) : allocA Tryd.prog H 91 = bxO 1 H [.int .u64 0] := alloc_of ty91 rfl
theorem ty101 : tyOf Tryd.prog 101 = some ⟨.array 24 5, 24, 24, .agg [.int .u8 0, .int .u8 0, .int .u8 0, .int .u8 0, .int .u8 0, .int .u8 0, .int .u8 0, .int .u8 0, .int .u8 0, .int .u8 0, .int .u8 0, .int .u8 0, .int .u8 0, .int .u8 0, .int .u8 0, .int .u8 0, .int .u8 0, .int .u8 0, .int .u8 0, .int .u8 0, .int .u8 0, .int .u8 0, .int .u8 0, .int .u8 0].toArray, true⟩ := by kernel_rfl
@[go_sem] theorem kd101 : kind Tryd.prog 101 = some (.array 24 5) := by simp only [kind, ty101, Option.map_some]
@[go_sem] theorem ld101 (H : AHeap) (l i j : Nat) : loadA Tryd.prog H 101 (.pointer (some ⟨l, i, some j⟩)) = ldO true 24 (H.obj l) i j := load_ptr ty101
@[go_sem] theorem li101 (H : AHeap) (cs : List Value) (j : Nat) : loadA Tryd.prog H 101 (inp cs j) = cut true cs j 24 := load_inp ty101
@[go_sem] theorem st101 (H : AHeap) (l i j : Nat) (v : Value) : storeA Tryd.prog H 101 v (.pointer (some ⟨l, i, some j⟩)) = stO 24 H l i j v.cells.toList (H.obj l) := store_ptr ty101
@[go_sem] theorem bx101 (H : AHeap) (v : Value) : boxA Tryd.prog H 101 v = bxO 24 H v.cells.toList := box_of ty101
@[go_sem] theorem al101 (H : AHeap) : allocA Tryd.prog H 101 = bxO 24 H [.int .u8 0, .int .u8 0, .int .u8 0, .int .u8 0, .int .u8 0, .int .u8 0, .int .u8 0, .int .u8 0, .int .u8 0, .int .u8 0, .int .u8 0, .int .u8 0, .int .u8 0, .int .u8 0, .int .u8 0, .int .u8 0, .int .u8 0, .int .u8 0, .int .u8 0, .int .u8 0, .int .u8 0, .int .u8 0, .int .u8 0, .int .u8 0] := alloc_of ty101 rfl
theorem ty102 : tyOf Tryd.prog 102 = some ⟨.int .u64, 1, 8, .int .u64 0, true⟩ := by kernel_rfl
@[go_sem] theorem kd102 : kind Tryd.prog 102 = some (.int .u64) := by simp only [kind, ty102, Option.map_some]
@[go_sem] theorem un102 : Tryd.prog.underlying 102 = some (.int .u64) := by kernel_rfl
@[go_sem] theorem ld102 (H : AHeap) (l i j : Nat) : loadA Tryd.prog H 102 (.pointer (some ⟨l, i, some j⟩)) = ldO false 1 (H.obj l) i j := load_ptr ty102
@[go_sem] theorem li102 (H : AHeap) (cs : List Value) (j : Nat) : loadA Tryd.prog H 102 (inp cs j) = cut false cs j 1 := load_inp ty102
@[go_sem] theorem st102 (H : AHeap) (l i j : Nat) (v : Value) : storeA Tryd.prog H 102 v (.pointer (some ⟨l, i, some j⟩)) = stO 1 H l i j v.cells.toList (H.obj l) := store_ptr ty102
@[go_sem] theorem bx102 (H : AHeap) (v : Value) : boxA Tryd.prog H 102 v = bxO 1 H v.cells.toList := box_of ty102
@[go_sem] theorem al102 (H : AHeap) : allocA Tryd.prog H 102 = bxO 1 H [.int .u64 0] := alloc_of ty102 rfl
theorem ty108 : tyOf Tryd.prog 108 = some ⟨.struct [(0, 5, true), (1, 5, true)], 2, 2, .agg [.int .u8 0, .int .u8 0].toArray, true⟩ := by kernel_rfl
@[go_sem] theorem kd108 : kind Tryd.prog 108 = some (.struct [(0, 5, true), (1, 5, true)]) := by simp only [kind, ty108, Option.map_some]
@[go_sem] theorem ld108 (H : AHeap) (l i j : Nat) : loadA Tryd.prog H 108 (.pointer (some ⟨l, i, some j⟩)) = ldO true 2 (H.obj l) i j := load_ptr ty108
@[go_sem] theorem li108 (H : AHeap) (cs : List Value) (j : Nat) : loadA Tryd.prog H 108 (inp cs j) = cut true cs j 2 := load_inp ty108
@[go_sem] theorem st108 (H : AHeap) (l i j : Nat) (v : Value) : storeA Tryd.prog H 108 v (.pointer (some ⟨l, i, some j⟩)) = stO 2 H l i j v.cells.toList (H.obj l) := store_ptr ty108
@[go_sem] theorem bx108 (H : AHeap) (v : Value) : boxA Tryd.prog H 108 v = bxO 2 H v.cells.toList := box_of ty108
@[go_sem] theorem al108 (H : AHeap) : allocA Tryd.prog H 108 = bxO 2 H [.int .u8 0, .int .u8 0] := alloc_of ty108 rfl
@[go_sem] theorem fa108_0 (l i j : Nat) : fieldA Tryd.prog 108 0 (.pointer (some ⟨l, i, some j⟩)) = some (.pointer (some ⟨l, i, some (j + 0)⟩)) := fieldA_ptr kd108 rfl
@[go_sem] theorem fi108_0 (cs : List Value) (j : Nat) : fieldA Tryd.prog 108 0 (inp cs j) = some (inp cs (j + 0)) := fieldA_inp kd108 rfl
@[go_sem] theorem fa108_1 (l i j : Nat) : fieldA Tryd.prog 108 1 (.pointer (some ⟨l, i, some j⟩)) = some (.pointer (some ⟨l, i, some (j + 1)⟩)) := fieldA_ptr kd108 rfl
@[go_sem] theorem fi108_1 (cs : List Value) (j : Nat) : fieldA Tryd.prog 108 1 (inp cs j) = some (inp cs (j + 1)) := fieldA_inp kd108 rfl
theorem ty111 : tyOf Tryd.prog 111 = some ⟨.int .u32, 1, 4, .int .u32 0, true⟩ := by kernel_rfl
@[go_sem] theorem kd111 : kind Tryd.prog 111 = some (.int .u32) := by simp only [kind, ty111, Option.map_some]
@[go_sem] theorem un111 : Tryd.prog.underlying 111 = some (.int .u32) := by kernel_rfl
@[go_sem] theorem ld111 (H : AHeap) (l i j : Nat) : loadA Tryd.prog H 111 (.pointer (some ⟨l, i, some j⟩)) = ldO false 1 (H.obj l) i j := load_ptr ty111
@[go_sem] theorem li111 (H : AHeap) (cs : List Value) (j : Nat) : loadA Tryd.prog H 111 (inp cs j) = cut false cs j 1 := load_inp ty111
@[go_sem] theorem st111 (H : AHeap) (l i j : Nat) (v : Value) : storeA Tryd.prog H 111 v (.pointer (some ⟨l, i, some j⟩)) = stO 1 H l i j v.cells.toList (H.obj l) := store_ptr ty111
@[go_sem] theorem bx111 (H : AHeap) (v : Value) : boxA Tryd.prog H 111 v = bxO 1 H v.cells.toList := box_of ty111
@[go_sem] theorem al111 (H : AHeap) : allocA Tryd.prog H 111 = bxO 1 H [.int .u32 0] := alloc_of ty111 rfl
theorem ty116 : tyOf Tryd.prog 116 = some ⟨.struct [(0, 9, true), (1, 9, true), (2, 46, true)], 3, 48, .agg [.string ⟨#[]⟩, .string ⟨#[]⟩, .nilIface].toArray, true⟩ := by kernel_rfl
@[go_sem] theorem kd116 : kind Tryd.prog 116 = some (.struct [(0, 9, true), (1, 9, true), (2, 46, true)]) := by simp only [kind, ty116, Option.map_some]
@[go_sem] theorem ld116 (H : AHeap) (l i j : Nat) : loadA Tryd.prog H 116 (.pointer (some ⟨l, i, some j⟩)) = ldO true 3 (H.obj l) i j := load_ptr ty116
@[go_sem] theorem li116 (H : AHeap) (cs : List Value) (j : Nat) : loadA Tryd.prog H 116 (inp cs j) = cut true cs j 3 := load_inp ty116
@[go_sem] theorem st116 (H : AHeap) (l i j : Nat) (v : Value) : storeA Tryd.prog H 116 v (.pointer (some ⟨l, i, some j⟩)) = stO 3 H l i j v.cells.toList (H.obj l) := store_ptr ty116
@[go_sem] theorem bx116 (H : AHeap) (v : Value) : boxA Tryd.prog H 116 v = bxO 3 H v.cells.toList := box_of ty116
@[go_sem] theorem al116 (H : AHeap) : allocA Tryd.prog H 116 = bxO 3 H [.string ⟨#[]⟩, .string ⟨#[]⟩, .nilIface] := alloc_of ty116 rfl
@[go_sem] theorem fa116_0 (l i j : Nat) : fieldA Tryd.prog 116 0 (.pointer (some ⟨l, i, some j⟩)) = some (.pointer (some ⟨l, i, some (j + 0)⟩)) := fieldA_ptr kd116 rfl
@[go_sem] theorem fi116_0 (cs : List Value) (j : Nat) : fieldA Tryd.prog 116 0 (inp cs j) = some (inp cs (j + 0)) := fieldA_inp kd116 rfl
@[go_sem] theorem fa116_1 (l i j : Nat) : fieldA Tryd.prog 116 1 (.pointer (some ⟨l, i, some j⟩)) = some (.pointer (some ⟨l, i, some (j + 1)⟩)) := fieldA_ptr kd116 rfl
@[go_sem] theorem fi116_1 (cs : List Value) (j : Nat) : fieldA Tryd.prog 116 1 (inp cs j) = some (inp cs (j + 1)) := fieldA_inp kd116 rfl
@[go_sem] theorem fa116_2 (l i j : Nat) : fieldA Tryd.prog 116 2 (.pointer (some ⟨l, i, some j⟩)) = some (.pointer (some ⟨l, i, some (j + 2)⟩)) := fieldA_ptr kd116 rfl
@[go_sem] theorem fi116_2 (cs : List Value) (j : Nat) : fieldA Tryd.prog 116 2 (inp cs j) = some (inp cs (j + 2)) := fieldA_inp kd116 rfl
theorem ty120 : tyOf Tryd.prog 120 = some ⟨.array 20 102, 20, 160, .agg [.int .u64 0, .int .u64 0, .int .u64 0, .int .u64 0, .int .u64 0, .int .u64 0, .int .u64 0, .int .u64 0, .int .u64 0, .int .u64 0, .int .u64 0, .int .u64 0, .int .u64 0, .int .u64 0, .int .u64 0, .int .u64 0, .int .u64 0, .int .u64 0, .int .u64 0, .int .u64 0].toArray, true⟩ := by kernel_rfl
@[go_sem] theorem kd120 : kind Tryd.prog 120 = some (.array 20 102) := by simp only [kind, ty120, Option.map_some]
@[go_sem] theorem ld120 (H : AHeap) (l i j : Nat) : loadA Tryd.prog H 120 (.pointer (some ⟨l, i, some j⟩)) = ldO true 20 (H.obj l) i j := load_ptr ty120
@[go_sem] theorem li120 (H : AHeap) (cs : List Value) (j : Nat) : loadA Tryd.prog H 120 (inp cs j) = cut true cs j 20 := load_inp ty120
@[go_sem] theorem st120 (H : AHeap) (l i j : Nat) (v : Value) : storeA Tryd.prog H 120 v (.pointer (some ⟨l, i, some j⟩)) = stO 20 H l i j v.cells.toList (H.obj l) := store_ptr ty120
@[go_sem] theorem bx120 (H : AHeap) (v : Value) : boxA Tryd.prog H 120 v = bxO 20 H v.cells.toList := box_of ty120
@[go_sem] theorem al120 (H : AHeap) : allocA Tryd.prog H 120 = bxO 20 H [.int .u64 0, .int .u64 0, .int .u64 0, .int .u64 0, .int .u64 0, .int .u64 0, .int .u64 0, .int .u64 0, .int .u64 0, .int .u64 0, .int .u64 0, .int .u64 0, .int .u64 0, .int .u64 0, .int .u64 0, .int .u64 0, .int .u64 0, .int .u64 0, .int .u64 0, .int .u64 0] := alloc_of ty120 rfl
theorem ty121 : tyOf Tryd.prog 121 = some ⟨.array 65 5, 65, 65, .agg [.int .u8 0, .int .u8 0, .int .u8 0, .int .u8 0, .int .u8 0, .int .u8 0, .int .u8 0, .int .u8 0, .int .u8 0, .int .u8 0, .int .u8 0, .int .u8 0, .int .u8 0, .int .u8 0, .int .u8 0, .int .u8 0, .int .u8 0, .int .u8 0, .int .u8 0, .int .u8 0, .int .u8 0, .int .u8 0, .int .u8 0, .int .u8 0, .int .u8 0, .int .u8 0, .int .u8 0, .int .u8 0, .int .u8 0, .int .u8 0, .int .u8 0, .int .u8 0, .int .u8 0, .int .u8 0, .int .u8 0, .int .u8 0, .int .u8 0, .int .u8 0, .int .u8 0, .int .u8 0, .int .u8 0, .int .u8 0, .int .u8 0, .int .u8 0, .int .u8 0, .int .u8 0, .int .u8 0, .int .u8 0, .int .u8 0, .int .u8 0, .int .u8 0, .int .u8 0, .int .u8 0, .int .u8 0, .int .u8 0, .int .u8 0, .int .u8 0, .int .u8 0, .int .u8 0, .int .u8 0, .int .u8 0, .int .u8 0, .int .u8 0, .int .u8 0, .int .u8 0].toArray, true⟩ := by kernel_rfl
@[go_sem] theorem kd121 : kind Tryd.prog 121 = some (.array 65 5) := by simp only [kind, ty121, Option.map_some]
@[go_sem] theorem ld121 (H : AHeap) (l i j : Nat) : loadA Tryd.prog H 121 (.pointer (some ⟨l, i, some j⟩)) = ldO true 65 (H.obj l) i j := load_ptr ty121
@[go_sem] theorem li121 (H : AHeap) (cs : List Value) (j : Nat) : loadA Tryd.prog H 121 (inp cs j) = cut true cs j 65 := load_inp ty121
@[go_sem] theorem st121 (H : AHeap) (l i j : Nat) (v : Value) : storeA Tryd.prog H 121 v (.pointer (some ⟨l, i, some j⟩)) = stO 65 H l i j v.cells.toList (H.obj l) := store_ptr ty121
@[go_sem] theorem bx121 (H : AHeap) (v : Value) : boxA Tryd.prog H 121 v = bxO 65 H v.cells.toList := box_of ty121
@[go_sem] theorem al121 (H : AHeap) : allocA Tryd.prog H 121 = bxO 65 H [.int .u8 0, .int .u8 0, .int .u8 0, .int .u8 0, .int .u8 0, .int .u8 0, .int .u8 0, .int .u8 0, .int .u8 0, .int .u8 0, .int .u8 0, .int .u8 0, .int .u8 0, .int .u8 0, .int .u8 0, .int .u8 0, .int .u8 0, .int .u8 0, .int .u8 0, .int .u8 0, .int .u8 0, .int .u8 0, .int .u8 0, .int .u8 0, .int .u8 0, .int .u8 0, .int .u8 0, .int .u8 0, .int .u8 0, .int .u8 0, .int .u8 0, .int .u8 0, .int .u8 0, .int .u8 0, .int .u8 0, .int .u8 0, .int .u8 0, .int .u8 0, .int .u8 0, .int .u8 0, .int .u8 0, .int .u8 0, .int .u8 0, .int .u8 0, .int .u8 0, .int .u8 0, .int .u8 0, .int .u8 0, .int .u8 0, .int .u8 0, .int .u8 0, .int .u8 0, .int .u8 0, .int .u8 0, .int .u8 0, .int .u8 0, .int .u8 0, .int .u8 0, .int .u8 0, .int .u8 0, .int .u8 0, .int .u8 0, .int .u8 0, .int .u8 0, .int .u8 0] := alloc_of ty121 rfl
theorem ty126 : tyOf Tryd.prog 126 = some ⟨.struct [(0, 9, true)], 1, 16, .agg [.string ⟨#[]⟩].toArray, true⟩ := by kernel_rfl
@[go_sem] theorem kd126 : kind Tryd.prog 126 = some (.struct [(0, 9, true)]) := by simp only [kind, ty126, Option.map_some]
@[go_sem] theorem ld126 (H : AHeap) (l i j : Nat) : loadA Tryd.prog H 126 (.pointer (some ⟨l, i, some j⟩)) = ldO true 1 (H.obj l) i j := load_ptr ty126
@[go_sem] theorem li126 (H : AHeap) (cs : List Value) (j : Nat) : loadA Tryd.prog H 126 (inp cs j) = cut true cs j 1 := load_inp ty126
@[go_sem] theorem st126 (H : AHeap) (l i j : Nat) (v : Value) : storeA Tryd.prog H 126 v (.pointer (some ⟨l, i, some j⟩)) = stO 1 H l i j v.cells.toList (H.obj l) := store_ptr ty126
@[go_sem] theorem bx126 (H : AHeap) (v : Value) : boxA Tryd.prog H 126 v = bxO 1 H v.cells.toList := box_of ty126
@[go_sem] theorem al126 (H : AHeap) : allocA Tryd.prog H 126 = bxO 1 H [.string ⟨#[]⟩] := alloc_of ty126 rfl
@[go_sem] theorem fa126_0 (l i j : Nat) : fieldA Tryd.prog 126 0 (.pointer (some ⟨l, i, some j⟩)) = some (.pointer (some ⟨l, i, some (j + 0)⟩)) := fieldA_ptr kd126 rfl
@[go_sem] theorem fi126_0 (cs : List Value) (j : Nat) : fieldA Tryd.prog 126 0 (inp cs j) = some (inp cs (j + 0)) := fieldA_inp kd126 rfl
theorem ty129 : tyOf Tryd.prog 129 = some ⟨.array 32 5, 32, 32, .agg [.int .u8 0, .int .u8 0, .int .u8 0, .int .u8 0, .int .u8 0, .int .u8 0, .int .u8 0, .int .u8 0, .int .u8 0, .int .u8 0, .int .u8 0, .int .u8 0, .int .u8 0, .int .u8 0, .int .u8 0, .int .u8 0, .int .u8 0, .int .u8 0, .int .u8 0, .int .u8 0, .int .u8 0, .int .u8 0, .int .u8 0, .int .u8 0, .int .u8 0, .int .u8 0, .int .u8 0, .int .u8 0, .int .u8 0, .int .u8 0, .int .u8 0, .int .u8 0].toArray, true⟩ := by kernel_rfl
@[go_sem] theorem kd129 : kind Tryd.prog 129 = some (.array 32 5) := by simp only [kind, ty129, Option.map_some]
@[go_sem] theorem ld129 (H : AHeap) (l i j : Nat) : loadA Tryd.prog H 129 (.pointer (some ⟨l, i, some j⟩)) = ldO true 32 (H.obj l) i j := load_ptr ty129
@[go_sem] theorem li129 (H : AHeap) (cs : List Value) (j : Nat) : loadA Tryd.prog H 129 (inp cs j) = cut true cs j 32 := load_inp ty129
@[go_sem] theorem st129 (H : AHeap) (l i j : Nat) (v : Value) : storeA Tryd.prog H 129 v (.pointer (some ⟨l, i, some j⟩)) = stO 32 H l i j v.cells.toList (H.obj l) := store_ptr ty129
@[go_sem] theorem bx129 (H : AHeap) (v : Value) : boxA Tryd.prog H 129 v = bxO 32 H v.cells.toList := box_of ty129
@[go_sem] theorem al129 (H : AHeap) : allocA Tryd.prog H 129 = bxO 32 H [.int .u8 0, .int .u8 0, .int .u8 0, .int .u8 0, .int .u8 0, .int .u8 0, .int .u8 0, .int .u8 0, .int .u8 0, .int .u8 0, .int .u8 0, .int .u8 0, .int .u8 0, .int .u8 0, .int .u8 0, .int .u8 0, .int .u8 0, .int .u8 0, .int .u8 0, .int .u8 0, .int .u8 0, .int .u8 0, .int .u8 0, .int .u8 0, .int .u8 0, .int .u8 0, .int .u8 0, .int .u8 0, .int .u8 0, .int .u8 0, .int .u8 0, .int .u8 0] := alloc_of ty129 rfl
theorem ty130 : tyOf Tryd.prog 130 = some ⟨.array 64 5, 64, 64, .agg [.int .u8 0, .int .u8 0, .int .u8 0, .int .u8 0, .int .u8 0, .int .u8 0, .int .u8 0, .int .u8 0, .int .u8 0, .int .u8 0, .int .u8 0, .int .u8 0, .int .u8 0, .int .u8 0, .int .u8 0, .int .u8 0, .int .u8 0, .int .u8 0, .int .u8 0, .int .u8 0, .int .u8 0, .int .u8 0, .int .u8 0, .int .u8 0, .int .u8 0, .int .u8 0, .int .u8 0, .int .u8 0, .int .u8 0, .int .u8 0, .int .u8 0, .int .u8 0, .int .u8 0, .int .u8 0, .int .u8 0, .int .u8 0, .int .u8 0, .int .u8 0, .int .u8 0, .int .u8 0, .int .u8 0, .int .u8 0, .int .u8 0, .int .u8 0, .int .u8 0, .int .u8 0, .int .u8 0, .int .u8 0, .int .u8 0, .int .u8 0, .int .u8 0, .int .u8 0, .int .u8 0, .int .u8 0, .int .u8 0, .int .u8 0, .int .u8 0, .int .u8 0, .int .u8 0, .int .u8 0, .int .u8 0, .int .u8 0, .int .u8 0, .int .u8 0].toArray, true⟩ := by kernel_rfl
@[go_sem] theorem kd130 : kind Tryd.prog 130 = some (.array 64 5) := by simp only [kind, ty130, Option.map_some]
@[go_sem] theorem ld130 (H : AHeap) (l i j : Nat) : loadA Tryd.prog H 130 (.pointer (some ⟨l, i, some j⟩)) = ldO true 64 (H.obj l) i j := load_ptr ty130
@[go_sem] theorem li130 (H : AHeap) (cs : List Value) (j : Nat) : loadA Tryd.prog H 130 (inp cs j) = cut true cs j 64 := load_inp ty130
@[go_sem] theorem st130 (H : AHeap) (l i j : Nat) (v : Value) : storeA Tryd.prog H 130 v (.pointer (some ⟨l, i, some j⟩)) = stO 64 H l i j v.cells.toList (H.obj l) := store_ptr ty130
@[go_sem] theorem bx130 (H : AHeap) (v : Value) : boxA Tryd.prog H 130 v = bxO 64 H v.cells.toList := box_of ty130
@[go_sem] theorem al130 (H : AHeap) : allocA Tryd.prog H 130 = bxO 64 H [.int .u8 0, .int .u8 0, .int .u8 0, .int .u8 0, .int .u8 0, .int .u8 0, .int .u8 0, .int .u8 0, .int .u8 0, .int .u8 0, .int .u8 0, .int .u8 0, .int .u8 0, .int .u8 0, .int .u8 0, .int .u8 0, .int .u8 0, .int .u8 0, .int .u8 0, .int .u8 0, .int .u8 0, .int .u8 0, .int .u8 0, .int .u8 0, .int .u8 0, .int .u8 0, .int .u8 0, .int .u8 0, .int .u8 0, .int .u8 0, .int .u8 0, .int .u8 0, .int .u8 0, .int .u8 0, .int .u8 0, .int .u8 0, .int .u8 0, .int .u8 0, .int .u8 0, .int .u8 0, .int .u8 0, .int .u8 0, .int .u8 0, .int .u8 0, .int .u8 0, .int .u8 0, .int .u8 0, .int .u8 0, .int .u8 0, .int .u8 0, .int .u8 0, .int .u8 0, .int .u8 0, .int .u8 0, .int .u8 0, .int .u8 0, .int .u8 0, .int .u8 0, .int .u8 0, .int .u8 0, .int .u8 0, .int .u8 0, .int .u8 0, .int .u8 0] := alloc_of ty130 rfl
@[go_sem] theorem fv13_0 (cs : List Value) : fieldV Tryd.prog 13 0 (.agg cs.toArray) = cut false cs 0 1 := fieldV_agg kd13 rfl ty9
@[go_sem] theorem fv13_1 (cs : List Value) : fieldV Tryd.prog 13 1 (.agg cs.toArray) = cut false cs 1 1 := fieldV_agg kd13 rfl ty12
@[go_sem] theorem bl13 (ps : List (Nat × Value)) : buildA Tryd.prog 13 ps = (fillA (fun i => ([(0, 1), (1, 1)] : List (Nat × Nat))[i]?) [.string ⟨#[]⟩, .int .u64 0] ps).map aggOf := build_struct ty13 rfl rfl (by simp only [placesA, ty9, ty12])
@[go_sem] theorem ix22 (H : AHeap) (c : Nat) (es : List (List Value)) (i : Int) : indexA Tryd.prog H 22 (inl 7 c es) i = ixI es i := ix_inl kd22 ty37 rfl
@[go_sem] theorem il22 (H : AHeap) (l o n c : Nat) (i : Int) : indexA Tryd.prog H 22 (.slice (some ⟨l, o, none⟩) n c) i = ixL 7 l o n i (H.obj l) := ix_loc kd22 ty37 rfl
@[go_sem] theorem si22a (H : AHeap) (c : Nat) (es : List (List Value)) (k : IntKind) (h : Int) : slA Tryd.prog H 22 (inl 7 c es) none (some (.int k h)) = slI 7 es (none) (some h) := sl_inl kd22 ty37 rfl rfl rfl
@[go_sem] theorem si22b (H : AHeap) (c : Nat) (es : List (List Value)) (k : IntKind) (l : Int) : slA Tryd.prog H 22 (inl 7 c es) (some (.int k l)) none = slI 7 es (some l) (none) := sl_inl kd22 ty37 rfl rfl rfl
@[go_sem] theorem si22c (H : AHeap) (c : Nat) (es : List (List Value)) (k k2 : IntKind) (l h : Int) : slA Tryd.prog H 22 (inl 7 c es) (some (.int k l)) (some (.int k2 h)) = slI 7 es (some l) (some h) := sl_inl kd22 ty37 rfl rfl rfl
@[go_sem] theorem si22d (H : AHeap) (c : Nat) (es : List (List Value))  : slA Tryd.prog H 22 (inl 7 c es) none none = slI 7 es (none) (none) := sl_inl kd22 ty37 rfl rfl rfl
@[go_sem] theorem ix26 (H : AHeap) (c : Nat) (es : List (List Value)) (i : Int) : indexA Tryd.prog H 26 (inl 7 c es) i = ixI es i := ix_inl kd26 ty31 rfl
@[go_sem] theorem il26 (H : AHeap) (l o n c : Nat) (i : Int) : indexA Tryd.prog H 26 (.slice (some ⟨l, o, none⟩) n c) i = ixL 7 l o n i (H.obj l) := ix_loc kd26 ty31 rfl
@[go_sem] theorem si26a (H : AHeap) (c : Nat) (es : List (List Value)) (k : IntKind) (h : Int) : slA Tryd.prog H 26 (inl 7 c es) none (some (.int k h)) = slI 7 es (none) (some h) := sl_inl kd26 ty31 rfl rfl rfl
@[go_sem] theorem si26b (H : AHeap) (c : Nat) (es : List (List Value)) (k : IntKind) (l : Int) : slA Tryd.prog H 26 (inl 7 c es) (some (.int k l)) none = slI 7 es (some l) (none) := sl_inl kd26 ty31 rfl rfl rfl
@[go_sem] theorem si26c (H : AHeap) (c : Nat) (es : List (List Value)) (k k2 : IntKind) (l h : Int) : slA Tryd.prog H 26 (inl 7 c es) (some (.int k l)) (some (.int k2 h)) = slI 7 es (some l) (some h) := sl_inl kd26 ty31 rfl rfl rfl
@[go_sem] theorem si26d (H : AHeap) (c : Nat) (es : List (List Value))  : slA Tryd.prog H 26 (inl 7 c es) none none = slI 7 es (none) (none) := sl_inl kd26 ty31 rfl rfl rfl
@[go_sem] theorem fv30_0 (cs : List Value) : fieldV Tryd.prog 30 0 (.agg cs.toArray) = cut false cs 0 1 := fieldV_agg kd30 rfl ty9
@[go_sem] theorem fv30_1 (cs : List Value) : fieldV Tryd.prog 30 1 (.agg cs.toArray) = cut false cs 1 1 := fieldV_agg kd30 rfl ty3
@[go_sem] theorem fv30_2 (cs : List Value) : fieldV Tryd.prog 30 2 (.agg cs.toArray) = cut false cs 2 1 := fieldV_agg kd30 rfl ty3
@[go_sem] theorem fv30_3 (cs : List Value) : fieldV Tryd.prog 30 3 (.agg cs.toArray) = cut false cs 3 1 := fieldV_agg kd30 rfl ty3
@[go_sem] theorem fv30_4 (cs : List Value) : fieldV Tryd.prog 30 4 (.agg cs.toArray) = cut false cs 4 1 := fieldV_agg kd30 rfl ty9
@[go_sem] theorem fv30_5 (cs : List Value) : fieldV Tryd.prog 30 5 (.agg cs.toArray) = cut false cs 5 1 := fieldV_agg kd30 rfl ty9
@[go_sem] theorem fv30_6 (cs : List Value) : fieldV Tryd.prog 30 6 (.agg cs.toArray) = cut false cs 6 1 := fieldV_agg kd30 rfl ty3
@[go_sem] theorem bl30 (ps : List (Nat × Value)) : buildA Tryd.prog 30 ps = (fillA (fun i => ([(0, 1), (1, 1), (2, 1), (3, 1), (4, 1), (5, 1), (6, 1)] : List (Nat × Nat))[i]?) [.string ⟨#[]⟩, .int .i64 0, .int .i64 0, .int .i64 0, .string ⟨#[]⟩, .string ⟨#[]⟩, .int .i64 0] ps).map aggOf := build_struct ty30 rfl rfl (by simp only [placesA, ty3, ty9])
@[go_sem] theorem fv31_0 (cs : List Value) : fieldV Tryd.prog 31 0 (.agg cs.toArray) = cut false cs 0 1 := fieldV_agg kd31 rfl ty9
@[go_sem] theorem fv31_1 (cs : List Value) : fieldV Tryd.prog 31 1 (.agg cs.toArray) = cut false cs 1 1 := fieldV_agg kd31 rfl ty3
@[go_sem] theorem fv31_2 (cs : List Value) : fieldV Tryd.prog 31 2 (.agg cs.toArray) = cut false cs 2 1 := fieldV_agg kd31 rfl ty3
@[go_sem] theorem fv31_3 (cs : List Value) : fieldV Tryd.prog 31 3 (.agg cs.toArray) = cut false cs 3 1 := fieldV_agg kd31 rfl ty3
@[go_sem] theorem fv31_4 (cs : List Value) : fieldV Tryd.prog 31 4 (.agg cs.toArray) = cut false cs 4 1 := fieldV_agg kd31 rfl ty9
@[go_sem] theorem fv31_5 (cs : List Value) : fieldV Tryd.prog 31 5 (.agg cs.toArray) = cut false cs 5 1 := fieldV_agg kd31 rfl ty9
@[go_sem] theorem fv31_6 (cs : List Value) : fieldV Tryd.prog 31 6 (.agg cs.toArray) = cut false cs 6 1 := fieldV_agg kd31 rfl ty3
@[go_sem] theorem bl31 (ps : List (Nat × Value)) : buildA Tryd.prog 31 ps = (fillA (fun i => ([(0, 1), (1, 1), (2, 1), (3, 1), (4, 1), (5, 1), (6, 1)] : List (Nat × Nat))[i]?) [.string ⟨#[]⟩, .int .i64 0, .int .i64 0, .int .i64 0, .string ⟨#[]⟩, .string ⟨#[]⟩, .int .i64 0] ps).map aggOf := build_struct ty31 rfl rfl (by simp only [placesA, ty3, ty9])
@[go_sem] theorem fv37_0 (cs : List Value) : fieldV Tryd.prog 37 0 (.agg cs.toArray) = cut false cs 0 1 := fieldV_agg kd37 rfl ty9
@[go_sem] theorem fv37_1 (cs : List Value) : fieldV Tryd.prog 37 1 (.agg cs.toArray) = cut false cs 1 1 := fieldV_agg kd37 rfl ty3
@[go_sem] theorem fv37_2 (cs : List Value) : fieldV Tryd.prog 37 2 (.agg cs.toArray) = cut false cs 2 1 := fieldV_agg kd37 rfl ty3
@[go_sem] theorem fv37_3 (cs : List Value) : fieldV Tryd.prog 37 3 (.agg cs.toArray) = cut false cs 3 1 := fieldV_agg kd37 rfl ty3
@[go_sem] theorem fv37_4 (cs : List Value) : fieldV Tryd.prog 37 4 (.agg cs.toArray) = cut false cs 4 1 := fieldV_agg kd37 rfl ty9
@[go_sem] theorem fv37_5 (cs : List Value) : fieldV Tryd.prog 37 5 (.agg cs.toArray) = cut false cs 5 1 := fieldV_agg kd37 rfl ty9
@[go_sem] theorem fv37_6 (cs : List Value) : fieldV Tryd.prog 37 6 (.agg cs.toArray) = cut false cs 6 1 := fieldV_agg kd37 rfl ty3
@[go_sem] theorem bl37 (ps : List (Nat × Value)) : buildA Tryd.prog 37 ps = (fillA (fun i => ([(0, 1), (1, 1), (2, 1), (3, 1), (4, 1), (5, 1), (6, 1)] : List (Nat × Nat))[i]?) [.string ⟨#[]⟩, .int .i64 0, .int .i64 0, .int .i64 0, .string ⟨#[]⟩, .string ⟨#[]⟩, .int .i64 0] ps).map aggOf := build_struct ty37 rfl rfl (by simp only [placesA, ty3, ty9])
@[go_sem] theorem ix42 (H : AHeap) (c : Nat) (es : List (List Value)) (i : Int) : indexA Tryd.prog H 42 (inl 1 c es) i = ixI es i := ix_inl kd42 ty5 rfl
@[go_sem] theorem il42 (H : AHeap) (l o n c : Nat) (i : Int) : indexA Tryd.prog H 42 (.slice (some ⟨l, o, none⟩) n c) i = ixL 1 l o n i (H.obj l) := ix_loc kd42 ty5 rfl
@[go_sem] theorem si42a (H : AHeap) (c : Nat) (es : List (List Value)) (k : IntKind) (h : Int) : slA Tryd.prog H 42 (inl 1 c es) none (some (.int k h)) = slI 1 es (none) (some h) := sl_inl kd42 ty5 rfl rfl rfl
@[go_sem] theorem si42b (H : AHeap) (c : Nat) (es : List (List Value)) (k : IntKind) (l : Int) : slA Tryd.prog H 42 (inl 1 c es) (some (.int k l)) none = slI 1 es (some l) (none) := sl_inl kd42 ty5 rfl rfl rfl
@[go_sem] theorem si42c (H : AHeap) (c : Nat) (es : List (List Value)) (k k2 : IntKind) (l h : Int) : slA Tryd.prog H 42 (inl 1 c es) (some (.int k l)) (some (.int k2 h)) = slI 1 es (some l) (some h) := sl_inl kd42 ty5 rfl rfl rfl
@[go_sem] theorem si42d (H : AHeap) (c : Nat) (es : List (List Value))  : slA Tryd.prog H 42 (inl 1 c es) none none = slI 1 es (none) (none) := sl_inl kd42 ty5 rfl rfl rfl
@[go_sem] theorem fv43_0 (cs : List Value) : fieldV Tryd.prog 43 0 (.agg cs.toArray) = cut false cs 0 1 := fieldV_agg kd43 rfl ty41
@[go_sem] theorem fv43_1 (cs : List Value) : fieldV Tryd.prog 43 1 (.agg cs.toArray) = cut false cs 1 1 := fieldV_agg kd43 rfl ty42
@[go_sem] theorem bl43 (ps : List (Nat × Value)) : buildA Tryd.prog 43 ps = (fillA (fun i => ([(0, 1), (1, 1)] : List (Nat × Nat))[i]?) [.pointer none, .slice none 0 0] ps).map aggOf := build_struct ty43 rfl rfl (by simp only [placesA, ty41, ty42])
@[go_sem] theorem fv44_0 (cs : List Value) : fieldV Tryd.prog 44 0 (.agg cs.toArray) = cut false cs 0 1 := fieldV_agg kd44 rfl ty41
@[go_sem] theorem fv44_1 (cs : List Value) : fieldV Tryd.prog 44 1 (.agg cs.toArray) = cut false cs 1 1 := fieldV_agg kd44 rfl ty42
@[go_sem] theorem bl44 (ps : List (Nat × Value)) : buildA Tryd.prog 44 ps = (fillA (fun i => ([(0, 1), (1, 1)] : List (Nat × Nat))[i]?) [.pointer none, .slice none 0 0] ps).map aggOf := build_struct ty44 rfl rfl (by simp only [placesA, ty41, ty42])
@[go_sem] theorem ix51 (H : AHeap) (c : Nat) (es : List (List Value)) (i : Int) : indexA Tryd.prog H 51 (inl 1 c es) i = ixI es i := ix_inl kd51 ty9 rfl
@[go_sem] theorem il51 (H : AHeap) (l o n c : Nat) (i : Int) : indexA Tryd.prog H 51 (.slice (some ⟨l, o, none⟩) n c) i = ixL 1 l o n i (H.obj l) := ix_loc kd51 ty9 rfl
@[go_sem] theorem si51a (H : AHeap) (c : Nat) (es : List (List Value)) (k : IntKind) (h : Int) : slA Tryd.prog H 51 (inl 1 c es) none (some (.int k h)) = slI 1 es (none) (some h) := sl_inl kd51 ty9 rfl rfl rfl
@[go_sem] theorem si51b (H : AHeap) (c : Nat) (es : List (List Value)) (k : IntKind) (l : Int) : slA Tryd.prog H 51 (inl 1 c es) (some (.int k l)) none = slI 1 es (some l) (none) := sl_inl kd51 ty9 rfl rfl rfl
@[go_sem] theorem si51c (H : AHeap) (c : Nat) (es : List (List Value)) (k k2 : IntKind) (l h : Int) : slA Tryd.prog H 51 (inl 1 c es) (some (.int k l)) (some (.int k2 h)) = slI 1 es (some l) (some h) := sl_inl kd51 ty9 rfl rfl rfl
@[go_sem] theorem si51d (H : AHeap) (c : Nat) (es : List (List Value))  : slA Tryd.prog H 51 (inl 1 c es) none none = slI 1 es (none) (none) := sl_inl kd51 ty9 rfl rfl rfl
@[go_sem] theorem ix53 (H : AHeap) (c : Nat) (es : List (List Value)) (i : Int) : indexA Tryd.prog H 53 (inl 1 c es) i = ixI es i := ix_inl kd53 ty3 rfl
@[go_sem] theorem il53 (H : AHeap) (l o n c : Nat) (i : Int) : indexA Tryd.prog H 53 (.slice (some ⟨l, o, none⟩) n c) i = ixL 1 l o n i (H.obj l) := ix_loc kd53 ty3 rfl
@[go_sem] theorem si53a (H : AHeap) (c : Nat) (es : List (List Value)) (k : IntKind) (h : Int) : slA Tryd.prog H 53 (inl 1 c es) none (some (.int k h)) = slI 1 es (none) (some h) := sl_inl kd53 ty3 rfl rfl rfl
@[go_sem] theorem si53b (H : AHeap) (c : Nat) (es : List (List Value)) (k : IntKind) (l : Int) : slA Tryd.prog H 53 (inl 1 c es) (some (.int k l)) none = slI 1 es (some l) (none) := sl_inl kd53 ty3 rfl rfl rfl
@[go_sem] theorem si53c (H : AHeap) (c : Nat) (es : List (List Value)) (k k2 : IntKind) (l h : Int) : slA Tryd.prog H 53 (inl 1 c es) (some (.int k l)) (some (.int k2 h)) = slI 1 es (some l) (some h) := sl_inl kd53 ty3 rfl rfl rfl
@[go_sem] theorem si53d (H : AHeap) (c : Nat) (es : List (List Value))  : slA Tryd.prog H 53 (inl 1 c es) none none = slI 1 es (none) (none) := sl_inl kd53 ty3 rfl rfl rfl
@[go_sem] theorem fv59_0 (cs : List Value) : fieldV Tryd.prog 59 0 (.agg cs.toArray) = cut false cs 0 1 := fieldV_agg kd59 rfl ty51
@[go_sem] theorem fv59_1 (cs : List Value) : fieldV Tryd.prog 59 1 (.agg cs.toArray) = cut false cs 1 1 := fieldV_agg kd59 rfl ty4
@[go_sem] theorem bl59 (ps : List (Nat × Value)) : buildA Tryd.prog 59 ps = (fillA (fun i => ([(0, 1), (1, 1)] : List (Nat × Nat))[i]?) [.slice none 0 0, .bool false] ps).map aggOf := build_struct ty59 rfl rfl (by simp only [placesA, ty4, ty51])
@[go_sem] theorem fv60_0 (cs : List Value) : fieldV Tryd.prog 60 0 (.agg cs.toArray) = cut false cs 0 1 := fieldV_agg kd60 rfl ty51
@[go_sem] theorem fv60_1 (cs : List Value) : fieldV Tryd.prog 60 1 (.agg cs.toArray) = cut false cs 1 1 := fieldV_agg kd60 rfl ty4
@[go_sem] theorem bl60 (ps : List (Nat × Value)) : buildA Tryd.prog 60 ps = (fillA (fun i => ([(0, 1), (1, 1)] : List (Nat × Nat))[i]?) [.slice none 0 0, .bool false] ps).map aggOf := build_struct ty60 rfl rfl (by simp only [placesA, ty4, ty51])
@[go_sem] theorem fv108_0 (cs : List Value) : fieldV Tryd.prog 108 0 (.agg cs.toArray) = cut false cs 0 1 := fieldV_agg kd108 rfl ty5
@[go_sem] theorem fv108_1 (cs : List Value) : fieldV Tryd.prog 108 1 (.agg cs.toArray) = cut false cs 1 1 := fieldV_agg kd108 rfl ty5
@[go_sem] theorem bl108 (ps : List (Nat × Value)) : buildA Tryd.prog 108 ps = (fillA (fun i => ([(0, 1), (1, 1)] : List (Nat × Nat))[i]?) [.int .u8 0, .int .u8 0] ps).map aggOf := build_struct ty108 rfl rfl (by simp only [placesA, ty5])
@[go_sem] theorem fv116_0 (cs : List Value) : fieldV Tryd.prog 116 0 (.agg cs.toArray) = cut false cs 0 1 := fieldV_agg kd116 rfl ty9
@[go_sem] theorem fv116_1 (cs : List Value) : fieldV Tryd.prog 116 1 (.agg cs.toArray) = cut false cs 1 1 := fieldV_agg kd116 rfl ty9
@[go_sem] theorem fv116_2 (cs : List Value) : fieldV Tryd.prog 116 2 (.agg cs.toArray) = cut false cs 2 1 := fieldV_agg kd116 rfl ty46
@[go_sem] theorem bl116 (ps : List (Nat × Value)) : buildA Tryd.prog 116 ps = (fillA (fun i => ([(0, 1), (1, 1), (2, 1)] : List (Nat × Nat))[i]?) [.string ⟨#[]⟩, .string ⟨#[]⟩, .nilIface] ps).map aggOf := build_struct ty116 rfl rfl (by simp only [placesA, ty9, ty46])
@[go_sem] theorem fv126_0 (cs : List Value) : fieldV Tryd.prog 126 0 (.agg cs.toArray) = cut false cs 0 1 := fieldV_agg kd126 rfl ty9
@[go_sem] theorem bl126 (ps : List (Nat × Value)) : buildA Tryd.prog 126 ps = (fillA (fun i => ([(0, 1)] : List (Nat × Nat))[i]?) [.string ⟨#[]⟩] ps).map aggOf := build_struct ty126 rfl rfl (by simp only [placesA, ty9])
@[go_sem] theorem cv2_2 (H : AHeap) (k : IntKind) (n : Int) : convA Tryd.prog H 2 2 (.int k n) = some (.int .i64 (IntKind.i64.wrap n), H) := convA_int kd2 kd2
@[go_sem] theorem cv2_3 (H : AHeap) (k : IntKind) (n : Int) : convA Tryd.prog H 2 3 (.int k n) = some (.int .i64 (IntKind.i64.wrap n), H) := convA_int kd2 kd3
@[go_sem] theorem cv2_5 (H : AHeap) (k : IntKind) (n : Int) : convA Tryd.prog H 2 5 (.int k n) = some (.int .u8 (IntKind.u8.wrap n), H) := convA_int kd2 kd5
@[go_sem] theorem cv2_12 (H : AHeap) (k : IntKind) (n : Int) : convA Tryd.prog H 2 12 (.int k n) = some (.int .u64 (IntKind.u64.wrap n), H) := convA_int kd2 kd12
@[go_sem] theorem cv2_21 (H : AHeap) (k : IntKind) (n : Int) : convA Tryd.prog H 2 21 (.int k n) = some (.int .i32 (IntKind.i32.wrap n), H) := convA_int kd2 kd21
@[go_sem] theorem cv2_91 (H : AHeap) (k : IntKind) (n : Int) : convA Tryd.prog H 2 91 (.int k n) = some (.int .u64 (IntKind.u64.wrap n), H) := convA_int kd2 kd91
@[go_sem] theorem cv2_102 (H : AHeap) (k : IntKind) (n : Int) : convA Tryd.prog H 2 102 (.int k n) = some (.int .u64 (IntKind.u64.wrap n), H) := convA_int kd2 kd102
@[go_sem] theorem cv2_111 (H : AHeap) (k : IntKind) (n : Int) : convA Tryd.prog H 2 111 (.int k n) = some (.int .u32 (IntKind.u32.wrap n), H) := convA_int kd2 kd111
@[go_sem] theorem cv3_2 (H : AHeap) (k : IntKind) (n : Int) : convA Tryd.prog H 3 2 (.int k n) = some (.int .i64 (IntKind.i64.wrap n), H) := convA_int kd3 kd2
@[go_sem] theorem cv3_3 (H : AHeap) (k : IntKind) (n : Int) : convA Tryd.prog H 3 3 (.int k n) = some (.int .i64 (IntKind.i64.wrap n), H) := convA_int kd3 kd3
@[go_sem] theorem cv3_5 (H : AHeap) (k : IntKind) (n : Int) : convA Tryd.prog H 3 5 (.int k n) = some (.int .u8 (IntKind.u8.wrap n), H) := convA_int kd3 kd5
@[go_sem] theorem cv3_12 (H : AHeap) (k : IntKind) (n : Int) : convA Tryd.prog H 3 12 (.int k n) = some (.int .u64 (IntKind.u64.wrap n), H) := convA_int kd3 kd12
@[go_sem] theorem cv3_21 (H : AHeap) (k : IntKind) (n : Int) : convA Tryd.prog H 3 21 (.int k n) = some (.int .i32 (IntKind.i32.wrap n), H) := convA_int kd3 kd21
@[go_sem] theorem cv3_91 (H : AHeap) (k : IntKind) (n : Int) : convA Tryd.prog H 3 91 (.int k n) = some (.int .u64 (IntKind.u64.wrap n), H) := convA_int kd3 kd91
@[go_sem] theorem cv3_102 (H : AHeap) (k : IntKind) (n : Int) : convA Tryd.prog H 3 102 (.int k n) = some (.int .u64 (IntKind.u64.wrap n), H) := convA_int kd3 kd102
@[go_sem] theorem cv3_111 (H : AHeap) (k : IntKind) (n : Int) : convA Tryd.prog H 3 111 (.int k n) = some (.int .u32 (IntKind.u32.wrap n), H) := convA_int kd3 kd111
@[go_sem] theorem cv5_2 (H : AHeap) (k : IntKind) (n : Int) : convA Tryd.prog H 5 2 (.int k n) = some (.int .i64 (IntKind.i64.wrap n), H) := convA_int kd5 kd2
@[go_sem] theorem cv5_3 (H : AHeap) (k : IntKind) (n : Int) : convA Tryd.prog H 5 3 (.int k n) = some (.int .i64 (IntKind.i64.wrap n), H) := convA_int kd5 kd3
@[go_sem] theorem cv5_5 (H : AHeap) (k : IntKind) (n : Int) : convA Tryd.prog H 5 5 (.int k n) = some (.int .u8 (IntKind.u8.wrap n), H) := convA_int kd5 kd5
@[go_sem] theorem cv5_12 (H : AHeap) (k : IntKind) (n : Int) : convA Tryd.prog H 5 12 (.int k n) = some (.int .u64 (IntKind.u64.wrap n), H) := convA_int kd5 kd12
@[go_sem] theorem cv5_21 (H : AHeap) (k : IntKind) (n : Int) : convA Tryd.prog H 5 21 (.int k n) = some (.int .i32 (IntKind.i32.wrap n), H) := convA_int kd5 kd21
@[go_sem] theorem cv5_91 (H : AHeap) (k : IntKind) (n : Int) : convA Tryd.prog H 5 91 (.int k n) = some (.int .u64 (IntKind.u64.wrap n), H) := convA_int kd5 kd91
@[go_sem] theorem cv5_102 (H : AHeap) (k : IntKind) (n : Int) : convA Tryd.prog H 5 102 (.int k n) = some (.int .u64 (IntKind.u64.wrap n), H) := convA_int kd5 kd102
@[go_sem] theorem cv5_111 (H : AHeap) (k : IntKind) (n : Int) : convA Tryd.prog H 5 111 (.int k n) = some (.int .u32 (IntKind.u32.wrap n), H) := convA_int kd5 kd111
@[go_sem] theorem cv12_2 (H : AHeap) (k : IntKind) (n : Int) : convA Tryd.prog H 12 2 (.int k n) = some (.int .i64 (IntKind.i64.wrap n), H) := convA_int kd12 kd2
@[go_sem] theorem cv12_3 (H : AHeap) (k : IntKind) (n : Int) : convA Tryd.prog H 12 3 (.int k n) = some (.int .i64 (IntKind.i64.wrap n), H) := convA_int kd12 kd3
@[go_sem] theorem cv12_5 (H : AHeap) (k : IntKind) (n : Int) : convA Tryd.prog H 12 5 (.int k n) = some (.int .u8 (IntKind.u8.wrap n), H) := convA_int kd12 kd5
@[go_sem] theorem cv12_12 (H : AHeap) (k : IntKind) (n : Int) : convA Tryd.prog H 12 12 (.int k n) = some (.int .u64 (IntKind.u64.wrap n), H) := convA_int kd12 kd12
@[go_sem] theorem cv12_21 (H : AHeap) (k : IntKind) (n : Int) : convA Tryd.prog H 12 21 (.int k n) = some (.int .i32 (IntKind.i32.wrap n), H) := convA_int kd12 kd21
@[go_sem] theorem cv12_91 (H : AHeap) (k : IntKind) (n : Int) : convA Tryd.prog H 12 91 (.int k n) = some (.int .u64 (IntKind.u64.wrap n), H) := convA_int kd12 kd91
@[go_sem] theorem cv12_102 (H : AHeap) (k : IntKind) (n : Int) : convA Tryd.prog H 12 102 (.int k n) = some (.int .u64 (IntKind.u64.wrap n), H) := convA_int kd12 kd102
@[go_sem] theorem cv12_111 (H : AHeap) (k : IntKind) (n : Int) : convA Tryd.prog H 12 111 (.int k n) = some (.int .u32 (IntKind.u32.wrap n), H) := convA_int kd12 kd111
@[go_sem] theorem cv21_2 (H : AHeap) (k : IntKind) (n : Int) : convA Tryd.prog H 21 2 (.int k n) = some (.int .i64 (IntKind.i64.wrap n), H) := convA_int kd21 kd2
@[go_sem] theorem cv21_3 (H : AHeap) (k : IntKind) (n : Int) : convA Tryd.prog H 21 3 (.int k n) = some (.int .i64 (IntKind.i64.wrap n), H) := convA_int kd21 kd3
@[go_sem] theorem cv21_5 (H : AHeap) (k : IntKind) (n : Int) : convA Tryd.prog H 21 5 (.int k n) = some (.int .u8 (IntKind.u8.wrap n), H) := convA_int kd21 kd5
@[go_sem] theorem cv21_12 (H : AHeap) (k : IntKind) (n : Int) : convA Tryd.prog H 21 12 (.int k n) = some (.int .u64 (IntKind.u64.wrap n), H) := convA_int kd21 kd12
@[go_sem] theorem cv21_21 (H : AHeap) (k : IntKind) (n : Int) : convA Tryd.prog H 21 21 (.int k n) = some (.int .i32 (IntKind.i32.wrap n), H) := convA_int kd21 kd21
@[go_sem] theorem cv21_91 (H : AHeap) (k : IntKind) (n : Int) : convA Tryd.prog H 21 91 (.int k n) = some (.int .u64 (IntKind.u64.wrap n), H) := convA_int kd21 kd91
@[go_sem] theorem cv21_102 (H : AHeap) (k : IntKind) (n : Int) : convA Tryd.prog H 21 102 (.int k n) = some (.int .u64 (IntKind.u64.wrap n), H) := convA_int kd21 kd102
@[go_sem] theorem cv21_111 (H : AHeap) (k : IntKind) (n : Int) : convA Tryd.prog H 21 111 (.int k n) = some (.int .u32 (IntKind.u32.wrap n), H) := convA_int kd21 kd111
@[go_sem] theorem cv91_2 (H : AHeap) (k : IntKind) (n : Int) : convA Tryd.prog H 91 2 (.int k n) = some (.int .i64 (IntKind.i64.wrap n), H) := convA_int kd91 kd2
@[go_sem] theorem cv91_3 (H : AHeap) (k : IntKind) (n : Int) : convA Tryd.prog H 91 3 (.int k n) = some (.int .i64 (IntKind.i64.wrap n), H) := convA_int kd91 kd3
@[go_sem] theorem cv91_5 (H : AHeap) (k : IntKind) (n : Int) : convA Tryd.prog H 91 5 (.int k n) = some (.int .u8 (IntKind.u8.wrap n), H) := convA_int kd91 kd5
@[go_sem] theorem cv91_12 (H : AHeap) (k : IntKind) (n : Int) : convA Tryd.prog H 91 12 (.int k n) = some (.int .u64 (IntKind.u64.wrap n), H) := convA_int kd91 kd12
@[go_sem] theorem cv91_21 (H : AHeap) (k : IntKind) (n : Int) : convA Tryd.prog H 91 21 (.int k n) = some (.int .i32 (IntKind.i32.wrap n), H) := convA_int kd91 kd21
@[go_sem] theorem cv91_91 (H : AHeap) (k : IntKind) (n : Int) : convA Tryd.prog H 91 91 (.int k n) = some (.int .u64 (IntKind.u64.wrap n), H) := convA_int kd91 kd91
@[go_sem] theorem cv91_102 (H : AHeap) (k : IntKind) (n : Int) : convA Tryd.prog H 91 102 (.int k n) = some (.int .u64 (IntKind.u64.wrap n), H) := convA_int kd91 kd102
@[go_sem] theorem cv91_111 (H : AHeap) (k : IntKind) (n : Int) : convA Tryd.prog H 91 111 (.int k n) = some (.int .u32 (IntKind.u32.wrap n), H) := convA_int kd91 kd111
@[go_sem] theorem cv102_2 (H : AHeap) (k : IntKind) (n : Int) : convA Tryd.prog H 102 2 (.int k n) = some (.int .i64 (IntKind.i64.wrap n), H) := convA_int kd102 kd2
@[go_sem] theorem cv102_3 (H : AHeap) (k : IntKind) (n : Int) : convA Tryd.prog H 102 3 (.int k n) = some (.int .i64 (IntKind.i64.wrap n), H) := convA_int kd102 kd3
@[go_sem] theorem cv102_5 (H : AHeap) (k : IntKind) (n : Int) : convA Tryd.prog H 102 5 (.int k n) = some (.int .u8 (IntKind.u8.wrap n), H) := convA_int kd102 kd5
@[go_sem] theorem cv102_12 (H : AHeap) (k : IntKind) (n : Int) : convA Tryd.prog H 102 12 (.int k n) = some (.int .u64 (IntKind.u64.wrap n), H) := convA_int kd102 kd12
@[go_sem] theorem cv102_21 (H : AHeap) (k : IntKind) (n : Int) : convA Tryd.prog H 102 21 (.int k n) = some (.int .i32 (IntKind.i32.wrap n), H) := convA_int kd102 kd21
@[go_sem] theorem cv102_91 (H : AHeap) (k : IntKind) (n : Int) : convA Tryd.prog H 102 91 (.int k n) = some (.int .u64 (IntKind.u64.wrap n), H) := convA_int kd102 kd91
@[go_sem] theorem cv102_102 (H : AHeap) (k : IntKind) (n : Int) : convA Tryd.prog H 102 102 (.int k n) = some (.int .u64 (IntKind.u64.wrap n), H) := convA_int kd102 kd102
@[go_sem] theorem cv102_111 (H : AHeap) (k : IntKind) (n : Int) : convA Tryd.prog H 102 111 (.int k n) = some (.int .u32 (IntKind.u32.wrap n), H) := convA_int kd102 kd111
@[go_sem] theorem cv111_2 (H : AHeap) (k : IntKind) (n : Int) : convA Tryd.prog H 111 2 (.int k n) = some (.int .i64 (IntKind.i64.wrap n), H) := convA_int kd111 kd2
@[go_sem] theorem cv111_3 (H : AHeap) (k : IntKind) (n : Int) : convA Tryd.prog H 111 3 (.int k n) = some (.int .i64 (IntKind.i64.wrap n), H) := convA_int kd111 kd3
@[go_sem] theorem cv111_5 (H : AHeap) (k : IntKind) (n : Int) : convA Tryd.prog H 111 5 (.int k n) = some (.int .u8 (IntKind.u8.wrap n), H) := convA_int kd111 kd5
@[go_sem] theorem cv111_12 (H : AHeap) (k : IntKind) (n : Int) : convA Tryd.prog H 111 12 (.int k n) = some (.int .u64 (IntKind.u64.wrap n), H) := convA_int kd111 kd12
@[go_sem] theorem cv111_21 (H : AHeap) (k : IntKind) (n : Int) : convA Tryd.prog H 111 21 (.int k n) = some (.int .i32 (IntKind.i32.wrap n), H) := convA_int kd111 kd21
@[go_sem] theorem cv111_91 (H : AHeap) (k : IntKind) (n : Int) : convA Tryd.prog H 111 91 (.int k n) = some (.int .u64 (IntKind.u64.wrap n), H) := convA_int kd111 kd91
@[go_sem] theorem cv111_102 (H : AHeap) (k : IntKind) (n : Int) : convA Tryd.prog H 111 102 (.int k n) = some (.int .u64 (IntKind.u64.wrap n), H) := convA_int kd111 kd102
@[go_sem] theorem cv111_111 (H : AHeap) (k : IntKind) (n : Int) : convA Tryd.prog H 111 111 (.int k n) = some (.int .u32 (IntKind.u32.wrap n), H) := convA_int kd111 kd111
@[go_sem] theorem cs9_42 (H : AHeap) (s : ByteArray) : convA Tryd.prog H 9 42 (.string s) = some (.slice (some ⟨H.next, 0, none⟩) s.size 1, H.push (.row 1 (strElems s) true)) := convA_str kd9 kd42 kd5
@[go_sem] theorem cb42_9 (H : AHeap) (c : Nat) (s : ByteArray) : convA Tryd.prog H 42 9 (inl 1 c (strElems s)) = some (.string s, H) := convA_backI kd42 kd9 kd5
theorem sl22 : SlT Tryd.prog 22 7 80 := ⟨37, _, kd22, ty37, rfl, rfl, rfl, by decide⟩
@[go_sem] theorem bs22 (H : AHeap) (n : Nat) (ps : List (Nat × Value)) : buildSlA Tryd.prog H 22 n ps = bsl H 7 n (denseA 7 0 ps) := sl22.bsl n ps
theorem sl26 : SlT Tryd.prog 26 7 80 := ⟨31, _, kd26, ty31, rfl, rfl, rfl, by decide⟩
@[go_sem] theorem bs26 (H : AHeap) (n : Nat) (ps : List (Nat × Value)) : buildSlA Tryd.prog H 26 n ps = bsl H 7 n (denseA 7 0 ps) := sl26.bsl n ps
theorem sl42 : SlT Tryd.prog 42 1 1 := ⟨5, _, kd42, ty5, rfl, rfl, rfl, by decide⟩
@[go_sem] theorem bs42 (H : AHeap) (n : Nat) (ps : List (Nat × Value)) : buildSlA Tryd.prog H 42 n ps = bsl H 1 n (denseA 1 0 ps) := sl42.bsl n ps
theorem sl51 : SlT Tryd.prog 51 1 16 := ⟨9, _, kd51, ty9, rfl, rfl, rfl, by decide⟩
@[go_sem] theorem bs51 (H : AHeap) (n : Nat) (ps : List (Nat × Value)) : buildSlA Tryd.prog H 51 n ps = bsl H 1 n (denseA 1 0 ps) := sl51.bsl n ps
theorem sl53 : SlT Tryd.prog 53 1 8 := ⟨3, _, kd53, ty3, rfl, rfl, rfl, by decide⟩
@[go_sem] theorem bs53 (H : AHeap) (n : Nat) (ps : List (Nat × Value)) : buildSlA Tryd.prog H 53 n ps = bsl H 1 n (denseA 1 0 ps) := sl53.bsl n ps
theorem mixed : Tryd.prog.follows .mixedOrders = true := by kernel_rfl
def G0 : Gam := noG
theorem G0_ok : GOk Tryd.prog G0 := noG_ok _
end Go.Proofs.YtaikkfdnbihbiaaDoor
