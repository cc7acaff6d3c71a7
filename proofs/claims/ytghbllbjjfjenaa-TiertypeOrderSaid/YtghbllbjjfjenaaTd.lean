/- The types of the program, and what plain data are as trees. -/
import Derived.Test.YtghbllbjjfjenaaProg
import Derived.Test.YtghbllbjjfjenaaPlain
import Derived.Test.YtghbllbjjfjenaaAbGo
namespace Go.Proofs.Ytghbllbjjfjenaa
open Go.Ab

def td : TDs := [(2, ⟨.int .i64, 1, 8, [.int .i64 0]⟩),
  (3, ⟨.int .i64, 1, 8, [.int .i64 0]⟩),
  (4, ⟨.bool, 1, 1, [.bool false]⟩),
  (5, ⟨.int .u8, 1, 1, [.int .u8 0]⟩),
  (9, ⟨.str, 1, 16, [.string .empty]⟩),
  (12, ⟨.int .u64, 1, 8, [.int .u64 0]⟩),
  (20, ⟨.iface, 1, 16, [.nilIface]⟩),
  (21, ⟨.int .i32, 1, 4, [.int .i32 0]⟩),
  (22, ⟨.slice 38, 1, 24, [.slice none 0 0]⟩),
  (24, ⟨.int .i64, 1, 8, [.int .i64 0]⟩),
  (29, ⟨.slice 3, 1, 24, [.slice none 0 0]⟩),
  (37, ⟨.struct [(9, 0), (3, 1), (3, 2), (3, 3)], 4, 40, [.string .empty, .int .i64 0, .int .i64 0, .int .i64 0]⟩),
  (38, ⟨.struct [(9, 0), (3, 1), (3, 2), (3, 3)], 4, 40, [.string .empty, .int .i64 0, .int .i64 0, .int .i64 0]⟩),
  (45, ⟨.slice 5, 1, 24, [.slice none 0 0]⟩),
  (53, ⟨.int .u32, 1, 4, [.int .u32 0]⟩),
  (57, ⟨.ptr 5, 1, 8, [.pointer none]⟩)]
theorem td_eq : tdsOf Try.prog [2, 3, 4, 5, 9, 12, 20, 21, 22, 24, 29, 37, 38, 45, 53, 57] = td := by kernel_rfl
instance tok : TOK Try.prog td := TOK.mk' [2, 3, 4, 5, 9, 12, 20, 21, 22, 24, 29, 37, 38, 45, 53, 57] td_eq

def encT (t : Tier) : List AV := [.v (.string t.name), .v (.int .i64 t.kind), .v (.int .i64 t.role), .v (.int .i64 t.parent)]
abbrev encTs (l : List Tier) : AV := .fs 4 l.length (l.map encT)
abbrev encIs (l : List Int) : AV := .fs 1 l.length (l.map fun n => [vi n])
theorem encT_get {l : List Tier} {k : Nat} {t : Tier} (h : l[k]? = some t) : 0 ≤ (k : Int) ∧ (l.map encT)[(k : Int).toNat]? = some (encT t) := ⟨by omega, by simp [h]⟩
theorem encI_get {l : List Int} {k : Nat} {t : Int} (h : l[k]? = some t) : 0 ≤ (k : Int) ∧ (l.map fun n => [vi n])[(k : Int).toNat]? = some [vi t] := ⟨by omega, by simp [h]⟩
end Go.Proofs.Ytghbllbjjfjenaa
