-- PRINTED BY gentypes.py (a program of this repo)
import Derived.Test.YtmdfjipjkkjpcaaProg
import Derived.KernelRfl
import Derived.Test.YtmdfjipjkkjpcaaSxS
namespace Go.Proofs.Ytmdfjipjkkjpcaa
open Go.SX

def tiN (T : Nat) : Option TI :=
  match T with
  | 3 => some ⟨.int .i64, 1, 8, [.int .i64 (.l 0)], [.bool fun _ => false]⟩
  | 4 => some ⟨.bool, 1, 1, [.bool .f], [.bool fun _ => false]⟩
  | 5 => some ⟨.int .u8, 1, 1, [.int .u8 (.l 0)], [.bool fun _ => false]⟩
  | 9 => some ⟨.string, 1, 16, [.str fun _ => []], [.bool fun _ => false]⟩
  | 22 => some ⟨.slice 74, 1, 24, [.nil], [.sl 4 (fun _ => 0) fun _ _ => .bool fun _ => false]⟩
  | 24 => some ⟨.struct [(4, 0), (22, 1)], 2, 32, [.bool .f, .nil], [.bool fun _ => false, .sl 4 (fun _ => 0) fun _ _ => .bool fun _ => false]⟩
  | 27 => some ⟨.slice 5, 1, 24, [.nil], [.bytes fun _ => []]⟩
  | 29 => some ⟨.int .u16, 1, 2, [.int .u16 (.l 0)], [.bool fun _ => false]⟩
  | 53 => some ⟨.slice 22, 1, 24, [.nil], [.sl 1 (fun _ => 0) fun _ _ => .bool fun _ => false]⟩
  | 72 => some ⟨.int .u32, 1, 4, [.int .u32 (.l 0)], [.bool fun _ => false]⟩
  | 74 => some ⟨.struct [(27, 0), (27, 1), (72, 2), (72, 3)], 4, 56, [.nil, .nil, .int .u32 (.l 0), .int .u32 (.l 0)], [.bytes fun _ => [], .bytes fun _ => [], .bool fun _ => false, .bool fun _ => false]⟩
  | 88 => some ⟨.int .u64, 1, 8, [.int .u64 (.l 0)], [.bool fun _ => false]⟩
  | 114 => some ⟨.other, 1, 8, [.val (.pointer none)], [.bool fun _ => false]⟩
  | 116 => some ⟨.struct [(27, 0), (3, 1), (4, 2)], 3, 40, [.nil, .int .i64 (.l 0), .bool .f], [.bytes fun _ => [], .bool fun _ => false, .bool fun _ => false]⟩
  | 121 => some ⟨.other, 1, 8, [.val .nilFunc], [.bool fun _ => false]⟩
  | 123 => some ⟨.int .u64, 1, 8, [.int .u64 (.l 0)], [.bool fun _ => false]⟩
  | 125 => some ⟨.mapI .u32, 1, 8, [.val (.map none)], [.bool fun _ => false]⟩
  | 126 => some ⟨.slice 9, 1, 24, [.nil], [.sl 1 (fun _ => 0) fun _ _ => .bool fun _ => false]⟩
  | 168 => some ⟨.struct [], 0, 0, [], []⟩
  | 170 => some ⟨.other, 1, 8, [.val (.pointer none)], [.bool fun _ => false]⟩
  | 172 => some ⟨.struct [(27, 0)], 1, 24, [.nil], [.bytes fun _ => []]⟩
  | 175 => some ⟨.other, 1, 8, [.val .nilFunc], [.bool fun _ => false]⟩
  | _ => none

def rwN (f : Nat) : Bool :=
  match f with
  | 42 => true
  | 45 => true
  | _ => false

def E : Env := ⟨tiN, rwN⟩

theorem info3 : (Try.prog.info? 3).map (fun i => (i.size, i.bytes, i.zero)) = some (1, 8, some (.int .i64 0)) := by kernel_rfl
theorem info4 : (Try.prog.info? 4).map (fun i => (i.size, i.bytes, i.zero)) = some (1, 1, some (.bool false)) := by kernel_rfl
theorem info5 : (Try.prog.info? 5).map (fun i => (i.size, i.bytes, i.zero)) = some (1, 1, some (.int .u8 0)) := by kernel_rfl
theorem info9 : (Try.prog.info? 9).map (fun i => (i.size, i.bytes, i.zero)) = some (1, 16, some (.string ⟨#[]⟩)) := by kernel_rfl
theorem info22 : (Try.prog.info? 22).map (fun i => (i.size, i.bytes, i.zero)) = some (1, 24, some (.slice none 0 0)) := by kernel_rfl
theorem info24 : (Try.prog.info? 24).map (fun i => (i.size, i.bytes, i.zero)) = some (2, 32, some (.agg #[.bool false, .slice none 0 0])) := by kernel_rfl
theorem info27 : (Try.prog.info? 27).map (fun i => (i.size, i.bytes, i.zero)) = some (1, 24, some (.slice none 0 0)) := by kernel_rfl
theorem info29 : (Try.prog.info? 29).map (fun i => (i.size, i.bytes, i.zero)) = some (1, 2, some (.int .u16 0)) := by kernel_rfl
theorem info53 : (Try.prog.info? 53).map (fun i => (i.size, i.bytes, i.zero)) = some (1, 24, some (.slice none 0 0)) := by kernel_rfl
theorem info72 : (Try.prog.info? 72).map (fun i => (i.size, i.bytes, i.zero)) = some (1, 4, some (.int .u32 0)) := by kernel_rfl
theorem info74 : (Try.prog.info? 74).map (fun i => (i.size, i.bytes, i.zero)) = some (4, 56, some (.agg #[.slice none 0 0, .slice none 0 0, .int .u32 0, .int .u32 0])) := by kernel_rfl
theorem info88 : (Try.prog.info? 88).map (fun i => (i.size, i.bytes, i.zero)) = some (1, 8, some (.int .u64 0)) := by kernel_rfl
theorem info114 : (Try.prog.info? 114).map (fun i => (i.size, i.bytes, i.zero)) = some (1, 8, some (.pointer none)) := by kernel_rfl
theorem info116 : (Try.prog.info? 116).map (fun i => (i.size, i.bytes, i.zero)) = some (3, 40, some (.agg #[.slice none 0 0, .int .i64 0, .bool false])) := by kernel_rfl
theorem info121 : (Try.prog.info? 121).map (fun i => (i.size, i.bytes, i.zero)) = some (1, 8, some (.nilFunc)) := by kernel_rfl
theorem info123 : (Try.prog.info? 123).map (fun i => (i.size, i.bytes, i.zero)) = some (1, 8, some (.int .u64 0)) := by kernel_rfl
theorem info125 : (Try.prog.info? 125).map (fun i => (i.size, i.bytes, i.zero)) = some (1, 8, some (.map none)) := by kernel_rfl
theorem info126 : (Try.prog.info? 126).map (fun i => (i.size, i.bytes, i.zero)) = some (1, 24, some (.slice none 0 0)) := by kernel_rfl
theorem info168 : (Try.prog.info? 168).map (fun i => (i.size, i.bytes, i.zero)) = some (0, 0, some (.agg #[])) := by kernel_rfl
theorem info170 : (Try.prog.info? 170).map (fun i => (i.size, i.bytes, i.zero)) = some (1, 8, some (.pointer none)) := by kernel_rfl
theorem info172 : (Try.prog.info? 172).map (fun i => (i.size, i.bytes, i.zero)) = some (1, 24, some (.agg #[.slice none 0 0])) := by kernel_rfl
theorem info175 : (Try.prog.info? 175).map (fun i => (i.size, i.bytes, i.zero)) = some (1, 8, some (.nilFunc)) := by kernel_rfl

theorem ok3 {ti : TI} (h : tiN 3 = some ti) : TIOk Try.prog E 3 ti := by cases h; exact tiOk_of info3 (fun η G w => by simp [SVRels, SVRel, Value.cells, IE.den, BE.den]) Try.underlying3 rfl rfl
theorem ok4 {ti : TI} (h : tiN 4 = some ti) : TIOk Try.prog E 4 ti := by cases h; exact tiOk_of info4 (fun η G w => by simp [SVRels, SVRel, Value.cells, IE.den, BE.den]) Try.underlying4 rfl rfl
theorem ok5 {ti : TI} (h : tiN 5 = some ti) : TIOk Try.prog E 5 ti := by cases h; exact tiOk_of info5 (fun η G w => by simp [SVRels, SVRel, Value.cells, IE.den, BE.den]) Try.underlying5 rfl rfl
theorem ok9 {ti : TI} (h : tiN 9 = some ti) : TIOk Try.prog E 9 ti := by cases h; exact tiOk_of info9 (fun η G w => by simp [SVRels, SVRel, Value.cells, IE.den, BE.den]) Try.underlying9 rfl rfl
theorem ok22 {ti : TI} (h : tiN 22 = some ti) : TIOk Try.prog E 22 ti := by cases h; exact tiOk_of info22 (fun η G w => by simp [SVRels, SVRel, Value.cells, IE.den, BE.den]) Try.underlying22 rfl rfl
theorem ok24 {ti : TI} (h : tiN 24 = some ti) : TIOk Try.prog E 24 ti := by cases h; exact tiOk_of info24 (fun η G w => by simp [SVRels, SVRel, Value.cells, IE.den, BE.den]) Try.underlying24 ⟨_, rfl, ⟨rfl, rfl, info_size info4 rfl (by decide), ⟨rfl, rfl, info_size info22 rfl (by decide), trivial⟩⟩⟩ rfl
theorem ok27 {ti : TI} (h : tiN 27 = some ti) : TIOk Try.prog E 27 ti := by cases h; exact tiOk_of info27 (fun η G w => by simp [SVRels, SVRel, Value.cells, IE.den, BE.den]) Try.underlying27 rfl rfl
theorem ok29 {ti : TI} (h : tiN 29 = some ti) : TIOk Try.prog E 29 ti := by cases h; exact tiOk_of info29 (fun η G w => by simp [SVRels, SVRel, Value.cells, IE.den, BE.den]) Try.underlying29 rfl rfl
theorem ok53 {ti : TI} (h : tiN 53 = some ti) : TIOk Try.prog E 53 ti := by cases h; exact tiOk_of info53 (fun η G w => by simp [SVRels, SVRel, Value.cells, IE.den, BE.den]) Try.underlying53 rfl rfl
theorem ok72 {ti : TI} (h : tiN 72 = some ti) : TIOk Try.prog E 72 ti := by cases h; exact tiOk_of info72 (fun η G w => by simp [SVRels, SVRel, Value.cells, IE.den, BE.den]) Try.underlying72 rfl rfl
theorem ok74 {ti : TI} (h : tiN 74 = some ti) : TIOk Try.prog E 74 ti := by cases h; exact tiOk_of info74 (fun η G w => by simp [SVRels, SVRel, Value.cells, IE.den, BE.den]) Try.underlying74 ⟨_, rfl, ⟨rfl, rfl, info_size info27 rfl (by decide), ⟨rfl, rfl, info_size info27 rfl (by decide), ⟨rfl, rfl, info_size info72 rfl (by decide), ⟨rfl, rfl, info_size info72 rfl (by decide), trivial⟩⟩⟩⟩⟩ rfl
theorem ok88 {ti : TI} (h : tiN 88 = some ti) : TIOk Try.prog E 88 ti := by cases h; exact tiOk_of info88 (fun η G w => by simp [SVRels, SVRel, Value.cells, IE.den, BE.den]) Try.underlying88 rfl rfl
theorem ok114 {ti : TI} (h : tiN 114 = some ti) : TIOk Try.prog E 114 ti := by cases h; exact tiOk_of info114 (fun η G w => by simp [SVRels, SVRel, Value.cells, IE.den, BE.den]) Try.underlying114 ⟨(fun _ h => by cases h), (fun _ _ h => by cases h)⟩ rfl
theorem ok116 {ti : TI} (h : tiN 116 = some ti) : TIOk Try.prog E 116 ti := by cases h; exact tiOk_of info116 (fun η G w => by simp [SVRels, SVRel, Value.cells, IE.den, BE.den]) Try.underlying116 ⟨_, rfl, ⟨rfl, rfl, info_size info27 rfl (by decide), ⟨rfl, rfl, info_size info3 rfl (by decide), ⟨rfl, rfl, info_size info4 rfl (by decide), trivial⟩⟩⟩⟩ rfl
theorem ok121 {ti : TI} (h : tiN 121 = some ti) : TIOk Try.prog E 121 ti := by cases h; exact tiOk_of info121 (fun η G w => by simp [SVRels, SVRel, Value.cells, IE.den, BE.den]) Try.underlying121 ⟨(fun _ h => by cases h), (fun _ _ h => by cases h)⟩ rfl
theorem ok123 {ti : TI} (h : tiN 123 = some ti) : TIOk Try.prog E 123 ti := by cases h; exact tiOk_of info123 (fun η G w => by simp [SVRels, SVRel, Value.cells, IE.den, BE.den]) Try.underlying123 rfl rfl
theorem ok125 {ti : TI} (h : tiN 125 = some ti) : TIOk Try.prog E 125 ti := by cases h; exact tiOk_of info125 (fun η G w => by simp [SVRels, SVRel, Value.cells, IE.den, BE.den]) Try.underlying125 ⟨_, _, rfl, Try.underlying72, info_zero info4⟩ rfl
theorem ok126 {ti : TI} (h : tiN 126 = some ti) : TIOk Try.prog E 126 ti := by cases h; exact tiOk_of info126 (fun η G w => by simp [SVRels, SVRel, Value.cells, IE.den, BE.den]) Try.underlying126 rfl rfl
theorem ok168 {ti : TI} (h : tiN 168 = some ti) : TIOk Try.prog E 168 ti := by cases h; exact tiOk_of info168 (fun η G w => by simp [SVRels, SVRel, Value.cells, IE.den, BE.den]) Try.underlying168 ⟨_, rfl, trivial⟩ rfl
theorem ok170 {ti : TI} (h : tiN 170 = some ti) : TIOk Try.prog E 170 ti := by cases h; exact tiOk_of info170 (fun η G w => by simp [SVRels, SVRel, Value.cells, IE.den, BE.den]) Try.underlying170 ⟨(fun _ h => by cases h), (fun _ _ h => by cases h)⟩ rfl
theorem ok172 {ti : TI} (h : tiN 172 = some ti) : TIOk Try.prog E 172 ti := by cases h; exact tiOk_of info172 (fun η G w => by simp [SVRels, SVRel, Value.cells, IE.den, BE.den]) Try.underlying172 ⟨_, rfl, ⟨rfl, rfl, info_size info27 rfl (by decide), trivial⟩⟩ rfl
theorem ok175 {ti : TI} (h : tiN 175 = some ti) : TIOk Try.prog E 175 ti := by cases h; exact tiOk_of info175 (fun η G w => by simp [SVRels, SVRel, Value.cells, IE.den, BE.den]) Try.underlying175 ⟨(fun _ h => by cases h), (fun _ _ h => by cases h)⟩ rfl

theorem eok : EOk Try.prog E := by
  intro T ti h
  change tiN T = some ti at h
  unfold tiN at h
  split at h
  · exact ok3 h
  · exact ok4 h
  · exact ok5 h
  · exact ok9 h
  · exact ok22 h
  · exact ok24 h
  · exact ok27 h
  · exact ok29 h
  · exact ok53 h
  · exact ok72 h
  · exact ok74 h
  · exact ok88 h
  · exact ok114 h
  · exact ok116 h
  · exact ok121 h
  · exact ok123 h
  · exact ok125 h
  · exact ok126 h
  · exact ok168 h
  · exact ok170 h
  · exact ok172 h
  · exact ok175 h
  · cases h
end Go.Proofs.Ytmdfjipjkkjpcaa
