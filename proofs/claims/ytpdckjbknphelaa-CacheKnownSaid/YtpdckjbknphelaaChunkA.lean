/-
  A chunk's cells: what a new one holds.
-/
import Derived.Test.YtpdckjbknphelaaBase
namespace Go.Proofs.Ytpdckjbknphelaa
open Go.RowKit
set_option linter.unusedSimpArgs false
set_option linter.unusedVariables false

/-- The cells of a new chunk: 4096 cells (kind, level), 4096 lights (sky, lamp), no ticks. -/
def chunkZ : Array Value := (Array.replicate 16384 (.int .u8 0)).push (.slice none 0 0)
set_option maxRecDepth 1000000 in
theorem info_chunk : (Try.prog.info? 91).map (fun i => (i.zero, i.size, i.bytes)) = some (some (.agg chunkZ), 16385, 16408) := by kernel_rfl

theorem zero_chunk (w : World) : (zeroValue 91).run Try.prog w = .ok (.agg chunkZ) w := by
  obtain ⟨i0, hi, hz0, hz1, hz2⟩ := info_parts info_chunk
  simp [zeroValue, typeInfo, Sem.run_bind, program, Sem.run, Result.andThen, hi, hz0]

set_option maxHeartbeats 1000000 in
theorem new_calls (w : World) : Calls Try.prog 32 #[] w fun e w' => e = .returned (.pointer (some ⟨w.heap.size, 0, none⟩)) ∧ w' = w.alloc (.cells chunkZ 91) := by
  have hz : ∀ w, (zeroValue 91).run Try.prog w = .ok (.agg chunkZ) w := zero_chunk
  generalize chunkZ = Z at *
  go_enter Try.func32, Try.ntmps32
  go_wp2_with fail
  go_ret
  exact ⟨rfl, rfl⟩
end Go.Proofs.Ytpdckjbknphelaa
