/- The ranges of a system that is read. -/
import Derived.Test.YtkbpafipbhaknaaDoorQ4G0
import Derived.Test.YtkbpafipbhaknaaDoorQ4E7
namespace Go.Proofs.YtkbpafipbhaknaaDoor
open Go Go.Av
theorem rg_of {s : Sy} (h : Q27 s) : Rg s.2.2.2.2.2.1 s.2.2.2.2.2.2.1 s.2.2.2.2.2.2.2 := by
  obtain ⟨_, _, _, _, _, h5, h6, h7⟩ := h
  refine ⟨fun r hr => ⟨(h5.2 r hr).1, fun m hm => ⟨((h5.2 r hr).2.2 m hm).1, fun v hv => ((h5.2 r hr).2.2 m hm).2.2 v hv⟩⟩, fun q hq t ht v hv => ?_, fun l hl => ⟨fun v hv => (h7.2 l hl).1.2 v hv, fun v hv => (h7.2 l hl).2.1.2 v hv, (h7.2 l hl).2.2⟩⟩
  rcases List.mem_append.1 ht with h8 | h8
  · exact ((h6.2 q hq).1.2 t h8).2 v hv
  · exact ((h6.2 q hq).2.2 t h8).2 v hv
end Go.Proofs.YtkbpafipbhaknaaDoor
