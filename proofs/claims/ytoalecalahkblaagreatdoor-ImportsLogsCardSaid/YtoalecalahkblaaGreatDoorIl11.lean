/- Texts of this seat, merged. -/
import Derived.Deep.CutRange
import Derived.Deep.CutBlock
import Derived.Test.YtoalecalahkblaaGreatDoorIl01
import Derived.Test.YtoalecalahkblaaGreatDoorIl02
import Derived.Test.YtoalecalahkblaaGreatDoorIl03
import Derived.Test.YtoalecalahkblaaGreatDoorIl04
import Derived.Test.YtoalecalahkblaaGreatDoorIl06
import Derived.Test.YtoalecalahkblaaGreatDoorIl07
import Derived.Test.YtoalecalahkblaaGreatDoorIl08
import Derived.Test.YtoalecalahkblaaGreatDoorIl09
set_option linter.all false
set_option linter.all false
namespace Go.Proofs.YtoalecalahkblaaGreatDoor
open Go.RowKit
def wCas : List Bt := [[99, 97, 115, 101], [99, 97, 115, 101, 95, 105, 100], [99, 97, 115, 101, 105, 100]]
def wAct : List Bt := [[97, 99, 116, 105, 118, 105, 116, 121], [97, 99, 116], [101, 118, 101, 110, 116]]
def wRes : List Bt := [[114, 101, 115, 111, 117, 114, 99, 101], [114, 101, 115], [117, 115, 101, 114]]
def wLife : List Bt := [[108, 105, 102, 101], [108, 105, 102, 101, 99, 121, 99, 108, 101]]
def wTime : List Bt := [[116, 105, 109, 101], [116, 105, 109, 101, 115, 116, 97, 109, 112], [109, 105, 110, 117, 116, 101]]
def wds0 : Wds := ⟨wCas, wAct, wRes, wLife, wTime⟩
def RetMp (p : Mp × Int) (w : World) (e : Ending) (w' : World) : Prop := ∃ u, e = .returned (.tuple #[u, .int .i64 p.2]) ∧ IsMp (Lt w'.heap.size) w' u p.1 ∧ Below w.heap.size w w'
theorem slP_lit (w : World) (t : TypeId) (ws : List Bt) (hm : ws.length ≤ 1000) (hl : ∀ l ∈ ws, l.length ≤ 1000) :
    SlP (Lt (w.alloc (.cells (ws.map fun l => Value.string (bsOf l)).toArray t)).heap.size) (w.alloc (.cells (ws.map fun l => Value.string (bsOf l)).toArray t)) (.slice (some ⟨w.heap.size, 0, none⟩) ws.length ws.length) ws := by
  have e : (ws.map fun l => Value.string (bsOf l)) = (ws.map bsOf).map Value.string := by rw [List.map_map]; rfl
  rw [e]
  have h := SlS.ofBlk (zs := ws.map bsOf) (Blk.new w t ((ws.map bsOf).map Value.string).toArray) (by rw [List.length_map]; unfold maxLen; omega) (by
    intro z hz
    obtain ⟨l, hl', rfl⟩ := List.mem_map.1 hz
    have := hl l hl'
    rw [bs_size]; unfold maxLen; omega)
  rw [List.length_map] at h
  exact h
theorem OwnZ.open_ {base : Nat} {w : World} {v : Value} {l : List Int} (h : OwnZ w base v l) : ∃ A c, v = .slice A l.length c := by
  rcases h.2 with ⟨rfl, h0⟩ | ⟨g, cap, cur, rfl, _⟩
  · rw [h0]; exact ⟨none, 0, rfl⟩
  · exact ⟨_, _, rfl⟩
end Go.Proofs.YtoalecalahkblaaGreatDoor
