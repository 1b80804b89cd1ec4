/- Acts of raw things, as plain data. No program is walked. -/
import Derived.Test.YtbamacddfonloaaDoorGq
import Derived.Test.YtbamacddfonloaaDoorHostPlain
namespace Go.Proofs.YtbamacddfonloaaDoor
open Go.RowKit

def actT (x : RawD) (ms : Bool) : ActD :=
  if pickD x.kind 30 < 10 then ⟨6, 0, pickD x.b 24, pickD x.c 8, 0, 0, 0⟩
  else if pickD x.kind 30 < 18 then ⟨7, 0, pickD x.b 24, pickD x.c 8, 0, pickD x.a 65536, 0⟩
  else if pickD x.kind 30 < 22 then ⟨2, 1 + pickD x.a 3, pickD x.b 24, pickD x.c 8, pickD x.a 8, 0, 0⟩
  else if pickD x.kind 30 < 25 ∧ ms = true then ⟨3, 1 + pickD x.a 3, 0, pickD x.c 8, 0, 0, 0⟩
  else if pickD x.kind 30 < 27 then ⟨1, 0, 0, 0, 0, 0, 0⟩
  else if pickD x.kind 30 = 27 then ⟨4, 1 + pickD x.a 3, 0, 0, 0, 0, 0⟩
  else if pickD x.kind 30 = 28 then ⟨5, 1 + pickD x.a 3, 0, 0, 0, 0, 0⟩
  else ⟨7, 0, pickD x.b 24, pickD x.c 8, 0, 0, 0⟩
def actsOf (l : List RawD) (most : Nat) (ms : Bool) : List ActD := (l.take most).map fun x => actT x ms
theorem actT_kind (x : RawD) (ms : Bool) : 1 ≤ (actT x ms).kind ∧ (actT x ms).kind ≤ 7 := by
  unfold actT
  repeat' split
  all_goals simp
theorem actsOf_len (l : List RawD) (most : Nat) (ms : Bool) : (actsOf l most ms).length = min most l.length := by simp [actsOf]

end Go.Proofs.YtbamacddfonloaaDoor
