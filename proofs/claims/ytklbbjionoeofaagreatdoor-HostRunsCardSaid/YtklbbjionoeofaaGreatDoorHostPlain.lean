/- What host.Run answers, as plain data. No program is walked. -/
import Derived.Test.YtklbbjionoeofaaGreatDoorGi
import Derived.Test.YtklbbjionoeofaaGreatDoorGq
import Derived.Test.YtklbbjionoeofaaGreatDoorGn
namespace Go.Proofs.YtklbbjionoeofaaGreatDoor
open Go.RowKit

structure ActD where
  kind : Int
  e : Int
  f : Int
  pl : Int
  rights : Int
  n : Int
  fuel : Int
structure HostD where
  m : MachD
  c : ChalD
/-- An act's answer: its code, its number. -/
structure AnsD where
  code : Int
  n : Int

def keepM (h : HostD) (m : MachD) (n c : Int) : HostD × AnsD := if c ≠ 0 then (h, ⟨c, 0⟩) else (⟨m, h.c⟩, ⟨0, n⟩)
def keepC (h : HostD) (d : ChalD) (n c : Int) : HostD × AnsD := if c ≠ 0 then (h, ⟨c, 0⟩) else (⟨h.m, d⟩, ⟨0, n⟩)
def ranA (o : Int × Int) : AnsD := if o.1 = 2 then ⟨9, 0⟩ else if o.1 = 3 then ⟨10, 0⟩ else ⟨0, o.2⟩
def keepR (h : HostD) (r : MachD × (Int × Int) × Int) : HostD × AnsD := if r.2.2 ≠ 0 then (h, ⟨r.2.2, 0⟩) else (⟨r.1, h.c⟩, ranA r.2.1)
def quoteOf (M : MachD) (i : Int) : QuoteD := (M.quotes[i.toNat]?).getD ⟨⟨#[]⟩, 0⟩
def actD (h : HostD) (a : ActD) : HostD × AnsD :=
  if a.kind = 1 then keepM h (createD h.m).1 (createD h.m).2.1 (createD h.m).2.2
  else if a.kind = 2 then keepM h (putD h.m a.e a.f a.pl a.rights).1 0 (putD h.m a.e a.f a.pl a.rights).2
  else if a.kind = 3 then keepM h (measD h.m a.e a.pl).1 0 (measD h.m a.e a.pl).2
  else if a.kind = 4 then keepM h (startD h.m a.e).1 0 (startD h.m a.e).2
  else if a.kind = 5 then keepM h (removeD h.m a.e).1 0 (removeD h.m a.e).2
  else if a.kind = 6 then keepM h h.m (peekD h.m a.f a.pl).1 (peekD h.m a.f a.pl).2
  else if a.kind = 7 then keepM h (pokeD h.m a.f a.pl a.n).1 0 (pokeD h.m a.f a.pl a.n).2
  else if a.kind = 8 then keepR h (enterD h.m a.e a.n a.fuel)
  else if a.kind = 9 then keepR h (resumeD h.m a.e a.fuel)
  else if a.kind = 10 then keepC h (askD h.c).1 (askD h.c).2.1 (askD h.c).2.2
  else if a.kind = 11 then (if a.pl < 0 ∨ (h.m.quotes.length : Int) ≤ a.pl then (h, ⟨5, 0⟩) else keepC h (lookD h.c h.m.quotes (quoteOf h.m a.pl)).1 0 (lookD h.c h.m.quotes (quoteOf h.m a.pl)).2)
  else (h, ⟨3, 0⟩)
def actsD (h : HostD) : List ActD → HostD × List AnsD
  | [] => (h, [])
  | a :: l => ((actsD (actD h a).1 l).1, (actD h a).2 :: (actsD (actD h a).1 l).2)
structure RunD where
  x : List AnsD
  m : MachD
  c : ChalD
  e : Int
def scriptF (T : List ByteArray) (L : List ActD) : Int := if chalF ⟨T, []⟩ ≠ 0 then chalF ⟨T, []⟩ else if 200 < L.length then 1 else 0
def scriptD (T : List ByteArray) (L : List ActD) : RunD :=
  if scriptF T L ≠ 0 then ⟨[], mach0, chal0, scriptF T L⟩ else ⟨(actsD ⟨newD, ⟨T, []⟩⟩ L).2, (actsD ⟨newD, ⟨T, []⟩⟩ L).1.m, (actsD ⟨newD, ⟨T, []⟩⟩ L).1.c, 0⟩

theorem actsD_len (L : List ActD) (h : HostD) : (actsD h L).2.length = L.length := by
  induction L generalizing h with
  | nil => rfl
  | cons a l ih => simp [actsD, ih]
theorem actsD_append (L K : List ActD) (h : HostD) : actsD h (L ++ K) = ((actsD (actsD h L).1 K).1, (actsD h L).2 ++ (actsD (actsD h L).1 K).2) := by
  induction L generalizing h with
  | nil => simp [actsD]
  | cons a l ih => simp [actsD, ih]

end Go.Proofs.YtklbbjionoeofaaGreatDoor
