/- Two machines that are alike from without; each act of who owns the machine answers alike. Plain laws; no program is walked. -/
import Derived.Test.YtbamacddfonloaaGreatDoorGt
namespace Go.Proofs.YtbamacddfonloaaGreatDoor
open Go.RowKit

/-- What is seen of a frame from without. -/
def seenF (x : FrameD) : Int × Int × Int × List Int := (x.owner, x.pl, x.rights, if x.owner = 0 then x.words else [])
structure Alike (M N : MachD) : Prop where
  gm : Good M
  gn : Good N
  e : N.encl = M.encl
  f : N.frames.map seenF = M.frames.map seenF
theorem seen_at {F G : List FrameD} (h : G.map seenF = F.map seenF) {i : Nat} {x y : FrameD} (hx : F[i]? = some x) (hy : G[i]? = some y) : y.owner = x.owner ∧ y.pl = x.pl ∧ y.rights = x.rights ∧ (x.owner = 0 → y.words = x.words) := by
  have h1 := congrArg (fun l => l[i]?) h
  simp only [List.getElem?_map, hx, hy, Option.map_some, Option.some.injEq, seenF, Prod.mk.injEq] at h1
  obtain ⟨a, b, c, d⟩ := h1
  refine ⟨a, b, c, fun h0 => ?_⟩
  rw [if_pos (a.trans h0), if_pos h0] at d
  exact d
theorem seen_of {x y : FrameD} (h : y.owner = x.owner ∧ y.pl = x.pl ∧ y.rights = x.rights ∧ (x.owner = 0 → y.words = x.words)) : seenF y = seenF x := by
  obtain ⟨a, b, c, d⟩ := h
  unfold seenF
  rw [a, b, c]
  by_cases h0 : x.owner = 0
  · rw [if_pos h0, if_pos h0, d h0]
  · rw [if_neg h0, if_neg h0]
theorem findI_map {α β : Type} (p : β → Bool) (g : α → β) (l : List α) : findI p (l.map g) = findI (fun x => p (g x)) l := by
  unfold findI
  rw [List.findIdx?_map]
  rfl
theorem placeF_seen {F G : List FrameD} (h : G.map seenF = F.map seenF) (e q : Int) : placeF G e q = placeF F e q := by
  have k : ∀ L : List FrameD, placeF L e q = findI (fun t : Int × Int × Int × List Int => decide (t.1 = e) && decide (0 < t.1) && decide (t.2.1 = q)) (L.map seenF) := fun L => by
    rw [findI_map]
    rfl
  rw [k, k, h]
theorem Alike.mf {M N : MachD} (h : Alike M N) : machF N = machF M := by rw [h.gm.mf, h.gn.mf]
theorem Alike.ask {M N : MachD} (h : Alike M N) (e st : Int) : askF N e st = askF M e st := by
  unfold askF enclOf
  rw [h.mf, h.e]
theorem Alike.word {M N : MachD} (h : Alike M N) (f q : Int) : wordF N f q = wordF M f q := by
  unfold wordF
  rw [h.mf]
theorem Alike.frame {M N : MachD} (h : Alike M N) (f : Int) : (frameOf N f).owner = (frameOf M f).owner ∧ ((frameOf M f).owner = 0 → (frameOf N f).words = (frameOf M f).words) := by
  have hl : N.frames.length = M.frames.length := by rw [h.gm.fl, h.gn.fl]
  unfold frameOf
  cases hx : M.frames[f.toNat]? with
  | none =>
    rw [List.getElem?_eq_none (by rw [hl]; exact List.getElem?_eq_none_iff.1 hx)]
    exact ⟨rfl, fun _ => rfl⟩
  | some x =>
    have hlt := (List.getElem?_eq_some_iff.1 hx).1
    have hy : N.frames[f.toNat]? = some (N.frames[f.toNat]'(by omega)) := List.getElem?_eq_getElem (by omega)
    rw [hy]
    have := seen_at h.f hx hy
    exact ⟨this.1, this.2.2.2⟩
theorem Alike.put {M N : MachD} (h : Alike M N) (e f p r : Int) : putF N e f p r = putF M e f p r := by
  unfold putF enclOf
  rw [h.ask, (h.frame f).1, placeF_seen h.f, h.e]
theorem map_upd {α β : Type} (l : List α) (k : Nat) (f : α → α) (g : α → β) (x : α) (hx : l[k]? = some x) : (upd l k f).map g = (l.map g).set k (g (f x)) := by
  rw [upd_some hx, List.map_set]

def actedD (M : MachD) (a : ActD) : MachD × Int × Int :=
  if a.kind = 1 then createD M
  else if a.kind = 2 then ((putD M a.e a.f a.pl a.rights).1, 0, (putD M a.e a.f a.pl a.rights).2)
  else if a.kind = 4 then ((startD M a.e).1, 0, (startD M a.e).2)
  else if a.kind = 5 then ((removeD M a.e).1, 0, (removeD M a.e).2)
  else if a.kind = 6 then (M, peekD M a.f a.pl)
  else ((pokeD M a.f a.pl a.n).1, 0, (pokeD M a.f a.pl a.n).2)
/-- Both answer alike, and stay alike. -/
def Same3 (p q : MachD × Int × Int) : Prop := q.2.1 = p.2.1 ∧ q.2.2 = p.2.2 ∧ (p.2.2 = 0 → Alike p.1 q.1)
theorem create_same {M N : MachD} (h : Alike M N) : Same3 (createD M) (createD N) := by
  have hc : (createD N).2 = (createD M).2 := by
    unfold createD firstEmpty
    rw [h.mf, h.e]
    split
    · rfl
    · split <;> rfl
  refine ⟨congrArg Prod.fst hc, congrArg Prod.snd hc, fun h0 => ⟨createD_good h.gm h0, createD_good h.gn ((congrArg Prod.snd hc).trans h0), ?_, ?_⟩⟩
  all_goals
    unfold createD at h0 ⊢
    rw [if_neg (by simpa using h.gm.mf)] at h0
    rw [if_neg (show ¬ machF N ≠ 0 by simpa using h.gn.mf), if_neg (show ¬ machF M ≠ 0 by simpa using h.gm.mf)]
    have e1 : firstEmpty N = firstEmpty M := by unfold firstEmpty; rw [h.e]
    rw [e1]
    by_cases h1 : firstEmpty M < 0
    · rw [if_pos h1] at h0; simp at h0
    · rw [if_neg h1, if_neg h1]
      simp only [h.e, h.f]
theorem start_same {M N : MachD} (h : Alike M N) (e : Int) : Same3 ((startD M e).1, 0, (startD M e).2) ((startD N e).1, 0, (startD N e).2) := by
  have hc : (startD N e).2 = (startD M e).2 := by
    unfold startD
    rw [h.ask]
    split <;> rfl
  refine ⟨rfl, hc, fun h0 => ⟨startD_good h.gm h0, startD_good h.gn (hc.trans h0), ?_, ?_⟩⟩
  all_goals
    have h0 : (startD M e).2 = 0 := h0
    show _ = _
    dsimp only
    unfold startD at h0 ⊢
    rw [h.ask]
    by_cases h1 : askF M e 1 = 0
    · rw [if_neg (by simpa using h1), if_neg (by simpa using h1)]
      simp only [h.e, h.f]
    · rw [if_pos h1] at h0; exact absurd h0 h1
theorem put_same {M N : MachD} (h : Alike M N) (e f p r : Int) : Same3 ((putD M e f p r).1, 0, (putD M e f p r).2) ((putD N e f p r).1, 0, (putD N e f p r).2) := by
  have hc : (putD N e f p r).2 = (putD M e f p r).2 := by
    unfold putD
    rw [h.put]
    split <;> rfl
  refine ⟨rfl, hc, fun h0 => ⟨putD_good h.gm h0, putD_good h.gn (hc.trans h0), ?_, ?_⟩⟩
  all_goals
    have h0 : (putD M e f p r).2 = 0 := h0
    show _ = _
    dsimp only
    unfold putD at h0 ⊢
    rw [h.put]
    by_cases h1 : putF M e f p r = 0
    · rw [if_neg (by simpa using h1), if_neg (by simpa using h1)]
      simp only [h.e]
      try
        unfold putF at h1
        by_cases h2 : askF M e 1 = 0
        · rw [if_neg (by simpa using h2)] at h1
          by_cases h3 : f < 0 ∨ 24 ≤ f
          · rw [if_pos h3] at h1; omega
          obtain ⟨_, k, z, rfl, _⟩ := askF_zero h2
          obtain ⟨i, rfl⟩ : ∃ i : Nat, f = i := ⟨f.toNat, by omega⟩
          obtain ⟨x, hx⟩ : ∃ x, M.frames[i]? = some x := ⟨_, List.getElem?_eq_getElem (by rw [h.gm.fl]; omega)⟩
          obtain ⟨y, hy⟩ : ∃ y, N.frames[i]? = some y := ⟨_, List.getElem?_eq_getElem (by rw [h.gn.fl]; omega)⟩
          rw [Int.toNat_natCast, map_upd _ _ _ _ _ hx, map_upd _ _ _ _ _ hy, h.f]
          rw [seen_of (x := ownF ((k : Int) + 1) p r x) (y := ownF ((k : Int) + 1) p r y) ⟨rfl, rfl, rfl, fun h => absurd (show (k : Int) + 1 = 0 from h) (by omega)⟩]
        · rw [if_pos h2] at h1; exact absurd h1 h2
    · rw [if_pos h1] at h0; exact absurd h0 h1
theorem remove_same {M N : MachD} (h : Alike M N) (e : Int) : Same3 ((removeD M e).1, 0, (removeD M e).2) ((removeD N e).1, 0, (removeD N e).2) := by
  have hc : (removeD N e).2 = (removeD M e).2 := by
    unfold removeD
    rw [h.ask]
    split <;> rfl
  have hg : ∀ L : List FrameD, (L.map fun x => if x.owner = e then bare else x).map seenF = (L.map seenF).map fun t => if t.1 = e then seenF bare else t := fun L => by
    rw [List.map_map, List.map_map]
    refine List.map_congr_left fun x _ => ?_
    show seenF (if x.owner = e then bare else x) = if x.owner = e then seenF bare else seenF x
    split <;> rfl
  refine ⟨rfl, hc, fun h0 => ⟨removeD_good h.gm h0, removeD_good h.gn (hc.trans h0), ?_, ?_⟩⟩
  all_goals
    have h0 : (removeD M e).2 = 0 := h0
    show _ = _
    dsimp only
    unfold removeD at h0 ⊢
    rw [h.ask]
    by_cases h1 : askF M e (-1) = 0
    · rw [if_neg (by simpa using h1), if_neg (by simpa using h1)]
      simp only [h.e, hg, h.f]
    · rw [if_pos h1] at h0; exact absurd h0 h1
theorem peek_same {M N : MachD} (h : Alike M N) (f q : Int) : peekD N f q = peekD M f q := by
  have hf := h.frame f
  have hlo : ∀ (i : Nat) x, M.frames[i]? = some x → 0 ≤ x.owner := fun i x hx => (h.gm.f i x hx).lo
  have h0 : 0 ≤ (frameOf M f).owner := by
    unfold frameOf
    cases hx : M.frames[f.toNat]? with
    | none => exact Int.le_refl 0
    | some x => exact hlo _ x hx
  unfold peekD
  rw [h.word, hf.1]
  split
  · rfl
  · split
    · rfl
    · rw [hf.2 (by omega)]
theorem poke_same {M N : MachD} (h : Alike M N) (f p n : Int) : Same3 ((pokeD M f p n).1, 0, (pokeD M f p n).2) ((pokeD N f p n).1, 0, (pokeD N f p n).2) := by
  have hf := h.frame f
  have hc : (pokeD N f p n).2 = (pokeD M f p n).2 := by
    unfold pokeD
    rw [h.word, hf.1]
    split
    · rfl
    · split
      · rfl
      · split <;> rfl
  refine ⟨rfl, hc, fun h0 => ⟨pokeD_good h.gm h0, pokeD_good h.gn (hc.trans h0), ?_, ?_⟩⟩
  all_goals
    have h0 : (pokeD M f p n).2 = 0 := h0
    show _ = _
    dsimp only
    unfold pokeD at h0 ⊢
    rw [h.word, hf.1]
    by_cases h1 : wordF M f p = 0
    · rw [if_neg (by simpa using h1)] at h0
      simp only [if_neg (show ¬ (wordF M f p ≠ 0) by simpa using h1)]
      by_cases h2 : n < 0 ∨ 65535 < n
      · rw [if_pos h2] at h0; simp at h0
      simp only [if_neg h2]
      by_cases h3 : (frameOf M f).owner = 0
      · simp only [if_pos h3]
        first
          | exact h.e
          | (unfold wordF at h1
             rw [if_neg (by simpa using h.gm.mf)] at h1
             by_cases h4 : f < 0 ∨ 24 ≤ f ∨ p < 0 ∨ 8 ≤ p
             · rw [if_pos h4] at h1; omega
             obtain ⟨i, rfl⟩ : ∃ i : Nat, f = i := ⟨f.toNat, by omega⟩
             obtain ⟨x, hx⟩ : ∃ x, M.frames[i]? = some x := ⟨_, List.getElem?_eq_getElem (by rw [h.gm.fl]; omega)⟩
             obtain ⟨y, hy⟩ : ∃ y, N.frames[i]? = some y := ⟨_, List.getElem?_eq_getElem (by rw [h.gn.fl]; omega)⟩
             have hs := seen_at h.f hx hy
             have hx0 : x.owner = 0 := by
               unfold frameOf at h3
               rw [Int.toNat_natCast, hx] at h3
               exact h3
             rw [Int.toNat_natCast, map_upd _ _ _ _ _ hx, map_upd _ _ _ _ _ hy, h.f]
             refine congrArg _ (seen_of ⟨hs.1, hs.2.1, hs.2.2.1, fun _ => ?_⟩)
             show y.words.set p.toNat n = x.words.set p.toNat n
             rw [hs.2.2.2 hx0])
      · simp only [if_neg h3]
        first | exact h.e | exact h.f
    · rw [if_pos h1] at h0; exact absurd h0 h1
theorem acted_same {M N : MachD} (h : Alike M N) (a : ActD) : Same3 (actedD M a) (actedD N a) := by
  unfold actedD
  split
  · exact create_same h
  split
  · exact put_same h _ _ _ _
  split
  · exact start_same h _
  split
  · exact remove_same h _
  split
  · exact ⟨by rw [peek_same h], by rw [peek_same h], fun _ => h⟩
  · exact poke_same h _ _ _
theorem acted_good {M : MachD} (h : Good M) (a : ActD) (h0 : (actedD M a).2.2 = 0) : Good (actedD M a).1 := (acted_same ⟨h, h, rfl, rfl⟩ a).2.2 h0 |>.gm

/-- The loop of acts: (machines, false: they differ). -/
def blindL : List ActD → MachD → MachD → Bool × MachD × MachD
  | [], M, N => (true, M, N)
  | a :: l, M, N => if (actedD M a).2.2 ≠ (actedD N a).2.2 ∨ (actedD M a).2.1 ≠ (actedD N a).2.1 then (false, M, N) else
    if (actedD M a).2.2 = 0 then blindL l (actedD M a).1 (actedD N a).1 else blindL l M N


/-- The words written anew, up to k. -/
def fillW (f : Nat → Int) : Nat → List Int → List Int
  | 0, l => l
  | k + 1, l => (fillW f k l).set k (f k)
theorem fillW_len (f : Nat → Int) (k : Nat) (l : List Int) : (fillW f k l).length = l.length := by
  induction k with
  | zero => rfl
  | succ k ih => rw [fillW, List.length_set, ih]
theorem fillW_in {f : Nat → Int} (hf : ∀ k, 0 ≤ f k ∧ f k ≤ 65535) (k : Nat) {l : List Int} (h : ∀ n ∈ l, 0 ≤ n ∧ n ≤ 65535) : ∀ n ∈ fillW f k l, 0 ≤ n ∧ n ≤ 65535 := by
  induction k with
  | zero => exact h
  | succ k ih =>
    intro n hn
    rcases List.mem_or_eq_of_mem_set hn with hn | rfl
    · exact ih n hn
    · exact hf k
theorem set_self_map {L : List FrameD} {i : Nat} {x : FrameD} (hx : L[i]? = some x) : (L.map seenF).set i (seenF x) = L.map seenF := by
  apply List.ext_getElem?
  intro k
  by_cases hk : i = k
  · subst hk
    have hl : i < (L.map seenF).length := by rw [List.length_map]; exact (List.getElem?_eq_some_iff.1 hx).1
    rw [List.getElem?_set_self hl, List.getElem?_map, hx]
    rfl
  · rw [List.getElem?_set_ne hk]
/-- A frame of an enclave with other words. -/
def fillX (f : Nat → Int) (x : FrameD) : FrameD := if 0 < x.owner then { x with words := fillW f 8 x.words } else x
def fillF (f : Nat → Int) : Nat → List FrameD → List FrameD
  | 0, l => l
  | i + 1, l => upd (fillF f i l) i (fillX f)
theorem fillF_ge (f : Nat → Int) (l : List FrameD) (i : Nat) : ∀ j, i ≤ j → (fillF f i l)[j]? = l[j]? := by
  induction i with
  | zero => exact fun _ _ => rfl
  | succ i ih =>
    intro j hj
    rw [fillF]
    unfold upd
    split
    · rw [List.getElem?_set_ne (by omega)]
      exact ih j (by omega)
    · exact ih j (by omega)
theorem fillF_len (f : Nat → Int) (l : List FrameD) (i : Nat) : (fillF f i l).length = l.length := by
  induction i with
  | zero => rfl
  | succ i ih => rw [fillF, upd_len, ih]
theorem fillX_seen (f : Nat → Int) (x : FrameD) : seenF (fillX f x) = seenF x := by
  unfold fillX
  split
  · exact seen_of ⟨rfl, rfl, rfl, fun h => by omega⟩
  · rfl
theorem fill_alike {M : MachD} (h : Good M) {f : Nat → Int} (hf : ∀ k, 0 ≤ f k ∧ f k ≤ 65535) (i : Nat) : Alike M ⟨fillF f i M.frames, M.encl, M.quotes⟩ := by
  induction i with
  | zero => exact ⟨h, h, rfl, rfl⟩
  | succ i ih =>
    cases hx : (fillF f i M.frames)[i]? with
    | none =>
      have e : fillF f (i + 1) M.frames = fillF f i M.frames := by rw [fillF]; unfold upd; rw [hx]
      rw [e]
      exact ih
    | some x =>
      have e : fillF f (i + 1) M.frames = (fillF f i M.frames).set i (fillX f x) := by rw [fillF, upd_some hx]
      rw [e]
      have hg := ih.gn
      have ho := hg.f i x hx
      refine ⟨h, hg.setF hx ?_ ?_, rfl, ?_⟩
      · unfold fillX
        split
        · exact ⟨by rw [fillW_len]; exact ho.len, fillW_in hf 8 ho.w, ho.lo, ho.hi, fun h0 => ho.free h0, ho.pl, ho.rights, ho.own⟩
        · exact ho
      · intro h0 j y hj hy
        have e1 : (fillX f x).owner = x.owner := by unfold fillX; split <;> rfl
        have e2 : (fillX f x).pl = x.pl := by unfold fillX; split <;> rfl
        rw [e1, e2]
        rw [e1] at h0
        exact hg.u i j x y (by omega) hx hy h0
      · show List.map seenF _ = _
        rw [List.map_set, fillX_seen, set_self_map hx]
        exact ih.f
end Go.Proofs.YtbamacddfonloaaGreatDoor
