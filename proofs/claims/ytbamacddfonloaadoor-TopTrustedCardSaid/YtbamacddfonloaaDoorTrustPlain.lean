/- host.act and host.Run at any acts; a nonce that is back was told by a quote of who is trusted, each once. Conditions: those that each contract writes. -/
import Derived.Test.YtbamacddfonloaaDoorGv
import Derived.Test.YtbamacddfonloaaDoorHostAct3
import Derived.Test.YtbamacddfonloaaDoorWallsPlain
namespace Go.Proofs.YtbamacddfonloaaDoor
open Go.RowKit

theorem actDoesAll (a : ActD) : ActDoes a := by
  by_cases hk : a.kind = 11
  · intro B h w HA hf hfc hT
    by_cases hb : a.pl < 0 ∨ (h.m.quotes.length : Int) ≤ a.pl
    · exact hostAct_bad B h a w HA hk hb
    · obtain ⟨kind, ae, af, ap, ar, an, afu⟩ := a
      obtain rfl : kind = 11 := hk
      simp only at hb
      obtain ⟨i, rfl⟩ : ∃ i : Nat, ap = i := ⟨ap.toNat, by omega⟩
      exact hostAct_check B h i ae af ar an afu w HA hf hfc (by omega)
  · exact actDoes (fun h => absurd h hk)
theorem hostRunAll (ta0 : Option Addr) (tc0 : Nat) (T : List ByteArray) (a : Option Addr) (cap n : Nat) (L : List ActD) (w : World) (hl : L.length = n) (hS : StrsAt w ta0 T) (hA : ActsAt w a L) (h1 : T.length * 16 ≤ 140737488351232) (h2 : n * 56 ≤ 140737488351232) (hT : Tab w) :
    Calls Tryd.prog 12 #[.slice ta0 T.length tc0, .slice a n cap] w (RunsRes w.heap.size (scriptD T L) w) :=
  hostRun_of ta0 tc0 T a cap n L w hl hS hA h1 h2 hT (fun a _ => actDoesAll a)

/-- What is known of who trusts T: so many nonces are back. -/
structure TrI (T : ByteArray) (cnt : Nat) (h : HostD) : Prop where
  trusts : h.c.trusts = [T]
  made : ∀ (i : Nat), h.c.nonces[i]? = some 1 → ∃ q ∈ h.m.quotes, q.log = T ∧ q.data = (i : Int) + 1
  many : h.c.nonces.countP (fun n => n == 1) = cnt
def okA (a : ActD) (x : AnsD) : Nat := if a.kind = 11 ∧ x.code = 0 then 1 else 0
theorem TrI.more {T : ByteArray} {cnt : Nat} {h : HostD} (hi : TrI T cnt h) {m : MachD} (hq : ∀ q ∈ h.m.quotes, q ∈ m.quotes) : TrI T cnt ⟨m, h.c⟩ :=
  ⟨hi.trusts, fun i hn => by
    obtain ⟨q, h1, h2⟩ := hi.made i hn
    exact ⟨q, hq q h1, h2⟩, hi.many⟩
theorem okA_no {a : ActD} (x : AnsD) (h : a.kind ≠ 11) : okA a x = 0 := if_neg (fun e => h e.1)
theorem keepM_tr {T : ByteArray} {cnt : Nat} {h : HostD} (hi : TrI T cnt h) {m : MachD} {n c : Int} (hq : c = 0 → m.quotes = h.m.quotes) : TrI T cnt (keepM h m n c).1 := by
  unfold keepM
  split
  · exact hi
  · rename_i h0
    exact hi.more (fun q hm => by rw [hq (by simpa using h0)]; exact hm)
theorem createD_q {M : MachD} (h0 : (createD M).2.2 = 0) : (createD M).1.quotes = M.quotes := by
  unfold createD at h0 ⊢
  by_cases h1 : machF M = 0
  · rw [if_neg (by simpa using h1)] at h0 ⊢
    by_cases h2 : firstEmpty M < 0
    · rw [if_pos h2] at h0; simp at h0
    · rw [if_neg h2]
  · rw [if_pos h1] at h0; exact absurd h0 h1
theorem putD_q {M : MachD} {e f p r : Int} (h0 : (putD M e f p r).2 = 0) : (putD M e f p r).1.quotes = M.quotes := by
  unfold putD at h0 ⊢
  by_cases h1 : putF M e f p r = 0
  · rw [if_neg (by simpa using h1)]
  · rw [if_pos h1] at h0; exact absurd h0 h1
theorem measD_q {M : MachD} {e p : Int} (h0 : (measD M e p).2 = 0) : (measD M e p).1.quotes = M.quotes := by
  unfold measD at h0 ⊢
  by_cases h1 : measF M e p = 0
  · rw [if_neg (by simpa using h1)]
  · rw [if_pos h1] at h0; exact absurd h0 h1
theorem startD_q {M : MachD} {e : Int} (h0 : (startD M e).2 = 0) : (startD M e).1.quotes = M.quotes := by
  unfold startD at h0 ⊢
  by_cases h1 : askF M e 1 = 0
  · rw [if_neg (by simpa using h1)]
  · rw [if_pos h1] at h0; exact absurd h0 h1
theorem removeD_q {M : MachD} {e : Int} (h0 : (removeD M e).2 = 0) : (removeD M e).1.quotes = M.quotes := by
  unfold removeD at h0 ⊢
  by_cases h1 : askF M e (-1) = 0
  · rw [if_neg (by simpa using h1)]
  · rw [if_pos h1] at h0; exact absurd h0 h1
theorem pokeD_q {M : MachD} {f p n : Int} (h0 : (pokeD M f p n).2 = 0) : (pokeD M f p n).1.quotes = M.quotes := by
  unfold pokeD at h0 ⊢
  by_cases h1 : wordF M f p = 0
  · rw [if_neg (by simpa using h1)] at h0 ⊢
    by_cases h2 : n < 0 ∨ 65535 < n
    · rw [if_pos h2] at h0; simp at h0
    rw [if_neg h2]
    by_cases h3 : (frameOf M f).owner = 0
    · rw [if_pos h3]
    · rw [if_neg h3]
  · rw [if_pos h1] at h0; exact absurd h0 h1
theorem enterD_q {M : MachD} {e word fuel : Int} (h : Good M) (h0 : (enterD M e word fuel).2.2 = 0) : ∀ q ∈ M.quotes, q ∈ (enterD M e word fuel).1.quotes := by
  unfold enterD at h0 ⊢
  by_cases h1 : mayF M e 2 fuel = 0
  · rw [if_neg (by simpa using h1)] at h0 ⊢
    by_cases h2 : word < 0 ∨ 65535 < word
    · rw [if_pos h2] at h0; simp [noRun] at h0
    rw [if_neg h2]
    obtain ⟨k, y, rfl, _, hy, hs⟩ := askF_encl (mayF_ok h1).1 (by decide)
    rw [show ((k : Int) + 1 - 1).toNat = k by omega, hy]
    have hc : CoreOk (core0 M 0 [word, 0, 0, 0]) := core0_ok h.mf (by omega) rfl (fun j m hk => by
      rcases j with _ | _ | _ | _ | j
      all_goals
        simp at hk
        try subst hk
        try omega)
    obtain ⟨R, hR, _⟩ := (runM_does (e := (k : Int) + 1) (g := y.log) fuel.toNat hc).2
    intro q hq
    show q ∈ (runM ((k : Int) + 1) y.log fuel.toNat (core0 M 0 [word, 0, 0, 0])).1.Q
    rw [hR]
    exact List.mem_append_left _ hq
  · rw [if_pos h1] at h0; exact absurd h0 h1
theorem toListB {a b : ByteArray} (h : a.toList = b.toList) : a = b := by
  rw [ByteArray.toList_eq, ByteArray.toList_eq] at h
  rw [← bytesOf_data a, h, bytesOf_data]
theorem look_tr {T : ByteArray} {cnt : Nat} {h : HostD} (hg : HostOk h) (hi : TrI T cnt h) {i : Nat} {q : QuoteD} (hq : h.m.quotes[i]? = some q) (h0 : (lookD h.c h.m.quotes q).2 = 0) : TrI T (cnt + 1) ⟨h.m, (lookD h.c h.m.quotes q).1⟩ := by
  unfold lookD at h0 ⊢
  rw [if_neg (by simpa using hg.2)] at h0 ⊢
  by_cases h1 : h.m.quotes.any (sameQ q) = false
  · rw [if_pos h1] at h0; simp at h0
  rw [if_neg h1] at h0 ⊢
  by_cases h2 : q.data < 1 ∨ (h.c.nonces.length : Int) < q.data
  · rw [if_pos h2] at h0; simp at h0
  rw [if_neg h2] at h0 ⊢
  by_cases h3 : (h.c.nonces[(q.data - 1).toNat]?).getD 0 ≠ 0
  · rw [if_pos h3] at h0; simp at h0
  rw [if_neg h3] at h0 ⊢
  by_cases h4 : h.c.trusts.any (sameS q.log) = false
  · rw [if_pos h4] at h0; simp at h0
  rw [if_neg h4]
  have hT : q.log = T := by
    have h5 : h.c.trusts.any (sameS q.log) = true := by simpa using h4
    rw [hi.trusts] at h5
    simp only [List.any_cons, List.any_nil, Bool.or_false, sameS, beq_iff_eq] at h5
    exact toListB h5
  obtain ⟨j, hj⟩ : ∃ j : Nat, q.data = (j : Int) + 1 := ⟨(q.data - 1).toNat, by omega⟩
  have hjt : (q.data - 1).toNat = j := by omega
  rw [hjt] at h3 ⊢
  have hjl : j < h.c.nonces.length := by omega
  have hz : h.c.nonces[j] = 0 := by
    have h6 : (h.c.nonces[j]?).getD 0 = 0 := by simpa using h3
    rw [List.getElem?_eq_getElem hjl] at h6
    simpa using h6
  refine ⟨hi.trusts, fun k hk => ?_, ?_⟩
  · simp only at hk
    rcases get_set hk with ⟨e, _⟩ | ⟨_, hk⟩
    · subst e
      exact ⟨q, List.mem_of_getElem? hq, hT, hj⟩
    · exact hi.made k hk
  · simp only
    rw [List.countP_set hjl, hz, hi.many]
    simp
theorem actD_tr {T : ByteArray} {cnt : Nat} {h : HostD} {a : ActD} (h9 : a.kind ≠ 9) (hg : HostOk h) (hi : TrI T cnt h) : TrI T (cnt + okA a (actD h a).2) (actD h a).1 := by
  by_cases hk : a.kind = 11
  · unfold actD
    rw [if_neg (by omega), if_neg (by omega), if_neg (by omega), if_neg (by omega), if_neg (by omega), if_neg (by omega), if_neg (by omega), if_neg (by omega), if_neg (by omega), if_neg (by omega), if_pos hk]
    by_cases hb : a.pl < 0 ∨ (h.m.quotes.length : Int) ≤ a.pl
    · rw [if_pos hb]
      rw [okA, if_neg (by simp)]
      exact hi
    · rw [if_neg hb]
      obtain ⟨i, hil⟩ : ∃ i : Nat, a.pl = i := ⟨a.pl.toNat, by omega⟩
      obtain ⟨q, hq⟩ : ∃ q, h.m.quotes[i]? = some q := ⟨_, List.getElem?_eq_getElem (by omega)⟩
      have hqo : quoteOf h.m a.pl = q := by simp [quoteOf, hil, hq]
      rw [hqo]
      by_cases h0 : (lookD h.c h.m.quotes q).2 = 0
      · rw [h0, keepC_0, okA, if_pos ⟨hk, rfl⟩]
        exact look_tr hg hi hq h0
      · rw [keepC_1 _ _ _ h0, okA, if_neg (fun e => h0 e.2)]
        exact hi
  · rw [okA_no _ hk, Nat.add_zero]
    unfold actD
    by_cases h1 : a.kind = 1
    · rw [if_pos h1]; exact keepM_tr hi createD_q
    rw [if_neg h1]
    by_cases h2 : a.kind = 2
    · rw [if_pos h2]; exact keepM_tr hi putD_q
    rw [if_neg h2]
    by_cases h3 : a.kind = 3
    · rw [if_pos h3]; exact keepM_tr hi measD_q
    rw [if_neg h3]
    by_cases h4 : a.kind = 4
    · rw [if_pos h4]; exact keepM_tr hi startD_q
    rw [if_neg h4]
    by_cases h5 : a.kind = 5
    · rw [if_pos h5]; exact keepM_tr hi removeD_q
    rw [if_neg h5]
    by_cases h6 : a.kind = 6
    · rw [if_pos h6]; exact keepM_tr hi (fun _ => rfl)
    rw [if_neg h6]
    by_cases h7 : a.kind = 7
    · rw [if_pos h7]; exact keepM_tr hi pokeD_q
    rw [if_neg h7]
    by_cases h8 : a.kind = 8
    · rw [if_pos h8]
      unfold keepR
      split
      · exact hi
      · rename_i h0
        exact hi.more (enterD_q hg.1 (by simpa using h0))
    rw [if_neg h8, if_neg h9]
    by_cases h10 : a.kind = 10
    · rw [if_pos h10]
      unfold keepC
      split
      · exact hi
      · rename_i h0
        have h0 : (askD h.c).2.2 = 0 := by simpa using h0
        unfold askD at h0 ⊢
        rw [if_neg (by simpa using hg.2)] at h0 ⊢
        by_cases h11 : h.c.nonces.length = 20
        · rw [if_pos h11] at h0; simp at h0
        rw [if_neg h11]
        refine ⟨hi.trusts, fun i hn => ?_, ?_⟩
        · simp only at hn
          by_cases hlt : i < h.c.nonces.length
          · rw [List.getElem?_append_left hlt] at hn
            exact hi.made i hn
          · rw [List.getElem?_append_right (by omega)] at hn
            cases hc : i - h.c.nonces.length with
            | zero => rw [hc] at hn; simp at hn
            | succ k => rw [hc] at hn; simp at hn
        · simp only
          rw [List.countP_append, hi.many]
          rfl
    · rw [if_neg h10, if_neg hk]; exact hi
/-- So many looks that were taken, among the first. -/
def okTo (L : List ActD) (X : List AnsD) (i : Nat) : Nat := (((L.zip X).take i).map fun p => okA p.1 p.2).sum
theorem okTo_step {L : List ActD} {X : List AnsD} {i : Nat} {a : ActD} {x : AnsD} (ha : L[i]? = some a) (hx : X[i]? = some x) : okTo L X (i + 1) = okTo L X i + okA a x := by
  have hz : (L.zip X)[i]? = some (a, x) := by
    rw [List.getElem?_zip_eq_some]
    exact ⟨ha, hx⟩
  rw [okTo, okTo, take_one hz, List.map_append, List.sum_append]
  simp
theorem okTo_le (L : List ActD) (X : List AnsD) (i : Nat) : okTo L X i ≤ i := by
  have h : ∀ l : List (ActD × AnsD), ((l.map fun p => okA p.1 p.2).sum) ≤ l.length := fun l => by
    induction l with
    | nil => simp
    | cons p l ih =>
      simp only [List.map_cons, List.sum_cons, List.length_cons]
      have : okA p.1 p.2 ≤ 1 := by unfold okA; split <;> omega
      omega
  have := h ((L.zip X).take i)
  rw [List.length_take] at this
  unfold okTo
  omega
theorem actsD_tr (L : List ActD) {T : ByteArray} {cnt : Nat} {h : HostD} (h9 : ∀ a ∈ L, a.kind ≠ 9) (hg : HostOk h) (hi : TrI T cnt h) : TrI T (cnt + okTo L (actsD h L).2 L.length) (actsD h L).1 := by
  induction L generalizing h cnt with
  | nil => simpa [okTo, actsD] using hi
  | cons a l ih =>
    have h1 := ih (fun b hb => h9 b (List.mem_cons_of_mem _ hb)) (actD_ok a hg) (actD_tr (h9 a (List.mem_cons_self ..)) hg hi)
    have e : okTo (a :: l) (actsD h (a :: l)).2 (a :: l).length = okA a (actD h a).2 + okTo l (actsD (actD h a).1 l).2 l.length := by
      simp only [okTo, actsD, List.zip_cons_cons, List.length_cons, List.take_succ_cons, List.map_cons, List.sum_cons]
    rw [e, ← Nat.add_assoc]
    exact h1

/-- Rounds: ask, enter, look twice. -/
def trips (ws : List Int) : Nat → List ActD
  | 0 => []
  | i + 1 => trips ws i ++ [⟨10, 0, 0, 0, 0, 0, 0⟩, ⟨8, 1 + (i : Int) % 2, 0, 0, 0, pickD ((ws[i]?).getD 0) 9, 60⟩, ⟨11, 0, 0, (i : Nat), 0, 0, 0⟩, ⟨11, 0, 0, (i : Int) / 2, 0, 0, 0⟩]
theorem trips_len (ws : List Int) (i : Nat) : (trips ws i).length = 4 * i := by
  induction i with
  | zero => rfl
  | succ i ih => rw [trips, List.length_append, ih]; simp; omega
theorem trips_kind (ws : List Int) (i : Nat) : ∀ a ∈ trips ws i, a.kind ≠ 9 := by
  induction i with
  | zero => intro a ha; simp [trips] at ha
  | succ i ih =>
    intro a ha
    rw [trips] at ha
    rcases List.mem_append.1 ha with ha | ha
    · exact ih a ha
    · simp only [List.mem_cons, List.not_mem_nil, or_false] at ha
      rcases ha with rfl | rfl | rfl | rfl <;> simp
def trL (A B : List PageD) (ws : List Int) (i : Nat) : List ActD := bothL A B ++ trips ws i
theorem plan_kind {L : List PageD} {e fr : Int} : ∀ a ∈ planD L e fr, a.kind ≠ 9 := by
  intro a ha
  simp only [planD, pokesT, putsT, List.mem_append, List.mem_flatten, List.mem_singleton] at ha
  rcases ha with ((⟨K, hK, ha⟩ | rfl) | ⟨K, hK, ha⟩) | rfl
  · obtain ⟨i, _, rfl⟩ := List.mem_mapIdx.1 hK
    simp only [pokesW] at ha
    obtain ⟨j, _, rfl⟩ := List.mem_mapIdx.1 ha
    simp [pokeA]
  · simp [createA]
  · obtain ⟨i, _, rfl⟩ := List.mem_mapIdx.1 hK
    simp only [putsOf, List.mem_cons, List.not_mem_nil, or_false] at ha
    rcases ha with rfl | rfl <;> simp
  · simp [startA]
theorem both_len160 {A B : List PageD} (hA : imageF A = 0) (hB : imageF B = 0) (a6 : A.length ≤ 6) (b6 : B.length ≤ 6) : (planD A 1 0).length + (planD B 2 10).length ≤ 124 := by
  have h1 := pokesT_le (l := A) (fun x hx => PageOk.len (imgF_all hA x hx)) 0 A.length
  have h2 := putsT_le A 1 0 A.length
  have h3 := pokesT_le (l := B) (fun x hx => PageOk.len (imgF_all hB x hx)) 10 B.length
  have h4 := putsT_le B 2 10 B.length
  simp only [planD, List.length_append, List.length_cons, List.length_nil]
  omega
/-- The script's end: who is trusted, so many nonces back. -/
structure TrustD (T : ByteArray) (L : List ActD) (X : List AnsD) (M : MachD) (C : ChalD) : Prop where
  good : Good M
  chal : chalF C = 0
  len : X.length = L.length
  script : scriptD [T] L = ⟨X, M, C, 0⟩
  tr : TrI T (okTo L X L.length) ⟨M, C⟩
theorem trust_ends {A B : List PageD} {ws : List Int} {i : Nat} (hA : imageF A = 0) (hB : imageF B = 0) (a6 : A.length ≤ 6) (b6 : B.length ≤ 6) (hi : i ≤ 6) :
    ∃ X M C, TrustD (bytesOf (expectL A)) (trL A B ws i) X M C := by
  have hsz : (bytesOf (expectL A)).size ≤ 1000 := ((startedM_good hA (fr := 0) (by omega)).e 0 _ (started_encl A 0)).log
  have hch : chalF ⟨[bytesOf (expectL A)], []⟩ = 0 := by
    have hl : longB (bytesOf (expectL A)) = false := by simp only [longB, decide_eq_false_iff_not]; omega
    simp [chalF, hl]
  have hok : HostOk ⟨newD, ⟨[bytesOf (expectL A)], []⟩⟩ := ⟨newD_good, hch⟩
  have hl : (trL A B ws i).length ≤ 148 := by
    have := both_len160 hA hB a6 b6
    have := trips_len ws i
    simp only [trL, bothL, List.length_append]
    omega
  have hs : scriptF [bytesOf (expectL A)] (trL A B ws i) = 0 := by rw [scriptF, if_neg (by simpa using hch), if_neg (by omega)]
  have h9 : ∀ a ∈ trL A B ws i, a.kind ≠ 9 := fun a ha => by
    simp only [trL, bothL, List.mem_append] at ha
    rcases ha with (ha | ha) | ha
    · exact plan_kind a ha
    · exact plan_kind a ha
    · exact trips_kind ws i a ha
  have hE := actsD_ok (trL A B ws i) hok
  have ht := actsD_tr (trL A B ws i) (T := bytesOf (expectL A)) (cnt := 0) h9 hok ⟨rfl, fun i hn => by simp at hn, rfl⟩
  rw [Nat.zero_add] at ht
  exact ⟨(actsD ⟨newD, ⟨[bytesOf (expectL A)], []⟩⟩ (trL A B ws i)).2, _, _, hE.1, hE.2, actsD_len _ _, by rw [scriptD, hs, if_neg (by simp)], ht⟩

end Go.Proofs.YtbamacddfonloaaDoor
