/- run's core.step, walked. Conditions: those that the contract writes. -/
import Derived.Test.YtklbbjionoeofaaGreatDoorGm
import Derived.StillTailTactics
namespace Go.Proofs.YtklbbjionoeofaaGreatDoor
open Go.RowKit

theorem truth_any (b : Bool) (w : World) : Calls Tryz.prog 100 #[.bool b] w fun x w' => x = .returned (.int .i64 (if b then 1 else 0)) ∧ w' = w := by
  cases b
  all_goals
    go_enter Tryz.func100, Tryz.ntmps100
    go_wp2
    go_ret
    exact ⟨rfl, rfl⟩

set_option linter.unusedSimpArgs false in
set_option maxRecDepth 10000 in
set_option maxHeartbeats 3200000 in
theorem coreStep (W0 : World) (lo base mb cb : Nat) (e : Int) (C : CoreD) (E : List EnclD) (F : List (FrameD × Value)) (fv ev qv : Value) (x : EnclD) (w : World) (h : Co W0 lo base mb cb e C E F fv ev qv w) (hc : CoreOk C) (hE : E.length = 4) (he : 1 ≤ e ∧ e ≤ 4) (hx : E[(e - 1).toNat]? = some x) :
    Calls Tryz.prog 87 #[.pointer (some ⟨cb, 0, none⟩)] w (StepRes W0 lo base mb cb e x.log C E fv ev w) := by
  have HS := hid (fun t => Sx.of h t)
  have HC := hid hc
  have plo := hc.lo
  have phi := hc.hi
  have HX := hid (⟨hE, he, hx⟩ : E.length = 4 ∧ (1 ≤ e ∧ e ≤ 4) ∧ E[(e - 1).toNat]? = some x)
  have k2 := h.k2
  clear h hc hE he hx
  have hw1 : IntKind.i64.wrap (C.pc + 1) = C.pc + 1 := by rw [IntKind.wrap_i64]; omega
  have tok1 : True := trivial
  have tok2 : True := trivial
  go_enter Tryz.func87, Tryz.ntmps87
  go_wp2_with fail
  refine act_gen (Sx w W0 lo base mb cb e C E F fv ev qv) (HS.out _) ?_
  clear HS k2
  intro W1 H1
  have k2 := H1.co.k2
  have H1 := hid H1
  go_region_held3 (fun w' => w'.cell? ⟨cb, 2, none⟩ = some (.int .i64 C.pc))
    (first | go_keep | exact p2 | exact q2)
    (first
      | (go_at_call 99
         have _t := tok1
         refine (coreAtP (H1.out.co.later (by go_grown)) HC.out C.pc 4 (by omega) (by omega) (.inr (.inr rfl))).mono ?_
         rintro x1 w1 ⟨pa, rfl, hb1, ha1⟩
         have S1 := hid (H1.out.later (Below.trans (by go_grown) (hb1.mono (by go_size))))
         have p2 := S1.out.co.k2
         clear tok1)
      | (go_at_call 99
         have _t := tok2
         refine (coreAtP (S1.out.co.later (by go_grown)) HC.out (C.pc + 1) 4 (by omega) (by omega) (.inr (.inr rfl))).mono ?_
         rintro x2 w2 ⟨pk, rfl, hb2, ha2⟩
         have S2 := hid (S1.out.later (Below.trans (by go_grown) (hb2.mono (by go_size))))
         have q2 := S2.out.co.k2
         clear tok2))
  have HF1 := hid ha1
  have HF2 := hid ha2
  clear hb1 hb2 ha1 ha2 p2
  have r0 := S2.out.g0
  have r1 := S2.out.g1
  have rz := S2.out.gz
  have z2 := S2.out.z
  rcases HF1.out with ⟨hc1, rfl⟩ | ⟨i1, j1, y1, g1, q1, v1, hc1, hm1, _, hu1, hv1, l1, u1, _, _, _, _, rfl⟩
  · have HR : Hid (stepM e x.log C = none) := stepM_no1 hc1
    clear hc1 HF1 HF2
    go_wp2_with fail
    exact bodyPost_ret (v := .tuple #[.agg #[.int .i64 0, .int .i64 0], .bool false]) (by simp only [results, Tryz.results87]; go_simp) rfl (S2.out.no rfl rfl HR.out)
  rcases HF2.out with ⟨hc2, rfl⟩ | ⟨i2, j2, y2, g2, q3, v2, hc2, hm2, _, hu2, hv2, l2, u2, _, _, _, _, rfl⟩
  · have HR : Hid (stepM e x.log C = none) := stepM_no2 hc2
    clear hc2 hc1 HF1 HF2 hm1 hu1 hv1 l1 u1
    go_wp2_with fail
    exact bodyPost_ret (v := .tuple #[.agg #[.int .i64 0, .int .i64 0], .bool false]) (by simp only [results, Tryz.results87]; go_simp) rfl (S2.out.no rfl rfl HR.out)
  have hp64 := cellOf_run hc1
  have HR : Hid (stepM e x.log C = opM e x.log C v1 v2) := by show _ = _; rw [stepM_at hc1 hc2, hv1, hv2]
  obtain ⟨m1, n1⟩ := S2.out.co.st.own.wordAt hm1 hu1
  obtain ⟨m2, n2⟩ := S2.out.co.st.own.wordAt hm2 hu2
  obtain ⟨ai, hai⟩ : ∃ ai : Nat, v1 / 16 % 4 = ai := ⟨(v1 / 16 % 4).toNat, by omega⟩
  obtain ⟨bi, hbi⟩ : ∃ bi : Nat, v1 / 256 % 4 = bi := ⟨(v1 / 256 % 4).toNat, by omega⟩
  have ai4 : (ai : Int) < 4 := by omega
  have bi4 : (bi : Int) < 4 := by omega
  obtain ⟨av, hav⟩ : ∃ av, C.R[ai]? = some av := ⟨_, List.getElem?_eq_getElem (by have := HC.out.regs; omega)⟩
  obtain ⟨bv, hbv⟩ : ∃ bv, C.R[bi]? = some bv := ⟨_, List.getElem?_eq_getElem (by have := HC.out.regs; omega)⟩
  have ka := S2.out.co.st.kr ai av hav
  have kb := S2.out.co.st.kr bi bv hbv
  have cz := S2.out.co.st.rz
  obtain ⟨a0, a1⟩ := HC.out.rw ai av hav
  obtain ⟨b0, b1⟩ := HC.out.rw bi bv hbv
  have HAV := hid hav
  have HBV := hid hbv
  clear HF1 HF2 hc1 hc2 hm1 hm2 hu1 hu2 hv1 hv2 hav hbv k2 S1
  go_wp2_with fail
  go_quiet (fail)
  have hw2 : IntKind.i64.wrap (C.pc + 2) = C.pc + 2 := by rw [IntKind.wrap_i64]; omega
  have k2 := S2.out.co.k2
  go_upto_region 6 with fail
  refine act_gen (Sx w W0 lo base mb cb e { C with pc := C.pc + 2 } E F fv ev qv) ((S2.out.later (below_drewN (Below.refl _ _) _)).setPc (C.pc + 2)) ?_
  clear m1 m2 n1 n2 ka kb cz r0 r1 rz z2 k2 S2
  intro W3 H3
  have r0 := H3.g0
  have r1 := H3.g1
  have rz := H3.gz
  have z3 := H3.z
  have k0 := H3.co.k0
  have k1 := H3.co.k1
  have k2 := H3.co.k2
  have ka := H3.co.st.kr ai av HAV.out
  have cz := H3.co.st.rz
  have cz2 := H3.co.st.hr
  have nc := H3.nc
  have nc2 : cb ≠ w.heap.size := fun e => nc e.symm
  have H3 := hid H3
  have HC3 : Hid (CoreOk { C with pc := C.pc + 2 }) := ⟨HC.out.len, HC.out.fr, HC.out.regs, HC.out.rw, HC.out.q, by simp only; omega, by simp only; omega⟩
  by_cases o1 : v1 % 16 = 1
  · have HR1 := hid (HR.out.trans (opM_1 hai o1))
    clear HR
    go_wp2_with fail
    exact bodyPost_ret (v := .tuple #[.agg #[.int .i64 0, .int .i64 0], .bool true]) (by simp only [results, Tryz.results87]; go_simp) rfl ((H3.out.setR rfl v2).go HR1.out)
  by_cases o2 : v1 % 16 = 2
  · have HR1 : Hid (stepM e x.log C = some ({ C with pc := C.pc + 2, R := C.R.set ai (bits .and .i64 (av + bv) 65535) }, none)) := by
      show _ = _
      rw [and_word _ (by omega) (by omega)]
      exact HR.out.trans (opM_2 hai hbi HAV.out HBV.out o2)
    clear HR
    go_wp2_with fail
    exact bodyPost_ret (v := .tuple #[.agg #[.int .i64 0, .int .i64 0], .bool true]) (by simp only [results, Tryz.results87]; go_simp) rfl ((H3.out.setR rfl _).go HR1.out)
  by_cases o3 : v1 % 16 = 3
  · have HR1 := hid (HR.out.trans (opM_3 hai hbi HAV.out HBV.out o3))
    clear HR
    go_wp2_with fail
    exact bodyPost_ret (v := .tuple #[.agg #[.int .i64 0, .int .i64 0], .bool true]) (by simp only [results, Tryz.results87]; go_simp) rfl ((H3.out.setR rfl _).go HR1.out)
  by_cases o4 : v1 % 16 = 4
  · have HR1 := hid (HR.out.trans (opM_4 hai hbi HAV.out HBV.out o4))
    clear HR
    by_cases hab : av < bv
    · rw [if_pos hab] at HR1
      go_wp2_with (go_at_call 100; refine (truth_any _ _).mono ?_; rintro e w' ⟨rfl, rfl⟩)
      exact bodyPost_ret (v := .tuple #[.agg #[.int .i64 0, .int .i64 0], .bool true]) (by simp only [results, Tryz.results87]; go_simp) rfl ((H3.out.setR rfl _).go HR1.out)
    · rw [if_neg hab] at HR1
      go_wp2_with (go_at_call 100; refine (truth_any _ _).mono ?_; rintro e w' ⟨rfl, rfl⟩)
      exact bodyPost_ret (v := .tuple #[.agg #[.int .i64 0, .int .i64 0], .bool true]) (by simp only [results, Tryz.results87]; go_simp) rfl ((H3.out.setR rfl _).go HR1.out)
  by_cases o5 : v1 % 16 = 5
  · have HR1 := hid (HR.out.trans (opM_5 hai hbi HBV.out o5))
    clear HR
    go_wp2_with fail
    refine (coreAtP H3.out.co HC3.out bv 1 b0 (by omega) (.inl rfl)).mono ?_
    rintro x4 w4 ⟨pw, rfl, hb4, ha4⟩
    have H4 := hid (H3.out.later hb4)
    have r0 := H4.out.g0
    have r1 := H4.out.g1
    have rz := H4.out.gz
    have z3 := H4.out.z
    have k0 := H4.out.co.k0
    have k2 := H4.out.co.k2
    have ka := H4.out.co.st.kr ai av HAV.out
    have cz := H4.out.co.st.rz
    have HA4 := hid ha4
    clear hb4 ha4
    rcases HA4.out with ⟨hc4, rfl⟩ | ⟨i4, j4, y4, g4, q4, v4, hc4, hm4, _, hu4, hv4, l4, u4, _, _, _, _, rfl⟩
    · have HR2 : Hid (stepM e x.log C = none) := by show _ = _; rw [HR1.out]; simp only at hc4; rw [hc4]
      clear HR1 hc4 HA4
      go_wp2_with fail
      exact bodyPost_ret (v := .tuple #[.agg #[.int .i64 0, .int .i64 0], .bool false]) (by simp only [results, Tryz.results87]; go_simp) rfl (H4.out.no rfl rfl HR2.out)
    · have HR2 : Hid (stepM e x.log C = some ({ C with pc := C.pc + 2, R := C.R.set ai v4 }, none)) := by show _ = _; rw [HR1.out]; simp only at hc4 hv4; rw [hc4]; simp only [hv4]
      obtain ⟨m4, n4⟩ := H4.out.co.st.own.wordAt hm4 hu4
      clear HR1 hc4 HA4 hm4 hu4 hv4
      go_wp2_with fail
      exact bodyPost_ret (v := .tuple #[.agg #[.int .i64 0, .int .i64 0], .bool true]) (by simp only [results, Tryz.results87]; go_simp) rfl ((H4.out.setR rfl v4).go HR2.out)
  by_cases o6 : v1 % 16 = 6
  · have HR1 := hid (HR.out.trans (opM_6 hai hbi HAV.out HBV.out o6))
    clear HR
    go_wp2_with fail
    refine (coreAtP H3.out.co HC3.out bv 2 b0 (by omega) (.inr (.inl rfl))).mono ?_
    rintro x4 w4 ⟨pw, rfl, hb4, ha4⟩
    have H4 := hid (H3.out.later hb4)
    have r0 := H4.out.g0
    have r1 := H4.out.g1
    have rz := H4.out.gz
    have z3 := H4.out.z
    have k0 := H4.out.co.k0
    have k2 := H4.out.co.k2
    have ka := H4.out.co.st.kr ai av HAV.out
    have cz := H4.out.co.st.rz
    have HA4 := hid ha4
    clear hb4 ha4
    rcases HA4.out with ⟨hc4, rfl⟩ | ⟨i4, j4, y4, g4, q4, v4, hc4, hm4, hy4, hu4, _, _, _, _, _, _, _, rfl⟩
    · have HR2 : Hid (stepM e x.log C = none) := by show _ = _; rw [HR1.out]; simp only at hc4; rw [hc4]
      clear HR1 hc4 HA4
      go_wp2_with fail
      exact bodyPost_ret (v := .tuple #[.agg #[.int .i64 0, .int .i64 0], .bool false]) (by simp only [results, Tryz.results87]; go_simp) rfl (H4.out.no rfl rfl HR2.out)
    · have HR2 : Hid (stepM e x.log C = some ({ C with pc := C.pc + 2, F := setWord C.F (i4, j4) av }, none)) := by show _ = _; rw [HR1.out]; simp only at hc4; rw [hc4]
      obtain ⟨m4, n4⟩ := H4.out.co.st.own.wordAt hm4 hu4
      have ng : w.heap.size ≠ g4 := fun e => H4.out.off.w i4 _ hm4 g4 rfl e.symm
      have ng2 : g4 ≠ w.heap.size := fun e => ng e.symm
      have HM4 := hid hm4
      have HY4 := hid hy4
      clear HR1 hc4 HA4 hm4 hu4 hy4
      go_wp2_with fail
      exact bodyPost_ret (v := .tuple #[.agg #[.int .i64 0, .int .i64 0], .bool true]) (by simp only [results, Tryz.results87]; go_simp) rfl ((H4.out.setW HY4.out HM4.out).go HR2.out)
  by_cases o7 : v1 % 16 = 7
  · have HR1 := hid (HR.out.trans (opM_7 hai HAV.out o7))
    clear HR
    by_cases h0 : av = 0
    · have h0b : (av == 0) = true := by simp [h0]
      rw [if_pos h0] at HR1
      clear h0
      go_wp2_with fail
      exact bodyPost_ret (v := .tuple #[.agg #[.int .i64 0, .int .i64 0], .bool true]) (by simp only [results, Tryz.results87]; go_simp) rfl ((H3.out.setPc v2).go HR1.out)
    · have h0b : (av == 0) = false := by simp [h0]
      rw [if_neg h0] at HR1
      clear h0
      go_wp2_with fail
      exact bodyPost_ret (v := .tuple #[.agg #[.int .i64 0, .int .i64 0], .bool true]) (by simp only [results, Tryz.results87]; go_simp) rfl (H3.out.go HR1.out)
  by_cases o8 : v1 % 16 = 8
  · have HR1 := hid (HR.out.trans (opM_8 hai HAV.out o8))
    clear HR
    go_wp2_with fail
    exact bodyPost_ret (v := .tuple #[.agg #[.int .i64 1, .int .i64 av], .bool true]) (by simp only [results, Tryz.results87]; go_simp) rfl (H3.out.exits HR1.out)
  by_cases o9 : v1 % 16 = 9
  · have HR1 := hid (HR.out.trans (opM_9 hai HAV.out o9))
    clear HR
    obtain ⟨hE4, ⟨he1, he4⟩, hx⟩ := HX.out
    obtain ⟨qa, qc, rfl⟩ := own_slice H3.out.co.st.own.q
    have o2 := H3.out.co.st.own.e
    rw [hE4] at o2
    obtain ⟨ge, ce, rfl, _, _⟩ := own_some o2 (by decide)
    obtain ⟨ei, rfl⟩ : ∃ ei : Nat, e = (ei : Int) + 1 := ⟨(e - 1).toNat, by omega⟩
    have hei4 : (ei : Int) < 4 := by omega
    have hei0 : (0 : Int) ≤ (ei : Int) := by omega
    rw [show ((ei : Int) + 1 - 1).toNat = ei by omega] at hx
    obtain ⟨_, s1, _, _, _, _, _, sz⟩ := H3.out.co.st.own.enclAt hx
    have m0 := H3.out.co.st.m0
    have m1 := H3.out.co.st.m1
    have m2 := H3.out.co.st.m2
    have mz := H3.out.co.st.mz
    have mh := H3.out.co.st.hm
    by_cases hq : C.Q.length = 40
    · rw [if_pos hq] at HR1
      have hqb : ((C.Q.length : Int) == 40) = true := by rw [beq_iff_eq]; omega
      clear hq o2
      go_wp2_with fail
      exact bodyPost_ret (v := .tuple #[.agg #[.int .i64 0, .int .i64 0], .bool false]) (by simp only [results, Tryz.results87]; go_simp) rfl (H3.out.no rfl rfl HR1.out)
    · rw [if_neg hq] at HR1
      have hqb : ((C.Q.length : Int) == 40) = false := by rw [beq_eq_false_iff_ne]; omega
      clear hq o2
      have hql := HC.out.q
      have hbz : base ≤ W3.heap.size := by have := H3.out.co.st.hb; have := H3.out.co.st.below.size; omega
      obtain ⟨i0, hi0, hz0, hz1, hz2⟩ := info_parts infoQuotes
      have hwe : IntKind.i64.wrap ((ei : Int) + 1 - 1) = ei := by rw [IntKind.wrap_i64]; omega
      have hwe2 : IntKind.i64.wrap (ei : Int) = ei := by rw [IntKind.wrap_i64]; omega
      go_wp2_with fail
      refine wp_region_held_drew (S := fun w' => w'.cell? ⟨cb, 0, none⟩ = some (.pointer (some ⟨mb, 0, none⟩)) ∧ w'.cell? ⟨cb, 1, none⟩ = some (.int .i64 ((ei : Int) + 1)) ∧ w'.cell? ⟨mb, 1, none⟩ = some (.slice (some ⟨ge, 0, none⟩) 4 ce) ∧ w'.cell? ⟨ge, ei * 7 + 1, none⟩ = some (.string x.log) ∧ w'.cell? ⟨cb, 3 + ai, none⟩ = some (.int .i64 av)) (by kernel_rfl) (by refine ⟨?_, ?_, ?_, ?_, ?_⟩ <;> go_simp) (fun hHeld => ?_)
      refine wpAnyH_take (i := 0) (oi := ?o0) (v := ?v0) ?hi0 ?hs0 ?hf0 ?hr0 ?hQ0 ?hy0 ?hS0 ?rest0
      case hi0 => (simp only [List.getElem?_toArray, List.getElem?_cons_succ, List.getElem?_cons_zero]; rfl)
      case hs0 => kernel_rfl
      case hf0 => kernel_rfl
      case hr0 => kernel_rfl
      case hQ0 => exact fun _ _ _ h => h
      case hS0 => assumption
      case hy0 =>
        refine Or.inl ⟨by rfl, ?_⟩
        intro w hSw
        try dsimp only at hSw
        go_simp
        try with_reducible rfl
      try simp only [Act.put, List.setIfInBounds_toArray, List.set_cons_zero, List.set_cons_succ]
      refine wpAnyH_take (i := 1) (oi := ?o1) (v := ?v1) ?hi1 ?hs1 ?hf1 ?hr1 ?hQ1 ?hy1 ?hS1 ?rest1
      case hi1 => (simp only [List.getElem?_toArray, List.getElem?_cons_succ, List.getElem?_cons_zero]; rfl)
      case hs1 => kernel_rfl
      case hf1 => kernel_rfl
      case hr1 => kernel_rfl
      case hQ1 => exact fun _ _ _ h => h
      case hS1 => assumption
      case hy1 =>
        refine Or.inl ⟨by rfl, ?_⟩
        intro w hSw
        try dsimp only at hSw
        go_simp
        try with_reducible rfl
      try simp only [Act.put, List.setIfInBounds_toArray, List.set_cons_zero, List.set_cons_succ]
      refine wpAnyH_take (i := 2) (oi := ?o2) (v := ?v2) ?hi2 ?hs2 ?hf2 ?hr2 ?hQ2 ?hy2 ?hS2 ?rest2
      case hi2 => (simp only [List.getElem?_toArray, List.getElem?_cons_succ, List.getElem?_cons_zero]; rfl)
      case hs2 => kernel_rfl
      case hf2 => kernel_rfl
      case hr2 => kernel_rfl
      case hQ2 => exact fun _ _ _ h => h
      case hS2 => assumption
      case hy2 =>
        refine Or.inl ⟨by rfl, ?_⟩
        intro w hSw
        try dsimp only at hSw
        go_simp
        try with_reducible rfl
      try simp only [Act.put, List.setIfInBounds_toArray, List.set_cons_zero, List.set_cons_succ]
      refine wpAnyH_take (i := 3) (oi := ?o3) (v := ?v3) ?hi3 ?hs3 ?hf3 ?hr3 ?hQ3 ?hy3 ?hS3 ?rest3
      case hi3 => (simp only [List.getElem?_toArray, List.getElem?_cons_succ, List.getElem?_cons_zero]; rfl)
      case hs3 => kernel_rfl
      case hf3 => kernel_rfl
      case hr3 => kernel_rfl
      case hQ3 => exact fun _ _ _ h => h
      case hS3 => assumption
      case hy3 =>
        refine Or.inl ⟨by rfl, ?_⟩
        intro w hSw
        try dsimp only at hSw
        go_simp
        try with_reducible rfl
      try simp only [Act.put, List.setIfInBounds_toArray, List.set_cons_zero, List.set_cons_succ]
      refine wpAnyH_take (i := 4) (oi := ?o4) (v := ?v4) ?hi4 ?hs4 ?hf4 ?hr4 ?hQ4 ?hy4 ?hS4 ?rest4
      case hi4 => (simp only [List.getElem?_toArray, List.getElem?_cons_succ, List.getElem?_cons_zero]; rfl)
      case hs4 => kernel_rfl
      case hf4 => kernel_rfl
      case hr4 => kernel_rfl
      case hQ4 => exact fun _ _ _ h => h
      case hS4 => assumption
      case hy4 =>
        refine Or.inl ⟨by rfl, ?_⟩
        intro w hSw
        try dsimp only at hSw
        go_simp
        try with_reducible rfl
      try simp only [Act.put, List.setIfInBounds_toArray, List.set_cons_zero, List.set_cons_succ]
      refine wpAnyH_take (i := 5) (oi := ?o5) (v := ?v5) ?hi5 ?hs5 ?hf5 ?hr5 ?hQ5 ?hy5 ?hS5 ?rest5
      case hi5 => (simp only [List.getElem?_toArray, List.getElem?_cons_succ, List.getElem?_cons_zero]; rfl)
      case hs5 => kernel_rfl
      case hf5 => kernel_rfl
      case hr5 => kernel_rfl
      case hQ5 => exact fun _ _ _ h => h
      case hS5 => assumption
      case hy5 =>
        refine Or.inl ⟨by rfl, ?_⟩
        intro w hSw
        try dsimp only at hSw
        go_simp
        try with_reducible rfl
      try simp only [Act.put, List.setIfInBounds_toArray, List.set_cons_zero, List.set_cons_succ]
      refine wpAnyH_take (i := 6) (oi := ?o6) (v := ?v6) ?hi6 ?hs6 ?hf6 ?hr6 ?hQ6 ?hy6 ?hS6 ?rest6
      case hi6 => (simp only [List.getElem?_toArray, List.getElem?_cons_succ, List.getElem?_cons_zero]; rfl)
      case hs6 => kernel_rfl
      case hf6 => kernel_rfl
      case hr6 => kernel_rfl
      case hQ6 => exact fun _ _ _ h => h
      case hS6 => assumption
      case hy6 =>
        refine Or.inl ⟨by rfl, ?_⟩
        intro w hSw
        try dsimp only at hSw
        go_simp
        try with_reducible rfl
      try simp only [Act.put, List.setIfInBounds_toArray, List.set_cons_zero, List.set_cons_succ]
      refine wpAnyH_take (i := 7) (oi := ?o7) (v := ?v7) ?hi7 ?hs7 ?hf7 ?hr7 ?hQ7 ?hy7 ?hS7 ?rest7
      case hi7 => (simp only [List.getElem?_toArray, List.getElem?_cons_succ, List.getElem?_cons_zero]; rfl)
      case hs7 => kernel_rfl
      case hf7 => kernel_rfl
      case hr7 => kernel_rfl
      case hQ7 => exact fun _ _ _ h => h
      case hS7 => assumption
      case hy7 =>
        refine Or.inl ⟨by rfl, ?_⟩
        intro w hSw
        try dsimp only at hSw
        go_simp
        try with_reducible rfl
      try simp only [Act.put, List.setIfInBounds_toArray, List.set_cons_zero, List.set_cons_succ]
      refine wpAnyH_take (i := 8) (oi := ?o8) (v := ?v8) ?hi8 ?hs8 ?hf8 ?hr8 ?hQ8 ?hy8 ?hS8 ?rest8
      case hi8 => (simp only [List.getElem?_toArray, List.getElem?_cons_succ, List.getElem?_cons_zero]; rfl)
      case hs8 => kernel_rfl
      case hf8 => kernel_rfl
      case hr8 => kernel_rfl
      case hQ8 => exact fun _ _ _ h => h
      case hS8 => assumption
      case hy8 =>
        refine Or.inl ⟨by rfl, ?_⟩
        intro w hSw
        try dsimp only at hSw
        go_simp
        try with_reducible rfl
      try simp only [Act.put, List.setIfInBounds_toArray, List.set_cons_zero, List.set_cons_succ]
      refine wpAnyH_take (i := 9) (oi := ?o9) (v := ?v9) ?hi9 ?hs9 ?hf9 ?hr9 ?hQ9 ?hy9 ?hS9 ?rest9
      case hi9 => (simp only [List.getElem?_toArray, List.getElem?_cons_succ, List.getElem?_cons_zero]; rfl)
      case hs9 => kernel_rfl
      case hf9 => kernel_rfl
      case hr9 => kernel_rfl
      case hQ9 => exact fun _ _ _ h => h
      case hS9 => assumption
      case hy9 =>
        refine Or.inl ⟨by rfl, ?_⟩
        intro w hSw
        try dsimp only at hSw
        go_simp
        try with_reducible rfl
      try simp only [Act.put, List.setIfInBounds_toArray, List.set_cons_zero, List.set_cons_succ]
      refine wpAnyH_take (i := 11) (oi := ?o11) (v := ?v11) ?hi11 ?hs11 ?hf11 ?hr11 ?hQ11 ?hy11 ?hS11 ?rest11
      case hi11 => (simp only [List.getElem?_toArray, List.getElem?_cons_succ, List.getElem?_cons_zero]; rfl)
      case hs11 => kernel_rfl
      case hf11 => kernel_rfl
      case hr11 => kernel_rfl
      case hQ11 => exact fun _ _ _ h => h
      case hS11 => assumption
      case hy11 =>
        refine Or.inl ⟨by rfl, ?_⟩
        intro w hSw
        try dsimp only at hSw
        go_simp
        try with_reducible rfl
      try simp only [Act.put, List.setIfInBounds_toArray, List.set_cons_zero, List.set_cons_succ]
      refine wpAnyH_take (i := 12) (oi := ?o12) (v := ?v12) ?hi12 ?hs12 ?hf12 ?hr12 ?hQ12 ?hy12 ?hS12 ?rest12
      case hi12 => (simp only [List.getElem?_toArray, List.getElem?_cons_succ, List.getElem?_cons_zero]; rfl)
      case hs12 => kernel_rfl
      case hf12 => kernel_rfl
      case hr12 => kernel_rfl
      case hQ12 => exact fun _ _ _ h => h
      case hS12 => assumption
      case hy12 =>
        refine Or.inl ⟨by rfl, ?_⟩
        intro w hSw
        try dsimp only at hSw
        go_simp
        try with_reducible rfl
      try simp only [Act.put, List.setIfInBounds_toArray, List.set_cons_zero, List.set_cons_succ]
      refine wpAnyH_take (i := 13) (oi := ?o13) (v := ?v13) ?hi13 ?hs13 ?hf13 ?hr13 ?hQ13 ?hy13 ?hS13 ?rest13
      case hi13 => (simp only [List.getElem?_toArray, List.getElem?_cons_succ, List.getElem?_cons_zero]; rfl)
      case hs13 => kernel_rfl
      case hf13 => kernel_rfl
      case hr13 => kernel_rfl
      case hQ13 => exact fun _ _ _ h => h
      case hS13 => assumption
      case hy13 =>
        refine Or.inl ⟨by rfl, ?_⟩
        intro w hSw
        try dsimp only at hSw
        go_simp
        try with_reducible rfl
      try simp only [Act.put, List.setIfInBounds_toArray, List.set_cons_zero, List.set_cons_succ]
      refine wpAnyH_take (i := 14) (oi := ?o14) (v := ?v14) ?hi14 ?hs14 ?hf14 ?hr14 ?hQ14 ?hy14 ?hS14 ?rest14
      case hi14 => (simp only [List.getElem?_toArray, List.getElem?_cons_succ, List.getElem?_cons_zero]; rfl)
      case hs14 => kernel_rfl
      case hf14 => kernel_rfl
      case hr14 => kernel_rfl
      case hQ14 => exact fun _ _ _ h => h
      case hS14 => assumption
      case hy14 =>
        refine Or.inl ⟨by rfl, ?_⟩
        intro w hSw
        try dsimp only at hSw
        go_simp
        try with_reducible rfl
      try simp only [Act.put, List.setIfInBounds_toArray, List.set_cons_zero, List.set_cons_succ]
      refine wpAnyH_take (i := 15) (oi := ?o15) (v := ?v15) ?hi15 ?hs15 ?hf15 ?hr15 ?hQ15 ?hy15 ?hS15 ?rest15
      case hi15 => (simp only [List.getElem?_toArray, List.getElem?_cons_succ, List.getElem?_cons_zero]; rfl)
      case hs15 => kernel_rfl
      case hf15 => kernel_rfl
      case hr15 => kernel_rfl
      case hQ15 => exact fun _ _ _ h => h
      case hS15 => assumption
      case hy15 =>
        refine Or.inl ⟨by rfl, ?_⟩
        intro w hSw
        try dsimp only at hSw
        go_simp
        try with_reducible rfl
      try simp only [Act.put, List.setIfInBounds_toArray, List.set_cons_zero, List.set_cons_succ]
      refine wpAnyH_take (i := 16) (oi := ?o16) (v := ?v16) ?hi16 ?hs16 ?hf16 ?hr16 ?hQ16 ?hy16 ?hS16 ?rest16
      case hi16 => (simp only [List.getElem?_toArray, List.getElem?_cons_succ, List.getElem?_cons_zero]; rfl)
      case hs16 => kernel_rfl
      case hf16 => kernel_rfl
      case hr16 => kernel_rfl
      case hQ16 => exact fun _ _ _ h => h
      case hS16 => assumption
      case hy16 =>
        refine Or.inl ⟨by rfl, ?_⟩
        intro w hSw
        try dsimp only at hSw
        go_simp
        try with_reducible rfl
      try simp only [Act.put, List.setIfInBounds_toArray, List.set_cons_zero, List.set_cons_succ]
      refine wpAnyH_take (i := 17) (oi := ?o17) (v := ?v17) ?hi17 ?hs17 ?hf17 ?hr17 ?hQ17 ?hy17 ?hS17 ?rest17
      case hi17 => (simp only [List.getElem?_toArray, List.getElem?_cons_succ, List.getElem?_cons_zero]; rfl)
      case hs17 => kernel_rfl
      case hf17 => kernel_rfl
      case hr17 => kernel_rfl
      case hQ17 => exact fun _ _ _ h => h
      case hS17 => assumption
      case hy17 =>
        refine Or.inl ⟨by rfl, ?_⟩
        intro w hSw
        try dsimp only at hSw
        go_simp
        try with_reducible rfl
      try simp only [Act.put, List.setIfInBounds_toArray, List.set_cons_zero, List.set_cons_succ]
      refine wpAnyH_take (i := 18) (oi := ?o18) (v := ?v18) ?hi18 ?hs18 ?hf18 ?hr18 ?hQ18 ?hy18 ?hS18 ?rest18
      case hi18 => (simp only [List.getElem?_toArray, List.getElem?_cons_succ, List.getElem?_cons_zero]; rfl)
      case hs18 => kernel_rfl
      case hf18 => kernel_rfl
      case hr18 => kernel_rfl
      case hQ18 => exact fun _ _ _ h => h
      case hS18 => assumption
      case hy18 =>
        refine Or.inl ⟨by rfl, ?_⟩
        intro w hSw
        try dsimp only at hSw
        go_simp
        try with_reducible rfl
      try simp only [Act.put, List.setIfInBounds_toArray, List.set_cons_zero, List.set_cons_succ]
      refine wpAnyH_take (i := 19) (oi := ?o19) (v := ?v19) ?hi19 ?hs19 ?hf19 ?hr19 ?hQ19 ?hy19 ?hS19 ?rest19
      case hi19 => (simp only [List.getElem?_toArray, List.getElem?_cons_succ, List.getElem?_cons_zero]; rfl)
      case hs19 => kernel_rfl
      case hf19 => kernel_rfl
      case hr19 => kernel_rfl
      case hQ19 => exact fun _ _ _ h => h
      case hS19 => assumption
      case hy19 =>
        refine Or.inl ⟨by rfl, ?_⟩
        intro w hSw
        try dsimp only at hSw
        go_simp
        try with_reducible rfl
      try simp only [Act.put, List.setIfInBounds_toArray, List.set_cons_zero, List.set_cons_succ]
      refine wpAnyH_take (i := 20) (oi := ?o20) (v := ?v20) ?hi20 ?hs20 ?hf20 ?hr20 ?hQ20 ?hy20 ?hS20 ?rest20
      case hi20 => (simp only [List.getElem?_toArray, List.getElem?_cons_succ, List.getElem?_cons_zero]; rfl)
      case hs20 => kernel_rfl
      case hf20 => kernel_rfl
      case hr20 => kernel_rfl
      case hQ20 => exact fun _ _ _ h => h
      case hS20 => assumption
      case hy20 =>
        refine Or.inl ⟨by rfl, ?_⟩
        intro w hSw
        try dsimp only at hSw
        go_simp
        try with_reducible rfl
      try simp only [Act.put, List.setIfInBounds_toArray, List.set_cons_zero, List.set_cons_succ]
      refine wpAnyH_take (i := 21) (oi := ?o21) (v := ?v21) ?hi21 ?hs21 ?hf21 ?hr21 ?hQ21 ?hy21 ?hS21 ?rest21
      case hi21 => (simp only [List.getElem?_toArray, List.getElem?_cons_succ, List.getElem?_cons_zero]; rfl)
      case hs21 => kernel_rfl
      case hf21 => kernel_rfl
      case hr21 => kernel_rfl
      case hQ21 => exact fun _ _ _ h => h
      case hS21 => assumption
      case hy21 =>
        refine Or.inl ⟨by rfl, ?_⟩
        intro w hSw
        try dsimp only at hSw
        go_simp
        try with_reducible rfl
      try simp only [Act.put, List.setIfInBounds_toArray, List.set_cons_zero, List.set_cons_succ]
      refine wpAnyH_take (i := 22) (oi := ?o22) (v := ?v22) ?hi22 ?hs22 ?hf22 ?hr22 ?hQ22 ?hy22 ?hS22 ?rest22
      case hi22 => (simp only [List.getElem?_toArray, List.getElem?_cons_succ, List.getElem?_cons_zero]; rfl)
      case hs22 => kernel_rfl
      case hf22 => kernel_rfl
      case hr22 => kernel_rfl
      case hQ22 => exact fun _ _ _ h => h
      case hS22 => assumption
      case hy22 =>
        refine Or.inl ⟨by rfl, ?_⟩
        intro w hSw
        try dsimp only at hSw
        go_simp
        try with_reducible rfl
      try simp only [Act.put, List.setIfInBounds_toArray, List.set_cons_zero, List.set_cons_succ]
      refine wpAnyH_take (i := 23) (oi := ?o23) (v := ?v23) ?hi23 ?hs23 ?hf23 ?hr23 ?hQ23 ?hy23 ?hS23 ?rest23
      case hi23 => (simp only [List.getElem?_toArray, List.getElem?_cons_succ, List.getElem?_cons_zero]; rfl)
      case hs23 => kernel_rfl
      case hf23 => kernel_rfl
      case hr23 => kernel_rfl
      case hQ23 => exact fun _ _ _ h => h
      case hS23 => assumption
      case hy23 =>
        refine Or.inl ⟨by rfl, ?_⟩
        intro w hSw
        try dsimp only at hSw
        go_simp
        try with_reducible rfl
      try simp only [Act.put, List.setIfInBounds_toArray, List.set_cons_zero, List.set_cons_succ]
      refine wpAnyH_take (i := 24) (oi := ?o24) (v := ?v24) ?hi24 ?hs24 ?hf24 ?hr24 ?hQ24 ?hy24 ?hS24 ?rest24
      case hi24 => (simp only [List.getElem?_toArray, List.getElem?_cons_succ, List.getElem?_cons_zero]; rfl)
      case hs24 => kernel_rfl
      case hf24 => kernel_rfl
      case hr24 => kernel_rfl
      case hQ24 => exact fun _ _ _ h => h
      case hS24 => assumption
      case hy24 =>
        refine Or.inl ⟨by rfl, ?_⟩
        intro w hSw
        try dsimp only at hSw
        go_simp
        try with_reducible rfl
      try simp only [Act.put, List.setIfInBounds_toArray, List.set_cons_zero, List.set_cons_succ]
      refine wpAnyH_take (i := 25) (oi := ?o25) (v := ?v25) ?hi25 ?hs25 ?hf25 ?hr25 ?hQ25 ?hy25 ?hS25 ?rest25
      case hi25 => (simp only [List.getElem?_toArray, List.getElem?_cons_succ, List.getElem?_cons_zero]; rfl)
      case hs25 => kernel_rfl
      case hf25 => kernel_rfl
      case hr25 => kernel_rfl
      case hQ25 => exact fun _ _ _ h => h
      case hS25 => assumption
      case hy25 =>
        refine Or.inl ⟨by rfl, ?_⟩
        intro w hSw
        try dsimp only at hSw
        go_simp
        try with_reducible rfl
      try simp only [Act.put, List.setIfInBounds_toArray, List.set_cons_zero, List.set_cons_succ]
      refine wpAnyH_take (i := 26) (oi := ?o26) (v := ?v26) ?hi26 ?hs26 ?hf26 ?hr26 ?hQ26 ?hy26 ?hS26 ?rest26
      case hi26 => (simp only [List.getElem?_toArray, List.getElem?_cons_succ, List.getElem?_cons_zero]; rfl)
      case hs26 => kernel_rfl
      case hf26 => kernel_rfl
      case hr26 => kernel_rfl
      case hQ26 => exact fun _ _ _ h => h
      case hS26 => assumption
      case hy26 =>
        refine Or.inl ⟨by rfl, ?_⟩
        intro w hSw
        try dsimp only at hSw
        go_simp
        try with_reducible rfl
      try simp only [Act.put, List.setIfInBounds_toArray, List.set_cons_zero, List.set_cons_succ]
      refine wpAnyH_take (i := 27) (oi := ?o27) (v := ?v27) ?hi27 ?hs27 ?hf27 ?hr27 ?hQ27 ?hy27 ?hS27 ?rest27
      case hi27 => (simp only [List.getElem?_toArray, List.getElem?_cons_succ, List.getElem?_cons_zero]; rfl)
      case hs27 => kernel_rfl
      case hf27 => kernel_rfl
      case hr27 => kernel_rfl
      case hQ27 => exact fun _ _ _ h => h
      case hS27 => assumption
      case hy27 =>
        refine Or.inl ⟨by rfl, ?_⟩
        intro w hSw
        try dsimp only at hSw
        go_simp
        try with_reducible rfl
      try simp only [Act.put, List.setIfInBounds_toArray, List.set_cons_zero, List.set_cons_succ]
      refine wpAnyH_take (i := 28) (oi := ?o28) (v := ?v28) ?hi28 ?hs28 ?hf28 ?hr28 ?hQ28 ?hy28 ?hS28 ?rest28
      case hi28 => (simp only [List.getElem?_toArray, List.getElem?_cons_succ, List.getElem?_cons_zero]; rfl)
      case hs28 => kernel_rfl
      case hf28 => kernel_rfl
      case hr28 => kernel_rfl
      case hQ28 => exact fun _ _ _ h => h
      case hS28 => assumption
      case hy28 =>
        refine Or.inl ⟨by rfl, ?_⟩
        intro w hSw
        try dsimp only at hSw
        go_simp
        try with_reducible rfl
      try simp only [Act.put, List.setIfInBounds_toArray, List.set_cons_zero, List.set_cons_succ]
      refine wpAnyH_take (i := 29) (oi := ?o29) (v := ?v29) ?hi29 ?hs29 ?hf29 ?hr29 ?hQ29 ?hy29 ?hS29 ?rest29
      case hi29 => (simp only [List.getElem?_toArray, List.getElem?_cons_succ, List.getElem?_cons_zero]; rfl)
      case hs29 => kernel_rfl
      case hf29 => kernel_rfl
      case hr29 => kernel_rfl
      case hQ29 => exact fun _ _ _ h => h
      case hS29 => assumption
      case hy29 =>
        refine Or.inl ⟨by rfl, ?_⟩
        intro w hSw
        try dsimp only at hSw
        go_simp
        try with_reducible rfl
      try simp only [Act.put, List.setIfInBounds_toArray, List.set_cons_zero, List.set_cons_succ]
      refine wpAnyH_ready (rs := [10, 30]) (by kernel_rfl) (by simp) ?_
      refine AllReadyH.cons (o := ?oX) ?hX (fun K hK => ?sX) ?mX
      case hX => (simp only [List.getElem?_toArray, List.getElem?_cons_succ, List.getElem?_cons_zero]; rfl)
      case sX =>
        go_simp
        refine hK.out _ _ ?kY (fun hHeld => ?nY)
        case kY => first | exact ⟨p0, p1, p2, p4, p5⟩ | (refine ⟨?_, ?_, ?_, ?_, ?_⟩ <;> (go_simp; done))
        clear hK K
        try simp only [Act.put, List.setIfInBounds_toArray, List.set_cons_zero, List.set_cons_succ]
        refine wpAnyH_ready (rs := [30]) (by kernel_rfl) (by simp) ?_
        refine AllReadyH.cons (o := ?oAX) ?hAX (fun K hK => ?sAX) AllReadyH.nil
        case hAX => (simp only [List.getElem?_toArray, List.getElem?_cons_succ, List.getElem?_cons_zero]; rfl)
        go_simp
        refine hK.out _ _ ?kAX (fun hHeld => ?nAX)
        case kAX => first | exact ⟨p0, p1, p2, p4, p5⟩ | (refine ⟨?_, ?_, ?_, ?_, ?_⟩ <;> (go_simp; done))
        clear hK K
        try simp only [Act.put, List.setIfInBounds_toArray, List.set_cons_zero, List.set_cons_succ]
        refine wpAnyH_ready (rs := [31]) (by kernel_rfl) (by simp) ?_
        refine AllReadyH.cons (o := ?oBX) ?hBX (fun K hK => ?sBX) AllReadyH.nil
        case hBX => (simp only [List.getElem?_toArray, List.getElem?_cons_succ, List.getElem?_cons_zero]; rfl)
        refine step_append_lies _ rfl _ _ 27 rfl base 71 i0 _ 2 24 Tryz.underlying27 hi0 hz0 hz1 hz2 rfl (by decide) (.slice qa C.Q.length qc) C.Q.length (C.Q.flatMap QuoteD.cs) rfl (H3.out.later (by go_grown)).co.st.own.q ⟨W3.heap.size, 0, none⟩ 1 1 [.string x.log, .int .i64 av] rfl rfl (news_new (by simp) #[_, _] _) (by simp [Value.oneCell']) (by decide) (by unfold maxLen; omega) (by omega) (by simp; omega) (W3.heap.size + 1) (by simp) ?_
        intro g cap w4 hrow hg hat hgl
        have S4 := H3.out.later (W' := (W3.alloc (.cells #[.string x.log, .int .i64 av] 71)).drew) (by go_grown)
        have qn1 : some cb ≠ Value.ownBlock (.slice qa C.Q.length qc) := fun e => H3.out.co.st.od.q cb e.symm rfl
        have qn2 : some mb ≠ Value.ownBlock (.slice qa C.Q.length qc) := fun e => H3.out.co.st.om.q mb e.symm rfl
        have qn3 : some ge ≠ Value.ownBlock (.slice qa C.Q.length qc) := fun e => H3.out.co.st.own.eq ge rfl e.symm
        have p0 := hg.cell S4.co.k0 qn1
        have p1 := hg.cell S4.co.k1 qn1
        have p2 := hg.cell S4.co.st.m1 qn2
        have p3 := hg.cell S4.co.st.m2 qn2
        have p4 := hg.cell (S4.co.st.own.enclAt hx).2.1 qn3
        have p5 := hg.cell (S4.co.st.kr ai av HAV.out) qn1
        have p6 : ∀ o, w4.frozen? ⟨mb, o, none⟩ = false := fun o => by rw [hg.frozen_far ⟨mb, o, none⟩ S4.co.st.hm qn2]; exact S4.co.st.mz o
        have H5 := hid (S4.pushQ ⟨x.log, av⟩ hrow rfl hg (by rcases hat with h | h; exact .inl h; exact .inr (by rw [h]; simp)))
        clear S4 hrow hg hat hgl qn1 qn2 qn3
        refine hK.out _ _ ?kBX (fun hHeld => ?nBX)
        case kBX => first | exact ⟨p0, p1, p2, p4, p5⟩ | (refine ⟨?_, ?_, ?_, ?_, ?_⟩ <;> (go_simp; done))
        clear hK K
        try simp only [Act.put, List.setIfInBounds_toArray, List.set_cons_zero, List.set_cons_succ]
        refine wpAnyH_take (i := 32) (oi := ?o32X) (v := ?v32X) ?hi32X ?hs32X ?hf32X ?hr32X ?hQ32X ?hy32X ?hS32X ?rest32X
        case hi32X => (simp only [List.getElem?_toArray, List.getElem?_cons_succ, List.getElem?_cons_zero]; rfl)
        case hs32X => kernel_rfl
        case hf32X => kernel_rfl
        case hr32X => kernel_rfl
        case hQ32X => exact fun _ _ _ h => h
        case hS32X => assumption
        case hy32X =>
          refine Or.inl ⟨by rfl, ?_⟩
          intro w hSw
          try dsimp only at hSw
          go_simp
          try with_reducible rfl
        try simp only [Act.put, List.setIfInBounds_toArray, List.set_cons_zero, List.set_cons_succ]
        refine wpAnyH_take (i := 33) (oi := ?o33X) (v := ?v33X) ?hi33X ?hs33X ?hf33X ?hr33X ?hQ33X ?hy33X ?hS33X ?rest33X
        case hi33X => (simp only [List.getElem?_toArray, List.getElem?_cons_succ, List.getElem?_cons_zero]; rfl)
        case hs33X => kernel_rfl
        case hf33X => kernel_rfl
        case hr33X => kernel_rfl
        case hQ33X => exact fun _ _ _ h => h
        case hS33X => assumption
        case hy33X =>
          refine Or.inl ⟨by rfl, ?_⟩
          intro w hSw
          try dsimp only at hSw
          go_simp
          try with_reducible rfl
        try simp only [Act.put, List.setIfInBounds_toArray, List.set_cons_zero, List.set_cons_succ]
        refine wpAnyH_ready (rs := [34]) (by kernel_rfl) (by simp) ?_
        refine AllReadyH.cons (o := ?oCX) ?hCX (fun K hK => ?sCX) AllReadyH.nil
        case hCX => (simp only [List.getElem?_toArray, List.getElem?_cons_succ, List.getElem?_cons_zero]; rfl)
        go_simp
        refine hK.out _ _ ?kCX (fun hHeld => ?nCX)
        case kCX => first | exact ⟨p0, p1, p2, p4, p5⟩ | (refine ⟨?_, ?_, ?_, ?_, ?_⟩ <;> (go_simp; done))
        clear hK K
        try simp only [Act.put, List.setIfInBounds_toArray, List.set_cons_zero, List.set_cons_succ]
        refine wpAnyH_done (by kernel_rfl) ?_ _
        refine act_gen (Sx w W0 lo base mb cb ((ei : Int) + 1) { C with pc := C.pc + 2, Q := C.Q ++ [⟨x.log, av⟩] } E F fv (.slice (some ⟨ge, 0, none⟩) 4 ce) (.slice (some ⟨g, 0, none⟩) (C.Q.length + 1) cap)) H5.out ?_
        clear r0 r1 rz z3 H5 H3 p0 p1 p2 p3 p4 p5 p6
        intro W5 H5
        have r0 := H5.g0
        have r1 := H5.g1
        have rz := H5.gz
        have z3 := H5.z
        go_wp2_with fail
        exact bodyPost_ret (v := .tuple #[.agg #[.int .i64 0, .int .i64 0], .bool true]) (by simp only [results, Tryz.results87]; go_simp) rfl (H5.go HR1.out)
      refine AllReadyH.cons (o := ?oZ) ?hZ (fun K hK => ?sZ) AllReadyH.nil
      case hZ => (simp only [List.getElem?_toArray, List.getElem?_cons_succ, List.getElem?_cons_zero]; rfl)
      go_simp
      refine hK.out _ _ ?kZ (fun hHeld => ?nZ)
      case kZ => first | exact ⟨p0, p1, p2, p4, p5⟩ | (refine ⟨?_, ?_, ?_, ?_, ?_⟩ <;> (go_simp; done))
      clear hK K
      try simp only [Act.put, List.setIfInBounds_toArray, List.set_cons_zero, List.set_cons_succ]
      refine wpAnyH_ready (rs := [10]) (by kernel_rfl) (by simp) ?_
      refine AllReadyH.cons (o := ?oAZ) ?hAZ (fun K hK => ?sAZ) AllReadyH.nil
      case hAZ => (simp only [List.getElem?_toArray, List.getElem?_cons_succ, List.getElem?_cons_zero]; rfl)
      go_simp
      refine hK.out _ _ ?kAZ (fun hHeld => ?nAZ)
      case kAZ => first | exact ⟨p0, p1, p2, p4, p5⟩ | (refine ⟨?_, ?_, ?_, ?_, ?_⟩ <;> (go_simp; done))
      clear hK K
      try simp only [Act.put, List.setIfInBounds_toArray, List.set_cons_zero, List.set_cons_succ]
      refine wpAnyH_ready (rs := [31]) (by kernel_rfl) (by simp) ?_
      refine AllReadyH.cons (o := ?oBZ) ?hBZ (fun K hK => ?sBZ) AllReadyH.nil
      case hBZ => (simp only [List.getElem?_toArray, List.getElem?_cons_succ, List.getElem?_cons_zero]; rfl)
      refine step_append_lies _ rfl _ _ 27 rfl base 71 i0 _ 2 24 Tryz.underlying27 hi0 hz0 hz1 hz2 rfl (by decide) (.slice qa C.Q.length qc) C.Q.length (C.Q.flatMap QuoteD.cs) rfl (H3.out.later (by go_grown)).co.st.own.q ⟨W3.heap.size, 0, none⟩ 1 1 [.string x.log, .int .i64 av] rfl rfl (news_new (by simp) #[_, _] _) (by simp [Value.oneCell']) (by decide) (by unfold maxLen; omega) (by omega) (by simp; omega) (W3.heap.size + 1) (by simp) ?_
      intro g cap w4 hrow hg hat hgl
      have S4 := H3.out.later (W' := (W3.alloc (.cells #[.string x.log, .int .i64 av] 71)).drew) (by go_grown)
      have qn1 : some cb ≠ Value.ownBlock (.slice qa C.Q.length qc) := fun e => H3.out.co.st.od.q cb e.symm rfl
      have qn2 : some mb ≠ Value.ownBlock (.slice qa C.Q.length qc) := fun e => H3.out.co.st.om.q mb e.symm rfl
      have qn3 : some ge ≠ Value.ownBlock (.slice qa C.Q.length qc) := fun e => H3.out.co.st.own.eq ge rfl e.symm
      have p0 := hg.cell S4.co.k0 qn1
      have p1 := hg.cell S4.co.k1 qn1
      have p2 := hg.cell S4.co.st.m1 qn2
      have p3 := hg.cell S4.co.st.m2 qn2
      have p4 := hg.cell (S4.co.st.own.enclAt hx).2.1 qn3
      have p5 := hg.cell (S4.co.st.kr ai av HAV.out) qn1
      have p6 : ∀ o, w4.frozen? ⟨mb, o, none⟩ = false := fun o => by rw [hg.frozen_far ⟨mb, o, none⟩ S4.co.st.hm qn2]; exact S4.co.st.mz o
      have H5 := hid (S4.pushQ ⟨x.log, av⟩ hrow rfl hg (by rcases hat with h | h; exact .inl h; exact .inr (by rw [h]; simp)))
      clear S4 hrow hg hat hgl qn1 qn2 qn3
      refine hK.out _ _ ?kBZ (fun hHeld => ?nBZ)
      case kBZ => first | exact ⟨p0, p1, p2, p4, p5⟩ | (refine ⟨?_, ?_, ?_, ?_, ?_⟩ <;> (go_simp; done))
      clear hK K
      try simp only [Act.put, List.setIfInBounds_toArray, List.set_cons_zero, List.set_cons_succ]
      refine wpAnyH_take (i := 32) (oi := ?o32Z) (v := ?v32Z) ?hi32Z ?hs32Z ?hf32Z ?hr32Z ?hQ32Z ?hy32Z ?hS32Z ?rest32Z
      case hi32Z => (simp only [List.getElem?_toArray, List.getElem?_cons_succ, List.getElem?_cons_zero]; rfl)
      case hs32Z => kernel_rfl
      case hf32Z => kernel_rfl
      case hr32Z => kernel_rfl
      case hQ32Z => exact fun _ _ _ h => h
      case hS32Z => assumption
      case hy32Z =>
        refine Or.inl ⟨by rfl, ?_⟩
        intro w hSw
        try dsimp only at hSw
        go_simp
        try with_reducible rfl
      try simp only [Act.put, List.setIfInBounds_toArray, List.set_cons_zero, List.set_cons_succ]
      refine wpAnyH_take (i := 33) (oi := ?o33Z) (v := ?v33Z) ?hi33Z ?hs33Z ?hf33Z ?hr33Z ?hQ33Z ?hy33Z ?hS33Z ?rest33Z
      case hi33Z => (simp only [List.getElem?_toArray, List.getElem?_cons_succ, List.getElem?_cons_zero]; rfl)
      case hs33Z => kernel_rfl
      case hf33Z => kernel_rfl
      case hr33Z => kernel_rfl
      case hQ33Z => exact fun _ _ _ h => h
      case hS33Z => assumption
      case hy33Z =>
        refine Or.inl ⟨by rfl, ?_⟩
        intro w hSw
        try dsimp only at hSw
        go_simp
        try with_reducible rfl
      try simp only [Act.put, List.setIfInBounds_toArray, List.set_cons_zero, List.set_cons_succ]
      refine wpAnyH_ready (rs := [34]) (by kernel_rfl) (by simp) ?_
      refine AllReadyH.cons (o := ?oCZ) ?hCZ (fun K hK => ?sCZ) AllReadyH.nil
      case hCZ => (simp only [List.getElem?_toArray, List.getElem?_cons_succ, List.getElem?_cons_zero]; rfl)
      go_simp
      refine hK.out _ _ ?kCZ (fun hHeld => ?nCZ)
      case kCZ => first | exact ⟨p0, p1, p2, p4, p5⟩ | (refine ⟨?_, ?_, ?_, ?_, ?_⟩ <;> (go_simp; done))
      clear hK K
      try simp only [Act.put, List.setIfInBounds_toArray, List.set_cons_zero, List.set_cons_succ]
      refine wpAnyH_done (by kernel_rfl) ?_ _
      refine act_gen (Sx w W0 lo base mb cb ((ei : Int) + 1) { C with pc := C.pc + 2, Q := C.Q ++ [⟨x.log, av⟩] } E F fv (.slice (some ⟨ge, 0, none⟩) 4 ce) (.slice (some ⟨g, 0, none⟩) (C.Q.length + 1) cap)) H5.out ?_
      clear r0 r1 rz z3 H5 H3 p0 p1 p2 p3 p4 p5 p6
      intro W5 H5
      have r0 := H5.g0
      have r1 := H5.g1
      have rz := H5.gz
      have z3 := H5.z
      go_wp2_with fail
      exact bodyPost_ret (v := .tuple #[.agg #[.int .i64 0, .int .i64 0], .bool true]) (by simp only [results, Tryz.results87]; go_simp) rfl (H5.go HR1.out)
  · have HR1 := hid (HR.out.trans (opM_0 (by omega)))
    clear HR
    have o1b : (v1 % 16 == 1) = false := by rw [beq_eq_false_iff_ne]; exact o1
    have o2b : (v1 % 16 == 2) = false := by rw [beq_eq_false_iff_ne]; exact o2
    have o3b : (v1 % 16 == 3) = false := by rw [beq_eq_false_iff_ne]; exact o3
    have o4b : (v1 % 16 == 4) = false := by rw [beq_eq_false_iff_ne]; exact o4
    have o5b : (v1 % 16 == 5) = false := by rw [beq_eq_false_iff_ne]; exact o5
    have o6b : (v1 % 16 == 6) = false := by rw [beq_eq_false_iff_ne]; exact o6
    have o7b : (v1 % 16 == 7) = false := by rw [beq_eq_false_iff_ne]; exact o7
    have o8b : (v1 % 16 == 8) = false := by rw [beq_eq_false_iff_ne]; exact o8
    have o9b : (v1 % 16 == 9) = false := by rw [beq_eq_false_iff_ne]; exact o9
    clear o1 o2 o3 o4 o5 o6 o7 o8 o9
    go_wp2_with fail
    exact bodyPost_ret (v := .tuple #[.agg #[.int .i64 0, .int .i64 0], .bool false]) (by simp only [results, Tryz.results87]; go_simp) rfl (H3.out.no rfl rfl HR1.out)

end Go.Proofs.YtklbbjionoeofaaGreatDoor
