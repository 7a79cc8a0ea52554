/- A deed on both. -/
import Derived.Test.YtgkkffhoflgpoaaGM
set_option linter.unusedSimpArgs false
set_option linter.unusedVariables false
set_option maxRecDepth 4000
set_option maxHeartbeats 4000000
namespace Go.Vx
open Go Go.Proofs

def KDo (s n M R b : Nat) (m0 : Mem) (q : PV) (m1 : Mem) : Prop :=
  q = .bool true ∧ ∃ a' r', JJ a' r' (n + 1) ∧ MRz s a' M m1 (b + 8) ∧ RR r' R m1 (b + 8) ∧ ∀ id, id < b → m0 id = none → m1 id = none
theorem do_end {s n M R b nx : Nat} {a' : Ab} {r' : Rb} {m0 m : Mem} {e : Env} (he : e 6 = some (.bool true)) (hJ : JJ a' r' (n + 1)) (h : MRz s a' M m nx) (hr : RR r' R m nx) (hs : s ≤ b) (hM : M < b) (hR : R < b) (hf : ∀ id, id < b → m0 id = none → m id = none) : EndsK [.tmp 6] b (KDo s n M R b m0) e m := by
  obtain ⟨σ, M', R', m1, h1, h2, h3, h4, h5, h6, h7, h8, h9, h10, h11, h12, h13⟩ := man_out h hr hs
  obtain rfl := h6 hM
  obtain rfl := h7 hR
  refine ⟨.bool true, m1, ⟨rfl, a', r', hJ, h9, h10, fun id hid hn => h13 id hid (hf id hid hn)⟩, .bool true, by simp [resF, resL, RX.ev, he, tup1], [], σ, .inl ⟨rfl, rfl⟩, fun id o ho => ?_, h12, h1⟩
  rw [frz_nil']
  exact h11 id o ho

theorem w_do {s n M R b : Nat} {a : Ab} {r : Rb} {k z N : Int} {key : Str} {m0 : Mem} (hM : MRz s a M m0 b) (hR : RR r R m0 b) (hJ : JJ a r n) (hn : n < 150) :
    VW Try.prog c22 (PRet (EndsK [.tmp 6] b (KDo s n M R b m0))) (fun t => [PV.ptr M 15 0 0, .ptr R 15 0 0, .agg [iv k, iv z, .str key, iv N]][t]?) m0 b := by
  unfold c22
  obtain ⟨hsM, hMb⟩ := hM.low
  obtain ⟨g0, hg0, hRb⟩ := hR.at
  obtain ⟨n1, n2, n3, n4, n5⟩ := below_ne hMb
  obtain ⟨p1, p2, p3, p4, p5⟩ := below_ne hRb
  have hfew := hJ.few (by omega)
  have hM1 : ∀ o, MRz s a M (upd m0 b (some o)) (b + 8) := fun o => hM.of (fun id hid => upd_other _ _ (by omega)) (by omega)
  have hR1 : ∀ o, RR r R (upd m0 b (some o)) (b + 8) := fun o => hR.of (upd_other _ _ (by omega)) (by omega)
  have hF1 : ∀ o id, id < b → m0 id = none → upd m0 b (some o) id = none := fun o id hid h => by rw [upd_other _ _ (by omega)]; exact h
  repeat' (first
    | exact True.intro
    | refine VW.seq ?_
    | refine VW.block ?_
    | ((first | refine VW.skip ?_ | refine VW.exit ?_ | refine VW.reg ?_ | refine VW.regD ?_ | refine VW.ret ?_ | show goA _ _ _ _ _ _ _ _ _ _ | show goB _ _ _ _ _ _ _ _ _ | show goAD _ _ _ _ _ _ _ _ _ _ _ _ _ _ | show goBD _ _ _ _ _ _ _ _ _ _ _); refine sx ?_)
    | refine VW.condT cx ?_
    | refine VW.condF cx ?_
    | refine VW.cond ex ?_ ?_
    | refine imp_nt ?_
    | refine imp_nf ?_
    | refine imp_dt (fun _ => ?_)
    | refine imp_df (fun _ => ?_)
    | (refine fun (_ : _ = true) => ?_)
    | (refine fun (_ : _ = false) => ?_)
    | refine vg_t ?_ ?_
    | refine vg_f ?_ ?_)
  · refine VC.begF (hM1 _) (by omega) (fun _ _ => rfl) fun v e1 a1 m1 hB hM2 hF2 => ?_
    have hg1 : m1 R = some g0.rbox := hF2.1 R _ (by omega) (by rw [upd_other _ _ (by omega)]; exact hg0) rfl
    have hR2 : RR r R m1 (b + 8) := hR.of (by rw [hg1, hg0]) (by omega)
    have hX2 := hF2.1 b _ (by omega) (upd_same _ _ _) rfl
    have hF2' : ∀ id, id < b → m0 id = none → m1 id = none := fun id hid h => hF2.2 id (by omega) (hF1 _ id hid h)
    clear hM1 hR1 hF1 hF2 hM
    refine sy ?_
    repeat' (first
    | exact True.intro
    | refine VW.seq ?_
    | refine VW.block ?_
    | ((first | refine VW.skip ?_ | refine VW.exit ?_ | refine VW.reg ?_ | refine VW.regD ?_ | refine VW.ret ?_ | show goA _ _ _ _ _ _ _ _ _ _ | show goB _ _ _ _ _ _ _ _ _ | show goAD _ _ _ _ _ _ _ _ _ _ _ _ _ _ | show goBD _ _ _ _ _ _ _ _ _ _ _); refine sx ?_)
    | refine VW.condT cx ?_
    | refine VW.condF cx ?_
    | refine VW.cond ex ?_ ?_
    | refine imp_nt ?_
    | refine imp_nf ?_
    | refine imp_dt (fun _ => ?_)
    | refine imp_df (fun _ => ?_)
    | (refine fun (_ : _ = true) => ?_)
    | (refine fun (_ : _ = false) => ?_)
    | refine vg_t ?_ ?_
    | refine vg_f ?_ ?_)
    refine VC.rbeg hR2 (by omega) (cx) fun v' e2 r1 g1 hB' hG => ?_
    obtain ⟨rfl, rfl, hJ'⟩ := hJ.beg hB hB'
    have hM3 := (hM2.upd (o' := g1.rbox) hg1 rfl).mono (b' := b + 1000) (by omega)
    have hR3 : RR r1 R (upd m1 R (some g1.rbox)) (b + 1000) := ⟨g1, by omega, upd_same _ _ _, hG⟩
    have hF3 : ∀ id, id < b → m0 id = none → upd m1 R (some g1.rbox) id = none := fun id hid h => by rw [upd_other _ _ (fun he => by subst he; rw [hg0] at h; cases h)]; exact hF2' id hid h
    clear hB hB' hM2 hR2 hF2' hR hJ hfew hG
    refine sy ?_
    repeat' (first
    | exact True.intro
    | refine VW.seq ?_
    | refine VW.block ?_
    | ((first | refine VW.skip ?_ | refine VW.exit ?_ | refine VW.reg ?_ | refine VW.regD ?_ | refine VW.ret ?_ | show goA _ _ _ _ _ _ _ _ _ _ | show goB _ _ _ _ _ _ _ _ _ | show goAD _ _ _ _ _ _ _ _ _ _ _ _ _ _ | show goBD _ _ _ _ _ _ _ _ _ _ _); refine sx ?_)
    | refine VW.condT cx ?_
    | refine VW.condF cx ?_
    | refine VW.cond ex ?_ ?_
    | refine imp_nt ?_
    | refine imp_nf ?_
    | refine imp_dt (fun _ => ?_)
    | refine imp_df (fun _ => ?_)
    | (refine fun (_ : _ = true) => ?_)
    | (refine fun (_ : _ = false) => ?_)
    | refine vg_t ?_ ?_
    | refine vg_f ?_ ?_)
    exact do_end (cx) hJ' hM3 hR3 (by omega) hMb hRb hF3
  · refine VC.wriF (hM1 _) (by omega) (fun id hid => restr_old (by omega)) fun e1 a1 m1 hB hM2 hF2 => ?_
    have hg1 : m1 R = some g0.rbox := hF2.1 R _ (by omega) (by rw [upd_other _ _ (by omega)]; exact hg0) rfl
    have hR2 : RR r R m1 (b + 8) := hR.of (by rw [hg1, hg0]) (by omega)
    have hX2 := hF2.1 b _ (by omega) (upd_same _ _ _) rfl
    have hF2' : ∀ id, id < b → m0 id = none → m1 id = none := fun id hid h => hF2.2 id (by omega) (hF1 _ id hid h)
    have hH := fun base an j => restrH_same (base := base) (an := an) (H := []) (m := m1) (j := j) (m1 := upd m0 b (some (.box [iv 1, iv z, .str key, iv N] 32))) (m2 := m1) (id := b) (by rw [upd_same, hX2])
    clear hM1 hR1 hF1 hF2 hM
    refine sx ?_
    repeat' (first
    | exact True.intro
    | refine VW.seq ?_
    | refine VW.block ?_
    | ((first | refine VW.skip ?_ | refine VW.exit ?_ | refine VW.reg ?_ | refine VW.regD ?_ | refine VW.ret ?_ | show goA _ _ _ _ _ _ _ _ _ _ | show goB _ _ _ _ _ _ _ _ _ | show goAD _ _ _ _ _ _ _ _ _ _ _ _ _ _ | show goBD _ _ _ _ _ _ _ _ _ _ _); refine sx ?_)
    | refine VW.condT cx ?_
    | refine VW.condF cx ?_
    | refine VW.cond ex ?_ ?_
    | refine imp_nt ?_
    | refine imp_nf ?_
    | refine imp_dt (fun _ => ?_)
    | refine imp_df (fun _ => ?_)
    | (refine fun (_ : _ = true) => ?_)
    | (refine fun (_ : _ = false) => ?_)
    | refine vg_t ?_ ?_
    | refine vg_f ?_ ?_)
    refine VC.rwri hR2 (by omega) (cx) hfew fun e2 r1 g1 hB' hG => ?_
    obtain ⟨rfl, hJ'⟩ := hJ.wri hB hB'
    have hM3 := (hM2.upd (o' := g1.rbox) hg1 rfl).mono (b' := b + 1000) (by omega)
    have hR3 : RR r1 R (upd m1 R (some g1.rbox)) (b + 1000) := ⟨g1, by omega, upd_same _ _ _, hG⟩
    have hF3 : ∀ id, id < b → m0 id = none → upd m1 R (some g1.rbox) id = none := fun id hid h => by rw [upd_other _ _ (fun he => by subst he; rw [hg0] at h; cases h)]; exact hF2' id hid h
    clear hB hB' hM2 hR2 hF2' hR hJ hfew hG
    refine sy ?_
    repeat' (first
    | exact True.intro
    | refine VW.seq ?_
    | refine VW.block ?_
    | ((first | refine VW.skip ?_ | refine VW.exit ?_ | refine VW.reg ?_ | refine VW.regD ?_ | refine VW.ret ?_ | show goA _ _ _ _ _ _ _ _ _ _ | show goB _ _ _ _ _ _ _ _ _ | show goAD _ _ _ _ _ _ _ _ _ _ _ _ _ _ | show goBD _ _ _ _ _ _ _ _ _ _ _); refine sx ?_)
    | refine VW.condT cx ?_
    | refine VW.condF cx ?_
    | refine VW.cond ex ?_ ?_
    | refine imp_nt ?_
    | refine imp_nf ?_
    | refine imp_dt (fun _ => ?_)
    | refine imp_df (fun _ => ?_)
    | (refine fun (_ : _ = true) => ?_)
    | (refine fun (_ : _ = false) => ?_)
    | refine vg_t ?_ ?_
    | refine vg_f ?_ ?_)
    exact do_end (cx) hJ' hM3 hR3 (by omega) hMb hRb hF3
  · refine VC.tst (hM1 _).mr (by omega) (fun id hid => restr_old (by omega)) ?_
    refine sy ?_
    repeat' (first
    | exact True.intro
    | refine VW.seq ?_
    | refine VW.block ?_
    | ((first | refine VW.skip ?_ | refine VW.exit ?_ | refine VW.reg ?_ | refine VW.regD ?_ | refine VW.ret ?_ | show goA _ _ _ _ _ _ _ _ _ _ | show goB _ _ _ _ _ _ _ _ _ | show goAD _ _ _ _ _ _ _ _ _ _ _ _ _ _ | show goBD _ _ _ _ _ _ _ _ _ _ _); refine sx ?_)
    | refine VW.condT cx ?_
    | refine VW.condF cx ?_
    | refine VW.cond ex ?_ ?_
    | refine imp_nt ?_
    | refine imp_nf ?_
    | refine imp_dt (fun _ => ?_)
    | refine imp_df (fun _ => ?_)
    | (refine fun (_ : _ = true) => ?_)
    | (refine fun (_ : _ = false) => ?_)
    | refine vg_t ?_ ?_
    | refine vg_f ?_ ?_)
    refine VC.rtst (hR1 _) (by omega) (cx) hfew ?_
    rw [hJ.tst]
    generalize tstF a z = tz at *
    refine sy ?_
    repeat' (first
    | exact True.intro
    | refine VW.seq ?_
    | refine VW.block ?_
    | ((first | refine VW.skip ?_ | refine VW.exit ?_ | refine VW.reg ?_ | refine VW.regD ?_ | refine VW.ret ?_ | show goA _ _ _ _ _ _ _ _ _ _ | show goB _ _ _ _ _ _ _ _ _ | show goAD _ _ _ _ _ _ _ _ _ _ _ _ _ _ | show goBD _ _ _ _ _ _ _ _ _ _ _); refine sx ?_)
    | refine VW.condT cx ?_
    | refine VW.condF cx ?_
    | refine VW.cond ex ?_ ?_
    | refine imp_nt ?_
    | refine imp_nf ?_
    | refine imp_dt (fun _ => ?_)
    | refine imp_df (fun _ => ?_)
    | (refine fun (_ : _ = true) => ?_)
    | (refine fun (_ : _ = false) => ?_)
    | refine vg_t ?_ ?_
    | refine vg_f ?_ ?_)
    refine VC.comF (hM1 _) (by omega) fun v e1 a1 m1 hB hM2 hF2 => ?_
    have hg1 : m1 R = some g0.rbox := hF2.1 R _ (by omega) (by rw [upd_other _ _ (by omega)]; exact hg0) rfl
    have hR2 : RR r R m1 (b + 8) := hR.of (by rw [hg1, hg0]) (by omega)
    have hX2 := hF2.1 b _ (by omega) (upd_same _ _ _) rfl
    have hF2' : ∀ id, id < b → m0 id = none → m1 id = none := fun id hid h => hF2.2 id (by omega) (hF1 _ id hid h)
    clear hM1 hR1 hF1 hF2 hM
    refine sy ?_
    repeat' (first
    | exact True.intro
    | refine VW.seq ?_
    | refine VW.block ?_
    | ((first | refine VW.skip ?_ | refine VW.exit ?_ | refine VW.reg ?_ | refine VW.regD ?_ | refine VW.ret ?_ | show goA _ _ _ _ _ _ _ _ _ _ | show goB _ _ _ _ _ _ _ _ _ | show goAD _ _ _ _ _ _ _ _ _ _ _ _ _ _ | show goBD _ _ _ _ _ _ _ _ _ _ _); refine sx ?_)
    | refine VW.condT cx ?_
    | refine VW.condF cx ?_
    | refine VW.cond ex ?_ ?_
    | refine imp_nt ?_
    | refine imp_nf ?_
    | refine imp_dt (fun _ => ?_)
    | refine imp_df (fun _ => ?_)
    | (refine fun (_ : _ = true) => ?_)
    | (refine fun (_ : _ = false) => ?_)
    | refine vg_t ?_ ?_
    | refine vg_f ?_ ?_)
    refine VC.rcom hR2 (by omega) (cx) hfew fun v' e2 r1 g1 hB' hG => ?_
    obtain ⟨rfl, rfl, hJ'⟩ := hJ.com hB hB'
    have hM3 := (hM2.upd (o' := g1.rbox) hg1 rfl).mono (b' := b + 1000) (by omega)
    have hR3 : RR r1 R (upd m1 R (some g1.rbox)) (b + 1000) := ⟨g1, by omega, upd_same _ _ _, hG⟩
    have hF3 : ∀ id, id < b → m0 id = none → upd m1 R (some g1.rbox) id = none := fun id hid h => by rw [upd_other _ _ (fun he => by subst he; rw [hg0] at h; cases h)]; exact hF2' id hid h
    clear hB hB' hM2 hR2 hF2' hR hJ hfew hG
    refine sy ?_
    repeat' (first
    | exact True.intro
    | refine VW.seq ?_
    | refine VW.block ?_
    | ((first | refine VW.skip ?_ | refine VW.exit ?_ | refine VW.reg ?_ | refine VW.regD ?_ | refine VW.ret ?_ | show goA _ _ _ _ _ _ _ _ _ _ | show goB _ _ _ _ _ _ _ _ _ | show goAD _ _ _ _ _ _ _ _ _ _ _ _ _ _ | show goBD _ _ _ _ _ _ _ _ _ _ _); refine sx ?_)
    | refine VW.condT cx ?_
    | refine VW.condF cx ?_
    | refine VW.cond ex ?_ ?_
    | refine imp_nt ?_
    | refine imp_nf ?_
    | refine imp_dt (fun _ => ?_)
    | refine imp_df (fun _ => ?_)
    | (refine fun (_ : _ = true) => ?_)
    | (refine fun (_ : _ = false) => ?_)
    | refine vg_t ?_ ?_
    | refine vg_f ?_ ?_)
    exact do_end (cx) hJ' hM3 hR3 (by omega) hMb hRb hF3
  · refine VC.finF (hM1 _) (by omega) (fun id hid => restr_old (by omega)) fun e1 a1 m1 hB hM2 hF2 => ?_
    have hg1 : m1 R = some g0.rbox := hF2.1 R _ (by omega) (by rw [upd_other _ _ (by omega)]; exact hg0) rfl
    have hR2 : RR r R m1 (b + 8) := hR.of (by rw [hg1, hg0]) (by omega)
    have hX2 := hF2.1 b _ (by omega) (upd_same _ _ _) rfl
    have hF2' : ∀ id, id < b → m0 id = none → m1 id = none := fun id hid h => hF2.2 id (by omega) (hF1 _ id hid h)
    have hH := fun base an j => restrH_same (base := base) (an := an) (H := []) (m := m1) (j := j) (m1 := upd m0 b (some (.box [iv 3, iv z, .str key, iv N] 32))) (m2 := m1) (id := b) (by rw [upd_same, hX2])
    clear hM1 hR1 hF1 hF2 hM
    refine sx ?_
    repeat' (first
    | exact True.intro
    | refine VW.seq ?_
    | refine VW.block ?_
    | ((first | refine VW.skip ?_ | refine VW.exit ?_ | refine VW.reg ?_ | refine VW.regD ?_ | refine VW.ret ?_ | show goA _ _ _ _ _ _ _ _ _ _ | show goB _ _ _ _ _ _ _ _ _ | show goAD _ _ _ _ _ _ _ _ _ _ _ _ _ _ | show goBD _ _ _ _ _ _ _ _ _ _ _); refine sx ?_)
    | refine VW.condT cx ?_
    | refine VW.condF cx ?_
    | refine VW.cond ex ?_ ?_
    | refine imp_nt ?_
    | refine imp_nf ?_
    | refine imp_dt (fun _ => ?_)
    | refine imp_df (fun _ => ?_)
    | (refine fun (_ : _ = true) => ?_)
    | (refine fun (_ : _ = false) => ?_)
    | refine vg_t ?_ ?_
    | refine vg_f ?_ ?_)
    refine VC.rfin hR2 (by omega) (cx) fun e2 r1 g1 hB' hG => ?_
    obtain ⟨rfl, hJ'⟩ := hJ.fin hB hB'
    have hM3 := (hM2.upd (o' := g1.rbox) hg1 rfl).mono (b' := b + 1000) (by omega)
    have hR3 : RR r1 R (upd m1 R (some g1.rbox)) (b + 1000) := ⟨g1, by omega, upd_same _ _ _, hG⟩
    have hF3 : ∀ id, id < b → m0 id = none → upd m1 R (some g1.rbox) id = none := fun id hid h => by rw [upd_other _ _ (fun he => by subst he; rw [hg0] at h; cases h)]; exact hF2' id hid h
    clear hB hB' hM2 hR2 hF2' hR hJ hfew hG
    refine sy ?_
    repeat' (first
    | exact True.intro
    | refine VW.seq ?_
    | refine VW.block ?_
    | ((first | refine VW.skip ?_ | refine VW.exit ?_ | refine VW.reg ?_ | refine VW.regD ?_ | refine VW.ret ?_ | show goA _ _ _ _ _ _ _ _ _ _ | show goB _ _ _ _ _ _ _ _ _ | show goAD _ _ _ _ _ _ _ _ _ _ _ _ _ _ | show goBD _ _ _ _ _ _ _ _ _ _ _); refine sx ?_)
    | refine VW.condT cx ?_
    | refine VW.condF cx ?_
    | refine VW.cond ex ?_ ?_
    | refine imp_nt ?_
    | refine imp_nf ?_
    | refine imp_dt (fun _ => ?_)
    | refine imp_df (fun _ => ?_)
    | (refine fun (_ : _ = true) => ?_)
    | (refine fun (_ : _ = false) => ?_)
    | refine vg_t ?_ ?_
    | refine vg_f ?_ ?_)
    exact do_end (cx) hJ' hM3 hR3 (by omega) hMb hRb hF3
  · refine VC.ticF (hM1 _) (by omega) (fun _ _ => rfl) fun m1 hM2 hF2 => ?_
    have hg1 : m1 R = some g0.rbox := hF2.1 R _ (by omega) (by rw [upd_other _ _ (by omega)]; exact hg0) rfl
    have hR2 : RR r R m1 (b + 8) := hR.of (by rw [hg1, hg0]) (by omega)
    have hX2 := hF2.1 b _ (by omega) (upd_same _ _ _) rfl
    have hF2' : ∀ id, id < b → m0 id = none → m1 id = none := fun id hid h => hF2.2 id (by omega) (hF1 _ id hid h)
    clear hM1 hR1 hF1 hF2 hM
    refine sy ?_
    repeat' (first
    | exact True.intro
    | refine VW.seq ?_
    | refine VW.block ?_
    | ((first | refine VW.skip ?_ | refine VW.exit ?_ | refine VW.reg ?_ | refine VW.regD ?_ | refine VW.ret ?_ | show goA _ _ _ _ _ _ _ _ _ _ | show goB _ _ _ _ _ _ _ _ _ | show goAD _ _ _ _ _ _ _ _ _ _ _ _ _ _ | show goBD _ _ _ _ _ _ _ _ _ _ _); refine sx ?_)
    | refine VW.condT cx ?_
    | refine VW.condF cx ?_
    | refine VW.cond ex ?_ ?_
    | refine imp_nt ?_
    | refine imp_nf ?_
    | refine imp_dt (fun _ => ?_)
    | refine imp_df (fun _ => ?_)
    | (refine fun (_ : _ = true) => ?_)
    | (refine fun (_ : _ = false) => ?_)
    | refine vg_t ?_ ?_
    | refine vg_f ?_ ?_)
    refine VC.rtic hR2 (by omega) (cx) fun g1 hG => ?_
    have hJ' := hJ.tic (z := N)
    have hM3 := (hM2.upd (o' := g1.rbox) hg1 rfl).mono (b' := b + 1000) (by omega)
    have hR3 : RR _ R (upd m1 R (some g1.rbox)) (b + 1000) := ⟨g1, by omega, upd_same _ _ _, hG⟩
    have hF3 : ∀ id, id < b → m0 id = none → upd m1 R (some g1.rbox) id = none := fun id hid h => by rw [upd_other _ _ (fun he => by subst he; rw [hg0] at h; cases h)]; exact hF2' id hid h
    clear hM2 hR2 hF2' hR hJ hfew hG
    refine sy ?_
    repeat' (first
    | exact True.intro
    | refine VW.seq ?_
    | refine VW.block ?_
    | ((first | refine VW.skip ?_ | refine VW.exit ?_ | refine VW.reg ?_ | refine VW.regD ?_ | refine VW.ret ?_ | show goA _ _ _ _ _ _ _ _ _ _ | show goB _ _ _ _ _ _ _ _ _ | show goAD _ _ _ _ _ _ _ _ _ _ _ _ _ _ | show goBD _ _ _ _ _ _ _ _ _ _ _); refine sx ?_)
    | refine VW.condT cx ?_
    | refine VW.condF cx ?_
    | refine VW.cond ex ?_ ?_
    | refine imp_nt ?_
    | refine imp_nf ?_
    | refine imp_dt (fun _ => ?_)
    | refine imp_df (fun _ => ?_)
    | (refine fun (_ : _ = true) => ?_)
    | (refine fun (_ : _ = false) => ?_)
    | refine vg_t ?_ ?_
    | refine vg_f ?_ ?_)
    exact do_end (cx) hJ' hM3 hR3 (by omega) hMb hRb hF3
  · exact do_end (cx) (hJ.mono (by omega)) (hM1 _) (hR1 _) (by omega) hMb hRb (hF1 _)
/-- Its contract. -/
theorem v_do {s n M R b : Nat} {a : Ab} {r : Rb} {k z N : Int} {key : Str} {m0 : Mem} (hM : MRz s a M m0 b) (hR : RR r R m0 b) (hJ : JJ a r n) (hn : n < 150) :
    VX Try.prog (.f 22) [.ptr M 15 0 0, .ptr R 15 0 0, .agg [iv k, iv z, .str key, iv N]] m0 b (KDo s n M R b m0) := VX.code mixed k22 (by simp) (w_do hM hR hJ hn)
end Go.Vx
/- Do both tell the same? -/
set_option linter.unusedSimpArgs false
set_option linter.unusedVariables false
set_option maxRecDepth 4000
set_option maxHeartbeats 4000000
namespace Go.Vx
open Go Go.Proofs

/-- An end that leaves all as it was. -/
theorem Ends.keepM {t : Nat} {b : Nat} {e : Env} {m0 m : Mem} {x : Bool} (h : e t = some (.bool x)) (hg : ∀ id o, m0 id = some o → m id = some o ∧ id < b ∧ o.lt (b + 8) = true ∧ o.fix b = true) : Ends [.tmp t] b (.bool x) m0 e m := by
  refine ⟨.bool x, by simp [resF, resL, RX.ev, h, tup1], [], fun j => j, .inl ⟨rfl, rfl⟩, fun id o hid => ?_, fun i j o o' _ _ h => h, fun _ _ => rfl⟩
  rw [frz_nil', oren_id]
  have := hg id o hid
  exact ⟨this.1, by have := this.2.1; omega, this.2.2⟩
def Goodm (b : Nat) (m : Mem) : Prop := ∀ id o, m id = some o → id < b ∧ o.lt (b + 8) = true ∧ o.fix b = true

theorem MRz.sub {s : Nat} {a : Ab} {M : Nat} {m m' : Mem} {b b' : Nat} (h : MRz s a M m b) (hm : ∀ id o, id < b → m id = some o → m' id = some o) (hb : b ≤ b') : MRz s a M m' b' := by
  obtain ⟨W, K, wl, h, hs⟩ := h
  have h1 := h.hM
  have h2 := h.hW
  exact ⟨W, K, wl, ⟨by omega, by omega, h.hMW, hm _ _ h1 h.m0, hm _ _ h2 h.m1, h.mw, fun i hi x hx => by
    obtain ⟨g1, g2, g3, g4⟩ := h.k i hi x hx
    exact ⟨by omega, g2, g3, hm _ _ g1 g4⟩, h.kk⟩, hs⟩
theorem RR.sub {r : Rb} {R : Nat} {m m' : Mem} {b b' : Nat} (h : RR r R m b) (hm : ∀ id o, id < b → m id = some o → m' id = some o) (hb : b ≤ b') : RR r R m' b' := by
  obtain ⟨g, h1, h2, h3⟩ := h
  exact ⟨g, by omega, hm _ _ h1 h2, h3⟩
/-- Just the objects of both. -/
theorem man_in {s b : Nat} {a : Ab} {r : Rb} {M R : Nat} {m : Mem} (h : MRz s a M m b) (hr : RR r R m b) : ∃ m0, MRz s a M m0 b ∧ RR r R m0 b ∧ (∀ id o, m0 id = some o → m id = some o ∧ id < b ∧ o.lt b = true ∧ o.lt (b + 8) = true ∧ o.fix b = true) ∧
    (∀ id o, m id = some o → keepO o = true → id ≠ R → m0 id = none) ∧ (s ≤ R → ∀ id, id < s → m0 id = none) := by
  obtain ⟨W, K, wl, h, hs1, hs2, hs3⟩ := h
  obtain ⟨g, hRn, hmR, hg⟩ := hr
  let S : Nat → Prop := fun id => id = M ∨ id = R ∨ id = W ∨ ∃ i, i < 4 ∧ a.se i ≠ none ∧ id = K i
  have : DecidablePred S := fun id => Classical.propDecidable _
  let m0 : Mem := fun id => if S id then m id else none
  have e : ∀ id, S id → m0 id = m id := fun id hS => if_pos hS
  have e' : ∀ id, ¬ S id → m0 id = none := fun id hS => if_neg hS
  have hok := h.ok
  have sub : ∀ id o, id < b → S id → m id = some o → m0 id = some o := fun id o _ hS ho => by rw [e id hS]; exact ho
  have cases' : ∀ id, S id → (id = M ∧ m id = some (gOf a K W).box) ∨ (id = R ∧ m id = some g.rbox) ∨ (id = W ∧ m id = some (.map (wmap wl))) ∨ (s ≤ id ∧ id < b ∧ ∃ ks, m id = some (.map (kmap ks))) := by
    rintro id (rfl | rfl | rfl | ⟨i, hi, hn, rfl⟩)
    · exact .inl ⟨rfl, h.m0⟩
    · exact .inr (.inl ⟨rfl, hmR⟩)
    · exact .inr (.inr (.inl ⟨rfl, h.m1⟩))
    · obtain ⟨x, hx⟩ := Option.ne_none_iff_exists'.1 hn
      obtain ⟨h1, h2, h3, h4⟩ := h.k i hi x hx
      exact .inr (.inr (.inr ⟨hs3 i hi hn, h1, _, h4⟩))
  refine ⟨m0, ⟨W, K, wl, ⟨h.hM, h.hW, h.hMW, by rw [e M (.inl rfl)]; exact h.m0, by rw [e W (.inr (.inr (.inl rfl)))]; exact h.m1, h.mw, fun i hi x hx => ?_, h.kk⟩, hs1, hs2, hs3⟩, ⟨g, hRn, by rw [e R (.inr (.inl rfl))]; exact hmR, hg⟩, fun id o ho => ?_, fun id o ho hk hne => ?_, fun hsR id hid => ?_⟩
  · obtain ⟨h1, h2, h3, h4⟩ := h.k i hi x hx
    exact ⟨h1, h2, h3, by rw [e (K i) (.inr (.inr (.inr ⟨i, hi, by rw [hx]; simp, rfl⟩)))]; exact h4⟩
  · have hS : S id := Classical.byContradiction fun hS => by rw [e' id hS] at ho; cases ho
    rw [e id hS] at ho
    rcases cases' id hS with ⟨rfl, hm⟩ | ⟨rfl, hm⟩ | ⟨rfl, hm⟩ | ⟨_, hb, ks, hm⟩ <;> (rw [ho] at hm; injection hm with hm; subst hm)
    · exact ⟨ho, h.hM, by simpa using Mg.blt (k := 0) hok, Mg.blt hok, rfl⟩
    · exact ⟨ho, hRn, by simpa using Mg.rblt (k := 0) (hg.ok (b := b)), Mg.rblt hg.ok, rfl⟩
    · exact ⟨ho, h.hW, (flatM_lt wmap_flat).1, (flatM_lt wmap_flat).1, (flatM_lt wmap_flat).2⟩
    · exact ⟨ho, hb, kmap_lt.1, kmap_lt.1, kmap_lt.2⟩
  · refine e' id fun hS => ?_
    rcases cases' id hS with ⟨rfl, hm⟩ | ⟨rfl, hm⟩ | ⟨rfl, hm⟩ | ⟨_, _, ks, hm⟩
    · rw [ho] at hm; injection hm with hm; subst hm; cases hk
    · exact hne rfl
    · rw [ho] at hm; injection hm with hm; subst hm; cases hk
    · rw [ho] at hm; injection hm with hm; subst hm; cases hk
  · refine e' id fun hS => ?_
    rcases cases' id hS with ⟨rfl, hm⟩ | ⟨rfl, hm⟩ | ⟨rfl, hm⟩ | ⟨h1, _, ks, hm⟩ <;> omega

theorem cSame (xs ys : List Str) (hl : xs.length < 1000) (hl' : ys.length < 1000) (b : Nat) : V Try.prog 34 [.sl (strs xs), .sl (strs ys)] mt b (.bool (decide (xs = ys))) mt := V.code mixed k34 (by simp) (w_sameTexts xs ys hl hl' b)
theorem sinF_tup (a : Ab) (z : Int) : ∃ x y, sinF a z = .tup [iv x, .bool y] := by
  unfold sinF
  split
  · split <;> exact ⟨_, _, rfl⟩
  · exact ⟨_, _, rfl⟩
theorem oldF_tup (l : List Int) : ∃ x y, oldF l = .tup [iv x, .bool y] := by
  unfold oldF
  split <;> exact ⟨_, _, rfl⟩

def JS (M R : Nat) (m0 : Mem) (b i : Nat) (e : Env) (m : Mem) (nx : Nat) : Prop := e 0 = some (.ptr M 15 0 0) ∧ e 1 = some (.ptr R 15 0 0) ∧ e 5 = some (iv ((i : Int) - 1)) ∧ m = m0 ∧ b ≤ nx
theorem w_same {s n M R b : Nat} {a : Ab} {r : Rb} {m0 : Mem} (hM : MRz s a M m0 b) (hR : RR r R m0 b) (hJ : JJ a r n) (hn : n < 150) (hg : Goodm b m0) :
    VW Try.prog c19 (PRet (Ends [.tmp 4] b (.bool true) m0)) (fun t => [PV.ptr M 15 0 0, .ptr R 15 0 0][t]?) m0 b := by
  unfold c19
  have hfew := hJ.few (by omega)
  have hfa := hJ.fewA (by omega)
  repeat' (first
    | exact True.intro
    | refine VW.seq ?_
    | refine VW.block ?_
    | ((first | refine VW.skip ?_ | refine VW.exit ?_ | refine VW.reg ?_ | refine VW.regD ?_ | refine VW.ret ?_ | show goA _ _ _ _ _ _ _ _ _ _ | show goB _ _ _ _ _ _ _ _ _ | show goAD _ _ _ _ _ _ _ _ _ _ _ _ _ _ | show goBD _ _ _ _ _ _ _ _ _ _ _); refine sx ?_)
    | refine VW.condT cx ?_
    | refine VW.condF cx ?_
    | refine VW.cond ex ?_ ?_
    | refine imp_nt ?_
    | refine imp_nf ?_
    | refine imp_dt (fun _ => ?_)
    | refine imp_df (fun _ => ?_)
    | (refine fun (_ : _ = true) => ?_)
    | (refine fun (_ : _ = false) => ?_)
    | refine vg_t ?_ ?_
    | refine vg_f ?_ ?_)
  refine VW.forN 6 (JS M R m0 b) 0 (by omega) ⟨cy, cy, ey, rfl, by omega⟩ ?_
  rintro i e m nx hi ⟨e0, e1, e5, rfl, hbn⟩
  by_cases hi6 : i < 6
  · have hw : IntKind.i64.wrap ((i : Int) - 1 + 1) = ((i + 1 : Nat) : Int) - 1 := by rw [IntWalk.i64_in _ (by omega)]; omega
    have hle : (i : Int) - 1 ≤ 4 := by omega
    generalize hz : (i : Int) - 1 = z at *
    obtain ⟨x, y, hxy⟩ := sinF_tup a z
    have hop := hJ.opb z
    have hts := hJ.tst z
    have hwr := hJ.wrf z
    have hsi := hJ.sinf z
    have htl : (twrF a z).length < 1000 := by
      unfold twrF
      split
      · split
        · simp
        · rename_i ho
          show (sortK _).length < 1000
          rw [sortK_p.length_eq]; exact hfa _ _ ho
      · simp
    clear hi hfa
    repeat' (first
    | exact True.intro
    | refine VW.seq ?_
    | refine VW.block ?_
    | ((first | refine VW.skip ?_ | refine VW.exit ?_ | refine VW.reg ?_ | refine VW.regD ?_ | refine VW.ret ?_ | show goA _ _ _ _ _ _ _ _ _ _ | show goB _ _ _ _ _ _ _ _ _ | show goAD _ _ _ _ _ _ _ _ _ _ _ _ _ _ | show goBD _ _ _ _ _ _ _ _ _ _ _); refine sx ?_)
    | refine VW.condT cx ?_
    | refine VW.condF cx ?_
    | refine VW.cond ex ?_ ?_
    | refine imp_nt ?_
    | refine imp_nf ?_
    | refine imp_dt (fun _ => ?_)
    | refine imp_df (fun _ => ?_)
    | (refine fun (_ : _ = true) => ?_)
    | (refine fun (_ : _ = false) => ?_)
    | refine vg_t ?_ ?_
    | refine vg_f ?_ ?_)
    refine VC.sin hM.mr (by omega) (fun _ _ => rfl) ?_
    rw [hxy]
    refine sx ?_
    repeat' (first
    | exact True.intro
    | refine VW.seq ?_
    | refine VW.block ?_
    | ((first | refine VW.skip ?_ | refine VW.exit ?_ | refine VW.reg ?_ | refine VW.regD ?_ | refine VW.ret ?_ | show goA _ _ _ _ _ _ _ _ _ _ | show goB _ _ _ _ _ _ _ _ _ | show goAD _ _ _ _ _ _ _ _ _ _ _ _ _ _ | show goBD _ _ _ _ _ _ _ _ _ _ _); refine sx ?_)
    | refine VW.condT cx ?_
    | refine VW.condF cx ?_
    | refine VW.cond ex ?_ ?_
    | refine imp_nt ?_
    | refine imp_nf ?_
    | refine imp_dt (fun _ => ?_)
    | refine imp_df (fun _ => ?_)
    | (refine fun (_ : _ = true) => ?_)
    | (refine fun (_ : _ = false) => ?_)
    | refine vg_t ?_ ?_
    | refine vg_f ?_ ?_)
    refine VC.rsin hR (by omega) rfl ?_
    rw [hsi, hxy]
    refine sx ?_
    repeat' (first
    | exact True.intro
    | refine VW.seq ?_
    | refine VW.block ?_
    | ((first | refine VW.skip ?_ | refine VW.exit ?_ | refine VW.reg ?_ | refine VW.regD ?_ | refine VW.ret ?_ | show goA _ _ _ _ _ _ _ _ _ _ | show goB _ _ _ _ _ _ _ _ _ | show goAD _ _ _ _ _ _ _ _ _ _ _ _ _ _ | show goBD _ _ _ _ _ _ _ _ _ _ _); refine sx ?_)
    | refine VW.condT cx ?_
    | refine VW.condF cx ?_
    | refine VW.cond ex ?_ ?_
    | refine imp_nt ?_
    | refine imp_nf ?_
    | refine imp_dt (fun _ => ?_)
    | refine imp_df (fun _ => ?_)
    | (refine fun (_ : _ = true) => ?_)
    | (refine fun (_ : _ = false) => ?_)
    | refine vg_t ?_ ?_
    | refine vg_f ?_ ?_)
    refine VC.opn hM.mr (by omega) (fun _ _ => rfl) ?_
    refine sx ?_
    repeat' (first
    | exact True.intro
    | refine VW.seq ?_
    | refine VW.block ?_
    | ((first | refine VW.skip ?_ | refine VW.exit ?_ | refine VW.reg ?_ | refine VW.regD ?_ | refine VW.ret ?_ | show goA _ _ _ _ _ _ _ _ _ _ | show goB _ _ _ _ _ _ _ _ _ | show goAD _ _ _ _ _ _ _ _ _ _ _ _ _ _ | show goBD _ _ _ _ _ _ _ _ _ _ _); refine sx ?_)
    | refine VW.condT cx ?_
    | refine VW.condF cx ?_
    | refine VW.cond ex ?_ ?_
    | refine imp_nt ?_
    | refine imp_nf ?_
    | refine imp_dt (fun _ => ?_)
    | refine imp_df (fun _ => ?_)
    | (refine fun (_ : _ = true) => ?_)
    | (refine fun (_ : _ = false) => ?_)
    | refine vg_t ?_ ?_
    | refine vg_f ?_ ?_)
    refine VC.ropn hR (by omega) rfl ?_
    rw [hop]
    refine sx ?_
    repeat' (first
    | exact True.intro
    | refine VW.seq ?_
    | refine VW.block ?_
    | ((first | refine VW.skip ?_ | refine VW.exit ?_ | refine VW.reg ?_ | refine VW.regD ?_ | refine VW.ret ?_ | show goA _ _ _ _ _ _ _ _ _ _ | show goB _ _ _ _ _ _ _ _ _ | show goAD _ _ _ _ _ _ _ _ _ _ _ _ _ _ | show goBD _ _ _ _ _ _ _ _ _ _ _); refine sx ?_)
    | refine VW.condT cx ?_
    | refine VW.condF cx ?_
    | refine VW.cond ex ?_ ?_
    | refine imp_nt ?_
    | refine imp_nf ?_
    | refine imp_dt (fun _ => ?_)
    | refine imp_df (fun _ => ?_)
    | (refine fun (_ : _ = true) => ?_)
    | (refine fun (_ : _ = false) => ?_)
    | refine vg_t ?_ ?_
    | refine vg_f ?_ ?_)
    refine VC.tst hM.mr (by omega) (fun _ _ => rfl) ?_
    refine sx ?_
    repeat' (first
    | exact True.intro
    | refine VW.seq ?_
    | refine VW.block ?_
    | ((first | refine VW.skip ?_ | refine VW.exit ?_ | refine VW.reg ?_ | refine VW.regD ?_ | refine VW.ret ?_ | show goA _ _ _ _ _ _ _ _ _ _ | show goB _ _ _ _ _ _ _ _ _ | show goAD _ _ _ _ _ _ _ _ _ _ _ _ _ _ | show goBD _ _ _ _ _ _ _ _ _ _ _); refine sx ?_)
    | refine VW.condT cx ?_
    | refine VW.condF cx ?_
    | refine VW.cond ex ?_ ?_
    | refine imp_nt ?_
    | refine imp_nf ?_
    | refine imp_dt (fun _ => ?_)
    | refine imp_df (fun _ => ?_)
    | (refine fun (_ : _ = true) => ?_)
    | (refine fun (_ : _ = false) => ?_)
    | refine vg_t ?_ ?_
    | refine vg_f ?_ ?_)
    refine VC.rtst hR (by omega) rfl hfew ?_
    rw [hts]
    refine sx ?_
    repeat' (first
    | exact True.intro
    | refine VW.seq ?_
    | refine VW.block ?_
    | ((first | refine VW.skip ?_ | refine VW.exit ?_ | refine VW.reg ?_ | refine VW.regD ?_ | refine VW.ret ?_ | show goA _ _ _ _ _ _ _ _ _ _ | show goB _ _ _ _ _ _ _ _ _ | show goAD _ _ _ _ _ _ _ _ _ _ _ _ _ _ | show goBD _ _ _ _ _ _ _ _ _ _ _); refine sx ?_)
    | refine VW.condT cx ?_
    | refine VW.condF cx ?_
    | refine VW.cond ex ?_ ?_
    | refine imp_nt ?_
    | refine imp_nf ?_
    | refine imp_dt (fun _ => ?_)
    | refine imp_df (fun _ => ?_)
    | (refine fun (_ : _ = true) => ?_)
    | (refine fun (_ : _ = false) => ?_)
    | refine vg_t ?_ ?_
    | refine vg_f ?_ ?_)
    refine VC.wrt hM.mr (by omega) (fun _ _ => rfl) (hJ.fewA (by omega)) ?_
    refine sx ?_
    repeat' (first
    | exact True.intro
    | refine VW.seq ?_
    | refine VW.block ?_
    | ((first | refine VW.skip ?_ | refine VW.exit ?_ | refine VW.reg ?_ | refine VW.regD ?_ | refine VW.ret ?_ | show goA _ _ _ _ _ _ _ _ _ _ | show goB _ _ _ _ _ _ _ _ _ | show goAD _ _ _ _ _ _ _ _ _ _ _ _ _ _ | show goBD _ _ _ _ _ _ _ _ _ _ _); refine sx ?_)
    | refine VW.condT cx ?_
    | refine VW.condF cx ?_
    | refine VW.cond ex ?_ ?_
    | refine imp_nt ?_
    | refine imp_nf ?_
    | refine imp_dt (fun _ => ?_)
    | refine imp_df (fun _ => ?_)
    | (refine fun (_ : _ = true) => ?_)
    | (refine fun (_ : _ = false) => ?_)
    | refine vg_t ?_ ?_
    | refine vg_f ?_ ?_)
    refine VC.rwrt hR (by omega) rfl hfew ?_
    rw [hwr]
    generalize twrF a z = tx at *
    have hst := fun b => cSame tx tx htl htl b
    rw [decide_eq_true rfl] at hst
    refine sx ?_
    repeat' (first
    | exact True.intro
    | refine VW.seq ?_
    | refine VW.block ?_
    | ((first | refine VW.skip ?_ | refine VW.exit ?_ | refine VW.reg ?_ | refine VW.regD ?_ | refine VW.ret ?_ | show goA _ _ _ _ _ _ _ _ _ _ | show goB _ _ _ _ _ _ _ _ _ | show goAD _ _ _ _ _ _ _ _ _ _ _ _ _ _ | show goBD _ _ _ _ _ _ _ _ _ _ _ | refine VC.p2 (hst _) rfl rfl rfl rfl ?_); refine sx ?_)
    | refine VW.condT cx ?_
    | refine VW.condF cx ?_
    | refine VW.cond ex ?_ ?_
    | refine imp_nt ?_
    | refine imp_nf ?_
    | refine imp_dt (fun _ => ?_)
    | refine imp_df (fun _ => ?_)
    | (refine fun (_ : _ = true) => ?_)
    | (refine fun (_ : _ = false) => ?_)
    | refine vg_t ?_ ?_
    | refine vg_f ?_ ?_)
    exact ⟨cx, cx, cx, rfl, by omega⟩
  · obtain rfl : i = 6 := by omega
    replace e5 : e 5 = some (iv 5) := e5
    obtain ⟨x, y, hxy⟩ := oldF_tup a.opens
    have hop := hJ.open4
    have hc := hJ.c
    have hh := hJ.h
    repeat' (first
    | exact True.intro
    | refine VW.seq ?_
    | refine VW.block ?_
    | ((first | refine VW.skip ?_ | refine VW.exit ?_ | refine VW.reg ?_ | refine VW.regD ?_ | refine VW.ret ?_ | show goA _ _ _ _ _ _ _ _ _ _ | show goB _ _ _ _ _ _ _ _ _ | show goAD _ _ _ _ _ _ _ _ _ _ _ _ _ _ | show goBD _ _ _ _ _ _ _ _ _ _ _); refine sx ?_)
    | refine VW.condT cx ?_
    | refine VW.condF cx ?_
    | refine VW.cond ex ?_ ?_
    | refine imp_nt ?_
    | refine imp_nf ?_
    | refine imp_dt (fun _ => ?_)
    | refine imp_df (fun _ => ?_)
    | (refine fun (_ : _ = true) => ?_)
    | (refine fun (_ : _ = false) => ?_)
    | refine vg_t ?_ ?_
    | refine vg_f ?_ ?_)
    refine VC.old hM.mr (by omega) (fun _ _ => rfl) ?_
    rw [hxy]
    refine sx ?_
    repeat' (first
    | exact True.intro
    | refine VW.seq ?_
    | refine VW.block ?_
    | ((first | refine VW.skip ?_ | refine VW.exit ?_ | refine VW.reg ?_ | refine VW.regD ?_ | refine VW.ret ?_ | show goA _ _ _ _ _ _ _ _ _ _ | show goB _ _ _ _ _ _ _ _ _ | show goAD _ _ _ _ _ _ _ _ _ _ _ _ _ _ | show goBD _ _ _ _ _ _ _ _ _ _ _); refine sx ?_)
    | refine VW.condT cx ?_
    | refine VW.condF cx ?_
    | refine VW.cond ex ?_ ?_
    | refine imp_nt ?_
    | refine imp_nf ?_
    | refine imp_dt (fun _ => ?_)
    | refine imp_df (fun _ => ?_)
    | (refine fun (_ : _ = true) => ?_)
    | (refine fun (_ : _ = false) => ?_)
    | refine vg_t ?_ ?_
    | refine vg_f ?_ ?_)
    refine VC.rold hR (by omega) rfl ?_
    rw [hop, hxy]
    refine sx ?_
    repeat' (first
    | exact True.intro
    | refine VW.seq ?_
    | refine VW.block ?_
    | ((first | refine VW.skip ?_ | refine VW.exit ?_ | refine VW.reg ?_ | refine VW.regD ?_ | refine VW.ret ?_ | show goA _ _ _ _ _ _ _ _ _ _ | show goB _ _ _ _ _ _ _ _ _ | show goAD _ _ _ _ _ _ _ _ _ _ _ _ _ _ | show goBD _ _ _ _ _ _ _ _ _ _ _); refine sx ?_)
    | refine VW.condT cx ?_
    | refine VW.condF cx ?_
    | refine VW.cond ex ?_ ?_
    | refine imp_nt ?_
    | refine imp_nf ?_
    | refine imp_dt (fun _ => ?_)
    | refine imp_df (fun _ => ?_)
    | (refine fun (_ : _ = true) => ?_)
    | (refine fun (_ : _ = false) => ?_)
    | refine vg_t ?_ ?_
    | refine vg_f ?_ ?_)
    refine VC.clk hM.mr (by omega) (fun _ _ => rfl) ?_
    refine sx ?_
    repeat' (first
    | exact True.intro
    | refine VW.seq ?_
    | refine VW.block ?_
    | ((first | refine VW.skip ?_ | refine VW.exit ?_ | refine VW.reg ?_ | refine VW.regD ?_ | refine VW.ret ?_ | show goA _ _ _ _ _ _ _ _ _ _ | show goB _ _ _ _ _ _ _ _ _ | show goAD _ _ _ _ _ _ _ _ _ _ _ _ _ _ | show goBD _ _ _ _ _ _ _ _ _ _ _); refine sx ?_)
    | refine VW.condT cx ?_
    | refine VW.condF cx ?_
    | refine VW.cond ex ?_ ?_
    | refine imp_nt ?_
    | refine imp_nf ?_
    | refine imp_dt (fun _ => ?_)
    | refine imp_df (fun _ => ?_)
    | (refine fun (_ : _ = true) => ?_)
    | (refine fun (_ : _ = false) => ?_)
    | refine vg_t ?_ ?_
    | refine vg_f ?_ ?_)
    refine VC.rclk hR (by omega) rfl ?_
    rw [hc]
    refine sx ?_
    repeat' (first
    | exact True.intro
    | refine VW.seq ?_
    | refine VW.block ?_
    | ((first | refine VW.skip ?_ | refine VW.exit ?_ | refine VW.reg ?_ | refine VW.regD ?_ | refine VW.ret ?_ | show goA _ _ _ _ _ _ _ _ _ _ | show goB _ _ _ _ _ _ _ _ _ | show goAD _ _ _ _ _ _ _ _ _ _ _ _ _ _ | show goBD _ _ _ _ _ _ _ _ _ _ _); refine sx ?_)
    | refine VW.condT cx ?_
    | refine VW.condF cx ?_
    | refine VW.cond ex ?_ ?_
    | refine imp_nt ?_
    | refine imp_nf ?_
    | refine imp_dt (fun _ => ?_)
    | refine imp_df (fun _ => ?_)
    | (refine fun (_ : _ = true) => ?_)
    | (refine fun (_ : _ = false) => ?_)
    | refine vg_t ?_ ?_
    | refine vg_f ?_ ?_)
    refine VC.hig hM.mr (by omega) (fun _ _ => rfl) ?_
    refine sx ?_
    repeat' (first
    | exact True.intro
    | refine VW.seq ?_
    | refine VW.block ?_
    | ((first | refine VW.skip ?_ | refine VW.exit ?_ | refine VW.reg ?_ | refine VW.regD ?_ | refine VW.ret ?_ | show goA _ _ _ _ _ _ _ _ _ _ | show goB _ _ _ _ _ _ _ _ _ | show goAD _ _ _ _ _ _ _ _ _ _ _ _ _ _ | show goBD _ _ _ _ _ _ _ _ _ _ _); refine sx ?_)
    | refine VW.condT cx ?_
    | refine VW.condF cx ?_
    | refine VW.cond ex ?_ ?_
    | refine imp_nt ?_
    | refine imp_nf ?_
    | refine imp_dt (fun _ => ?_)
    | refine imp_df (fun _ => ?_)
    | (refine fun (_ : _ = true) => ?_)
    | (refine fun (_ : _ = false) => ?_)
    | refine vg_t ?_ ?_
    | refine vg_f ?_ ?_)
    refine VC.rhig hR (by omega) rfl ?_
    rw [hh]
    refine sx ?_
    repeat' (first
    | exact True.intro
    | refine VW.seq ?_
    | refine VW.block ?_
    | ((first | refine VW.skip ?_ | refine VW.exit ?_ | refine VW.reg ?_ | refine VW.regD ?_ | refine VW.ret ?_ | show goA _ _ _ _ _ _ _ _ _ _ | show goB _ _ _ _ _ _ _ _ _ | show goAD _ _ _ _ _ _ _ _ _ _ _ _ _ _ | show goBD _ _ _ _ _ _ _ _ _ _ _); refine sx ?_)
    | refine VW.condT cx ?_
    | refine VW.condF cx ?_
    | refine VW.cond ex ?_ ?_
    | refine imp_nt ?_
    | refine imp_nf ?_
    | refine imp_dt (fun _ => ?_)
    | refine imp_df (fun _ => ?_)
    | (refine fun (_ : _ = true) => ?_)
    | (refine fun (_ : _ = false) => ?_)
    | refine vg_t ?_ ?_
    | refine vg_f ?_ ?_)
    exact .keepM (cy) fun id o h => ⟨h, hg id o h⟩
end Go.Vx
/- Deeds on both; TxnPlays. -/
set_option linter.unusedSimpArgs false
set_option linter.unusedVariables false
set_option maxRecDepth 4000
set_option maxHeartbeats 4000000
namespace Go.Vx
open Go Go.Proofs

section
variable {s n M R b0 b : Nat} {a : Ab} {r : Rb} {m : Mem} {K : PV → Mem → Prop}
theorem VC.dop {k z N : Int} {key : Str} (h : MRz s a M m b0) (hr : RR r R m b0) (hJ : JJ a r n) (hn : n < 150) (hb : b0 ≤ b)
    (hk : ∀ a' r' m', JJ a' r' (n + 1) → MRz s a' M m' (b + 8) → RR r' R m' (b + 8) → (∀ id o, id < b → m id = some o → keepO o = true → id ≠ R → m' id = some o) → (s ≤ R → ∀ id, id < s → m' id = m id) → K (.bool true) m') :
    VC Try.prog b (.f 22) [.ptr M 15 0 0, .ptr R 15 0 0, .agg [iv k, iv z, .str key, iv N]] true true K m m := by
  have hlow := h.low
  obtain ⟨g0, hg0, hRb⟩ := hr.at
  obtain ⟨m0, h0, hr0, hg, hk0, hs0⟩ := man_in (h.mono hb) (hr.mono hb)
  refine .any rfl rfl [.ptr M 15 0 0, .ptr R 15 0 0, .agg [iv k, iv z, .str key, iv N]] m0 _ ⟨.inl ⟨rfl, by simp [PV.lt, lt1]; omega⟩, .inl ⟨rfl, by simp [PV.lt, lt1]; omega⟩, .inl ⟨rfl, by simp [PV.lt, lt1]⟩, trivial⟩ (fun id o ho => ⟨(hg id o ho).1, (hg id o ho).2.1, (hg id o ho).2.2.1⟩) (v_do h0 hr0 hJ hn) ?_
  rintro q m1 ⟨rfl, a', r', hJ', h', hr', hf⟩
  have hsub : ∀ id o, id < b + 8 → m1 id = some o → patch m0 b m1 m id = some o := fun id o hid ho => by
    simp only [patch]
    rw [if_pos]
    · exact ho
    · by_cases hb' : id < b
      · left
        refine Classical.byContradiction fun hn => ?_
        have : m0 id = none := by cases hm : m0 id with | none => rfl | some o => rw [hm] at hn; exact absurd rfl hn
        rw [hf id hb' this] at ho; cases ho
      · exact .inr ⟨by omega, hid⟩
  have hout : ∀ id, id < b → m0 id = none → patch m0 b m1 m id = m id := fun id hid hn => by
    simp only [patch, hn, Option.isSome_none, Bool.false_eq_true, false_or]
    rw [if_neg (by omega)]
  refine hk a' r' _ hJ' (h'.sub hsub (Nat.le_refl _)) (hr'.sub hsub (Nat.le_refl _)) (fun id o hid ho hko hne => by rw [hout id hid (hk0 id o ho hko hne)]; exact ho) (fun hsR id hid => hout id (by omega) (hs0 hsR id hid))
theorem VC.smp (h : MRz s a M m b0) (hr : RR r R m b0) (hJ : JJ a r n) (hn : n < 150) (hb : b0 ≤ b) {nd : Bool} (hk : ∀ m', (∀ id, id < b → m' id = m id) → K (.bool true) m') :
    VC Try.prog b (.f 19) [.ptr M 15 0 0, .ptr R 15 0 0] true nd K m m := by
  have hlow := h.low
  obtain ⟨g0, hg0, hRb⟩ := hr.at
  obtain ⟨m0, h0, hr0, hg, hk0, hs0⟩ := man_in (h.mono hb) (hr.mono hb)
  refine .gen rfl [.ptr M 15 0 0, .ptr R 15 0 0] m0 _ m0 ⟨.inl ⟨rfl, by simp [PV.lt, lt1]; omega⟩, .inl ⟨rfl, by simp [PV.lt, lt1]; omega⟩, trivial⟩ (fun id o ho => ⟨(hg id o ho).1, (hg id o ho).2.1, (hg id o ho).2.2.1⟩)
    (V.code mixed k19 (by simp) (w_same h0 hr0 hJ hn fun id o ho => ⟨(hg id o ho).2.1, (hg id o ho).2.2.2⟩)) (hk _ fun id hid => ?_)
  simp only [patch]
  split
  · rename_i h
    rcases h with h | h
    · obtain ⟨o, ho⟩ := Option.isSome_iff_exists.1 h
      rw [ho, (hg id o ho).1]
    · omega
  · rfl
end

theorem MRz.sub2 {s : Nat} {a : Ab} {M : Nat} {m m' : Mem} {b b' : Nat} (h : MRz s a M m b) (hm : ∀ id o, s ≤ id → id < b → m id = some o → m' id = some o) (hb : b ≤ b') : MRz s a M m' b' := by
  obtain ⟨W, K, wl, h, s1, s2, s3⟩ := h
  have h1 := h.hM
  have h2 := h.hW
  exact ⟨W, K, wl, ⟨by omega, by omega, h.hMW, hm _ _ s1 h1 h.m0, hm _ _ s2 h2 h.m1, h.mw, fun i hi x hx => by
    obtain ⟨g1, g2, g3, g4⟩ := h.k i hi x hx
    exact ⟨by omega, g2, g3, hm _ _ (s3 i hi (by rw [hx]; simp)) g1 g4⟩, h.kk⟩, s1, s2, s3⟩
theorem MRz.weak {s s' : Nat} {a : Ab} {M : Nat} {m : Mem} {b : Nat} (h : MRz s a M m b) (hs : s' ≤ s) : MRz s' a M m b := by
  obtain ⟨W, K, wl, h, h1, h2, h3⟩ := h
  exact ⟨W, K, wl, h, by omega, by omega, fun i hi hn => by have := h3 i hi hn; omega⟩
def KPl (b : Nat) (q : PV) (m1 : Mem) : Prop := ∃ M R a r, q = .tup [.ptr M 15 0 0, .ptr R 15 0 0, .bool true] ∧ JJ a r 60 ∧ MRz b a M m1 (b + 8) ∧ RR r R m1 (b + 8) ∧ b ≤ R
def JP (l : List Dd) (b i : Nat) (e : Env) (m : Mem) (nx : Nat) : Prop :=
  ∃ M R a r, e 1 = some (.sl (dds l)) ∧ e 7 = some (.ptr M 15 0 0) ∧ e 8 = some (.ptr R 15 0 0) ∧ e 9 = some (iv i) ∧ JJ a r i ∧ MRz b a M m nx ∧ RR r R m nx ∧ b ≤ R ∧ b ≤ nx
theorem w_play (z : Int) (l : List Dd) (b : Nat) : VW Try.prog c18 (PRet (EndsK [.tmp 4, .tmp 5, .tmp 6] b (KPl b))) (fun t => [iv z, .sl (dds l)][t]?) mt b := by
  unfold c18
  repeat' (first
    | exact True.intro
    | refine VW.seq ?_
    | refine VW.block ?_
    | ((first | refine VW.skip ?_ | refine VW.exit ?_ | refine VW.reg ?_ | refine VW.regD ?_ | refine VW.ret ?_ | show goA _ _ _ _ _ _ _ _ _ _ | show goB _ _ _ _ _ _ _ _ _ | show goAD _ _ _ _ _ _ _ _ _ _ _ _ _ _ | show goBD _ _ _ _ _ _ _ _ _ _ _); refine sx ?_)
    | refine VW.condT cx ?_
    | refine VW.condF cx ?_
    | refine VW.cond ex ?_ ?_
    | refine imp_nt ?_
    | refine imp_nf ?_
    | refine imp_dt (fun _ => ?_)
    | refine imp_df (fun _ => ?_)
    | (refine fun (_ : _ = true) => ?_)
    | (refine fun (_ : _ = false) => ?_)
    | refine vg_t ?_ ?_
    | refine vg_f ?_ ?_)
  refine VC.mnewF fun m1 h1 hFx => ?_
  refine sy ?_
  repeat' (first
    | exact True.intro
    | refine VW.seq ?_
    | refine VW.block ?_
    | ((first | refine VW.skip ?_ | refine VW.exit ?_ | refine VW.reg ?_ | refine VW.regD ?_ | refine VW.ret ?_ | show goA _ _ _ _ _ _ _ _ _ _ | show goB _ _ _ _ _ _ _ _ _ | show goAD _ _ _ _ _ _ _ _ _ _ _ _ _ _ | show goBD _ _ _ _ _ _ _ _ _ _ _); refine sx ?_)
    | refine VW.condT cx ?_
    | refine VW.condF cx ?_
    | refine VW.cond ex ?_ ?_
    | refine imp_nt ?_
    | refine imp_nf ?_
    | refine imp_dt (fun _ => ?_)
    | refine imp_df (fun _ => ?_)
    | (refine fun (_ : _ = true) => ?_)
    | (refine fun (_ : _ = false) => ?_)
    | refine vg_t ?_ ?_
    | refine vg_f ?_ ?_)
  refine VC.rnew fun g hG => ?_
  refine sy ?_
  repeat' (first
    | exact True.intro
    | refine VW.seq ?_
    | refine VW.block ?_
    | ((first | refine VW.skip ?_ | refine VW.exit ?_ | refine VW.reg ?_ | refine VW.regD ?_ | refine VW.ret ?_ | show goA _ _ _ _ _ _ _ _ _ _ | show goB _ _ _ _ _ _ _ _ _ | show goAD _ _ _ _ _ _ _ _ _ _ _ _ _ _ | show goBD _ _ _ _ _ _ _ _ _ _ _); refine sx ?_)
    | refine VW.condT cx ?_
    | refine VW.condF cx ?_
    | refine VW.cond ex ?_ ?_
    | refine imp_nt ?_
    | refine imp_nf ?_
    | refine imp_dt (fun _ => ?_)
    | refine imp_df (fun _ => ?_)
    | (refine fun (_ : _ = true) => ?_)
    | (refine fun (_ : _ = false) => ?_)
    | refine vg_t ?_ ?_
    | refine vg_f ?_ ?_)
  refine VW.forN (min l.length 60) (JP l b) 0 (by omega) ⟨_, _, _, _, cy, ey, ey, ey, JJ.new, (h1.of (fun id hid => upd_other _ _ (by omega)) (by omega)).weak (by omega), ⟨g, by omega, upd_same _ _ _, hG⟩, by omega, by omega⟩ ?_
  clear h1 hG g hFx m1
  rintro i e m nx hi ⟨M, R, a, r, e1, e7, e8, e9, hJ, hM, hR, hbR, hbn⟩
  have hlen := dds_len (l := l)
  obtain ⟨hlM, hlM2⟩ := hM.low
  obtain ⟨g0, hg0, hlR⟩ := hR.at
  by_cases hn : i < min l.length 60
  · have hin' : (i : Int) < l.length := by omega
    have hi60 : (i : Int) < 60 := by omega
    obtain ⟨d, hd⟩ := get_of (l := l) (i := i) (by omega)
    have hd' : (dds l)[i]? = some [iv d.k, iv d.i, .str d.key, iv d.n] := by rw [dds_get, hd]; rfl
    have h00 : (0 : Int) ≤ i := by omega
    have htn : (i : Int).toNat = i := Int.toNat_natCast i
    have hw := i64_nat (n := i) (by omega)
    repeat' (first
    | exact True.intro
    | refine VW.seq ?_
    | refine VW.block ?_
    | ((first | refine VW.skip ?_ | refine VW.exit ?_ | refine VW.reg ?_ | refine VW.regD ?_ | refine VW.ret ?_ | show goA _ _ _ _ _ _ _ _ _ _ | show goB _ _ _ _ _ _ _ _ _ | show goAD _ _ _ _ _ _ _ _ _ _ _ _ _ _ | show goBD _ _ _ _ _ _ _ _ _ _ _); refine sx ?_)
    | refine VW.condT cx ?_
    | refine VW.condF cx ?_
    | refine VW.cond ex ?_ ?_
    | refine imp_nt ?_
    | refine imp_nf ?_
    | refine imp_dt (fun _ => ?_)
    | refine imp_df (fun _ => ?_)
    | (refine fun (_ : _ = true) => ?_)
    | (refine fun (_ : _ = false) => ?_)
    | refine vg_t ?_ ?_
    | refine vg_f ?_ ?_)
    refine VC.dop hM hR hJ (by omega) (by omega) fun a' r' m' hJ' hM' hR' _ _ => ?_
    clear hM hR hJ hg0
    refine sx ?_
    repeat' (first
    | exact True.intro
    | refine VW.seq ?_
    | refine VW.block ?_
    | ((first | refine VW.skip ?_ | refine VW.exit ?_ | refine VW.reg ?_ | refine VW.regD ?_ | refine VW.ret ?_ | show goA _ _ _ _ _ _ _ _ _ _ | show goB _ _ _ _ _ _ _ _ _ | show goAD _ _ _ _ _ _ _ _ _ _ _ _ _ _ | show goBD _ _ _ _ _ _ _ _ _ _ _); refine sx ?_)
    | refine VW.condT cx ?_
    | refine VW.condF cx ?_
    | refine VW.cond ex ?_ ?_
    | refine imp_nt ?_
    | refine imp_nf ?_
    | refine imp_dt (fun _ => ?_)
    | refine imp_df (fun _ => ?_)
    | (refine fun (_ : _ = true) => ?_)
    | (refine fun (_ : _ = false) => ?_)
    | refine vg_t ?_ ?_
    | refine vg_f ?_ ?_)
    exact ⟨M, R, a', r', cx, cx, cx, cx, hJ', hM'.mono (by omega), hR'.mono (by omega), hbR, by omega⟩
  · have hJ' := hJ.mono (n' := 60) (by omega)
    have fin : ∀ e', e' 4 = some (.ptr M 15 0 0) → e' 5 = some (.ptr R 15 0 0) → e' 6 = some (.bool true) → EndsK [.tmp 4, .tmp 5, .tmp 6] b (KPl b) e' m := fun e' f1 f2 f3 => by
      obtain ⟨σ, M', R', m1, h1, h2, h3, h4, h5, h6, h7, h8, h9, h10, h11, h12, h13⟩ := man_out hM hR (Nat.le_refl b)
      refine ⟨.tup [.ptr M' 15 0 0, .ptr R' 15 0 0, .bool true], m1, ⟨M', R', a, r, rfl, hJ', h9, h10, h8 hbR⟩, .tup [.ptr M 15 0 0, .ptr R 15 0 0, .bool true], by simp [resF, resL, RX.ev, f1, f2, f3, tup1], [], σ, .inl ⟨?_, ?_⟩, fun id o ho => ?_, h12, h1⟩
      · simp [PV.ren, renA, ren1, h2, h3]
      · simp [ltT, ltA, PV.lt, lt1, h4, h5]
      · rw [frz_nil']
        exact h11 id o ho
    by_cases hin : i < l.length
    · obtain rfl : i = 60 := by omega
      have hin' : (60 : Int) < l.length := by omega
      replace e9 : e 9 = some (iv 60) := e9
      repeat' (first
    | exact True.intro
    | refine VW.seq ?_
    | refine VW.block ?_
    | ((first | refine VW.skip ?_ | refine VW.exit ?_ | refine VW.reg ?_ | refine VW.regD ?_ | refine VW.ret ?_ | show goA _ _ _ _ _ _ _ _ _ _ | show goB _ _ _ _ _ _ _ _ _ | show goAD _ _ _ _ _ _ _ _ _ _ _ _ _ _ | show goBD _ _ _ _ _ _ _ _ _ _ _); refine sx ?_)
    | refine VW.condT cx ?_
    | refine VW.condF cx ?_
    | refine VW.cond ex ?_ ?_
    | refine imp_nt ?_
    | refine imp_nf ?_
    | refine imp_dt (fun _ => ?_)
    | refine imp_df (fun _ => ?_)
    | (refine fun (_ : _ = true) => ?_)
    | (refine fun (_ : _ = false) => ?_)
    | refine vg_t ?_ ?_
    | refine vg_f ?_ ?_)
      all_goals exact fin _ (cy) (cy) (cy)
    · have hin' : ¬ (i : Int) < l.length := by omega
      repeat' (first
    | exact True.intro
    | refine VW.seq ?_
    | refine VW.block ?_
    | ((first | refine VW.skip ?_ | refine VW.exit ?_ | refine VW.reg ?_ | refine VW.regD ?_ | refine VW.ret ?_ | show goA _ _ _ _ _ _ _ _ _ _ | show goB _ _ _ _ _ _ _ _ _ | show goAD _ _ _ _ _ _ _ _ _ _ _ _ _ _ | show goBD _ _ _ _ _ _ _ _ _ _ _); refine sx ?_)
    | refine VW.condT cx ?_
    | refine VW.condF cx ?_
    | refine VW.cond ex ?_ ?_
    | refine imp_nt ?_
    | refine imp_nf ?_
    | refine imp_dt (fun _ => ?_)
    | refine imp_df (fun _ => ?_)
    | (refine fun (_ : _ = true) => ?_)
    | (refine fun (_ : _ = false) => ?_)
    | refine vg_t ?_ ?_
    | refine vg_f ?_ ?_)
      all_goals exact fin _ (cy) (cy) (cy)
theorem v_play (z : Int) (l : List Dd) (b : Nat) : VX Try.prog (.f 18) [iv z, .sl (dds l)] mt b (KPl b) := VX.code mixed k18 (by simp) (w_play z l b)

theorem w6 (z : Int) (l : List Dd) (b : Nat) : VW Try.prog c6 (PRet (Ends [.tmp 4] b (.bool true) mt)) (fun t => [iv z, PV.sl (dds l)][t]?) mt b := by
  unfold c6
  repeat' (first
    | exact True.intro
    | refine VW.seq ?_
    | refine VW.block ?_
    | ((first | refine VW.skip ?_ | refine VW.exit ?_ | refine VW.reg ?_ | refine VW.regD ?_ | refine VW.ret ?_ | show goA _ _ _ _ _ _ _ _ _ _ | show goB _ _ _ _ _ _ _ _ _ | show goAD _ _ _ _ _ _ _ _ _ _ _ _ _ _ | show goBD _ _ _ _ _ _ _ _ _ _ _); refine sx ?_)
    | refine VW.condT cx ?_
    | refine VW.condF cx ?_
    | refine VW.cond ex ?_ ?_
    | refine imp_nt ?_
    | refine imp_nf ?_
    | refine imp_dt (fun _ => ?_)
    | refine imp_df (fun _ => ?_)
    | (refine fun (_ : _ = true) => ?_)
    | (refine fun (_ : _ = false) => ?_)
    | refine vg_t ?_ ?_
    | refine vg_f ?_ ?_)
  refine .any rfl rfl [iv z, .sl (dds l)] mt _ ⟨.inl ⟨rfl, rfl⟩, .inl ⟨rfl, rfl⟩, trivial⟩ (fun id o ho => by cases ho) (v_play z l _) ?_
  rintro q m1 ⟨M, R, a, r, rfl, hJ, hM, hR, _⟩
  obtain ⟨g, hR1, hR2, hG⟩ := hR
  have hM' := hM.sub2 (m' := patch mt (b + 24) m1 mt) (fun id o h1 h2 ho => by simp only [patch]; rw [if_pos (.inr ⟨by omega, by omega⟩)]; exact ho) (Nat.le_refl _)
  have hR' : RR r R (patch mt (b + 24) m1 mt) (b + 24 + 8) := ⟨g, hR1, by simp only [patch]; rw [if_pos (.inr ⟨by omega, by omega⟩)]; exact hR2, hG⟩
  generalize patch mt (b + 24) m1 mt = m at *
  clear hM hR1 hR2 hG
  refine sy ?_
  repeat' (first
    | exact True.intro
    | refine VW.seq ?_
    | refine VW.block ?_
    | ((first | refine VW.skip ?_ | refine VW.exit ?_ | refine VW.reg ?_ | refine VW.regD ?_ | refine VW.ret ?_ | show goA _ _ _ _ _ _ _ _ _ _ | show goB _ _ _ _ _ _ _ _ _ | show goAD _ _ _ _ _ _ _ _ _ _ _ _ _ _ | show goBD _ _ _ _ _ _ _ _ _ _ _ | refine VC.p0 (vlive _) ?_); refine sx ?_)
    | refine VW.condT cx ?_
    | refine VW.condF cx ?_
    | refine VW.cond ex ?_ ?_
    | refine imp_nt ?_
    | refine imp_nf ?_
    | refine imp_dt (fun _ => ?_)
    | refine imp_df (fun _ => ?_)
    | (refine fun (_ : _ = true) => ?_)
    | (refine fun (_ : _ = false) => ?_)
    | refine vg_t ?_ ?_
    | refine vg_f ?_ ?_)
  refine VC.smp hM' hR' hJ (by omega) (by omega) fun m' _ => ?_
  refine sy ?_
  repeat' (first
    | exact True.intro
    | refine VW.seq ?_
    | refine VW.block ?_
    | ((first | refine VW.skip ?_ | refine VW.exit ?_ | refine VW.reg ?_ | refine VW.regD ?_ | refine VW.ret ?_ | show goA _ _ _ _ _ _ _ _ _ _ | show goB _ _ _ _ _ _ _ _ _ | show goAD _ _ _ _ _ _ _ _ _ _ _ _ _ _ | show goBD _ _ _ _ _ _ _ _ _ _ _); refine sx ?_)
    | refine VW.condT cx ?_
    | refine VW.condF cx ?_
    | refine VW.cond ex ?_ ?_
    | refine imp_nt ?_
    | refine imp_nf ?_
    | refine imp_dt (fun _ => ?_)
    | refine imp_df (fun _ => ?_)
    | (refine fun (_ : _ = true) => ?_)
    | (refine fun (_ : _ = false) => ?_)
    | refine vg_t ?_ ?_
    | refine vg_f ?_ ?_)
  exact .v exR exR
theorem v6 (z : Int) (l : List Dd) (b : Nat) : V Try.prog 6 [iv z, .sl (dds l)] mt b (.bool true) mt := V.code mixed k6 (by simp) (w6 z l b)
end Go.Vx
/- Arguments: a number. -/
set_option linter.unusedVariables false
namespace Go.Vx
open Go Go.Proofs
theorem fits_int {q : PV} {N : Nat} (h : Fits N [.int .i64] false q) : ∃ s, q = iv s ∧ True := by
  obtain ⟨ct, h1, h2⟩ := h
  injection h1 with h1; subst h1
  cases h2; exact ⟨_, rfl, trivial⟩
theorem ct_int : cellsTy Try.prog 5 3 = some [.int .i64] := by kernel_rfl
theorem ag_int : tyAgg Try.prog 3 = some false := by kernel_rfl
end Go.Vx
