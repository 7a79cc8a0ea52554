/- Do both tell the same? -/
import Derived.Test.YtgkkffhoflgpoaaHM
import Derived.Shelf.SlMaps.Clone
import Derived.Test.YtgkkffhoflgpoaaL2
set_option linter.unusedSimpArgs false
set_option linter.unusedVariables false
set_option maxRecDepth 4000
set_option maxHeartbeats 4000000
namespace Go.Vx
open Go Go.Proofs

/-- An end that leaves all as it was. -/
theorem Ends.keepM {t : Nat} {b : Nat} {e : Env} {m0 m : Mem} {x : Bool} (h : e t = some (.bool x)) (hg : ∀ id o, m0 id = some o → m id = some o ∧ id < b ∧ o.lt (b + 8) = true ∧ o.fix b = true) : Ends [.tmp t] b (.bool x) m0 e m := by
  refine ⟨.bool x, by simp [resF, resL, RX.ev, h, tup1], [], fun j => j, .inl ⟨rfl, rfl⟩, fun id o hid => ?_, fun i j o o' _ _ h => h, fun _ _ => rfl⟩
  rw [frz_nil', oren_id]
  have := hg id o hid
  exact ⟨this.1, by have := this.2.1; omega, this.2.2⟩
def Goodm (b : Nat) (m : Mem) : Prop := ∀ id o, m id = some o → id < b ∧ o.lt (b + 8) = true ∧ o.fix b = true

theorem MRz.sub {s : Nat} {a : Ab} {M : Nat} {m m' : Mem} {b b' : Nat} (h : MRz s a M m b) (hm : ∀ id o, id < b → m id = some o → m' id = some o) (hb : b ≤ b') : MRz s a M m' b' := by
  obtain ⟨W, K, wl, h, hs⟩ := h
  have h1 := h.hM
  have h2 := h.hW
  exact ⟨W, K, wl, ⟨by omega, by omega, h.hMW, hm _ _ h1 h.m0, hm _ _ h2 h.m1, h.mw, fun i hi x hx => by
    obtain ⟨g1, g2, g3, g4⟩ := h.k i hi x hx
    exact ⟨by omega, g2, g3, hm _ _ g1 g4⟩, h.kk⟩, hs⟩
theorem RR.sub {r : Rb} {R : Nat} {m m' : Mem} {b b' : Nat} (h : RR r R m b) (hm : ∀ id o, id < b → m id = some o → m' id = some o) (hb : b ≤ b') : RR r R m' b' := by
  obtain ⟨g, h1, h2, h3⟩ := h
  exact ⟨g, by omega, hm _ _ h1 h2, h3⟩
/-- Just the objects of both. -/
theorem man_in {s b : Nat} {a : Ab} {r : Rb} {M R : Nat} {m : Mem} (h : MRz s a M m b) (hr : RR r R m b) : ∃ m0, MRz s a M m0 b ∧ RR r R m0 b ∧ (∀ id o, m0 id = some o → m id = some o ∧ id < b ∧ o.lt b = true ∧ o.lt (b + 8) = true ∧ o.fix b = true) ∧
    (∀ id o, m id = some o → keepO o = true → id ≠ R → m0 id = none) ∧ (s ≤ R → ∀ id, id < s → m0 id = none) := by
  obtain ⟨W, K, wl, h, hs1, hs2, hs3⟩ := h
  obtain ⟨g, hRn, hmR, hg⟩ := hr
  let S : Nat → Prop := fun id => id = M ∨ id = R ∨ id = W ∨ ∃ i, i < 4 ∧ a.se i ≠ none ∧ id = K i
  have : DecidablePred S := fun id => Classical.propDecidable _
  let m0 : Mem := fun id => if S id then m id else none
  have e : ∀ id, S id → m0 id = m id := fun id hS => if_pos hS
  have e' : ∀ id, ¬ S id → m0 id = none := fun id hS => if_neg hS
  have hok := h.ok
  have sub : ∀ id o, id < b → S id → m id = some o → m0 id = some o := fun id o _ hS ho => by rw [e id hS]; exact ho
  have cases' : ∀ id, S id → (id = M ∧ m id = some (gOf a K W).box) ∨ (id = R ∧ m id = some g.rbox) ∨ (id = W ∧ m id = some (.map (wmap wl))) ∨ (s ≤ id ∧ id < b ∧ ∃ ks, m id = some (.map (kmap ks))) := by
    rintro id (rfl | rfl | rfl | ⟨i, hi, hn, rfl⟩)
    · exact .inl ⟨rfl, h.m0⟩
    · exact .inr (.inl ⟨rfl, hmR⟩)
    · exact .inr (.inr (.inl ⟨rfl, h.m1⟩))
    · obtain ⟨x, hx⟩ := Option.ne_none_iff_exists'.1 hn
      obtain ⟨h1, h2, h3, h4⟩ := h.k i hi x hx
      exact .inr (.inr (.inr ⟨hs3 i hi hn, h1, _, h4⟩))
  refine ⟨m0, ⟨W, K, wl, ⟨h.hM, h.hW, h.hMW, by rw [e M (.inl rfl)]; exact h.m0, by rw [e W (.inr (.inr (.inl rfl)))]; exact h.m1, h.mw, fun i hi x hx => ?_, h.kk⟩, hs1, hs2, hs3⟩, ⟨g, hRn, by rw [e R (.inr (.inl rfl))]; exact hmR, hg⟩, fun id o ho => ?_, fun id o ho hk hne => ?_, fun hsR id hid => ?_⟩
  · obtain ⟨h1, h2, h3, h4⟩ := h.k i hi x hx
    exact ⟨h1, h2, h3, by rw [e (K i) (.inr (.inr (.inr ⟨i, hi, by rw [hx]; simp, rfl⟩)))]; exact h4⟩
  · have hS : S id := Classical.byContradiction fun hS => by rw [e' id hS] at ho; cases ho
    rw [e id hS] at ho
    rcases cases' id hS with ⟨rfl, hm⟩ | ⟨rfl, hm⟩ | ⟨rfl, hm⟩ | ⟨_, hb, ks, hm⟩ <;> (rw [ho] at hm; injection hm with hm; subst hm)
    · exact ⟨ho, h.hM, by simpa using Mg.blt (k := 0) hok, Mg.blt hok, rfl⟩
    · exact ⟨ho, hRn, by simpa using Mg.rblt (k := 0) (hg.ok (b := b)), Mg.rblt hg.ok, rfl⟩
    · exact ⟨ho, h.hW, (flatM_lt wmap_flat).1, (flatM_lt wmap_flat).1, (flatM_lt wmap_flat).2⟩
    · exact ⟨ho, hb, kmap_lt.1, kmap_lt.1, kmap_lt.2⟩
  · refine e' id fun hS => ?_
    rcases cases' id hS with ⟨rfl, hm⟩ | ⟨rfl, hm⟩ | ⟨rfl, hm⟩ | ⟨_, _, ks, hm⟩
    · rw [ho] at hm; injection hm with hm; subst hm; cases hk
    · exact hne rfl
    · rw [ho] at hm; injection hm with hm; subst hm; cases hk
    · rw [ho] at hm; injection hm with hm; subst hm; cases hk
  · refine e' id fun hS => ?_
    rcases cases' id hS with ⟨rfl, hm⟩ | ⟨rfl, hm⟩ | ⟨rfl, hm⟩ | ⟨h1, _, ks, hm⟩ <;> omega

theorem cSame (xs ys : List Str) (hl : xs.length < 1000) (hl' : ys.length < 1000) (b : Nat) : V Try.prog 34 [.sl (strs xs), .sl (strs ys)] mt b (.bool (decide (xs = ys))) mt := V.code mixed k34 (by simp) (w_sameTexts xs ys hl hl' b)
theorem sinF_tup (a : Ab) (z : Int) : ∃ x y, sinF a z = .tup [iv x, .bool y] := by
  unfold sinF
  split
  · split <;> exact ⟨_, _, rfl⟩
  · exact ⟨_, _, rfl⟩
theorem oldF_tup (l : List Int) : ∃ x y, oldF l = .tup [iv x, .bool y] := by
  unfold oldF
  split <;> exact ⟨_, _, rfl⟩

def JS (M R : Nat) (m0 : Mem) (b i : Nat) (e : Env) (m : Mem) (nx : Nat) : Prop := e 0 = some (.ptr M 15 0 0) ∧ e 1 = some (.ptr R 15 0 0) ∧ e 5 = some (iv ((i : Int) - 1)) ∧ m = m0 ∧ b ≤ nx
theorem w_same {s n M R b : Nat} {a : Ab} {r : Rb} {m0 : Mem} (hM : MRz s a M m0 b) (hR : RR r R m0 b) (hJ : JJ a r n) (hn : n < 150) (hg : Goodm b m0) :
    VW Try.prog c19 (PRet (Ends [.tmp 4] b (.bool true) m0)) (fun t => [PV.ptr M 15 0 0, .ptr R 15 0 0][t]?) m0 b := by
  unfold c19
  have hfew := hJ.few (by omega)
  have hfa := hJ.fewA (by omega)
  repeat' (first
    | exact True.intro
    | refine VW.seq ?_
    | refine VW.block ?_
    | ((first | refine VW.skip ?_ | refine VW.exit ?_ | refine VW.reg ?_ | refine VW.regD ?_ | refine VW.ret ?_ | show goA _ _ _ _ _ _ _ _ _ _ | show goB _ _ _ _ _ _ _ _ _ | show goAD _ _ _ _ _ _ _ _ _ _ _ _ _ _ | show goBD _ _ _ _ _ _ _ _ _ _ _); refine sx ?_)
    | refine VW.condT cx ?_
    | refine VW.condF cx ?_
    | refine VW.cond ex ?_ ?_
    | refine imp_nt ?_
    | refine imp_nf ?_
    | refine imp_dt (fun _ => ?_)
    | refine imp_df (fun _ => ?_)
    | (refine fun (_ : _ = true) => ?_)
    | (refine fun (_ : _ = false) => ?_)
    | refine vg_t ?_ ?_
    | refine vg_f ?_ ?_)
  refine VW.forN 6 (JS M R m0 b) 0 (by omega) ⟨cy, cy, ey, rfl, by omega⟩ ?_
  rintro i e m nx hi ⟨e0, e1, e5, rfl, hbn⟩
  by_cases hi6 : i < 6
  · have hw : IntKind.i64.wrap ((i : Int) - 1 + 1) = ((i + 1 : Nat) : Int) - 1 := by rw [IntWalk.i64_in _ (by omega)]; omega
    have hle : (i : Int) - 1 ≤ 4 := by omega
    generalize hz : (i : Int) - 1 = z at *
    obtain ⟨x, y, hxy⟩ := sinF_tup a z
    have hop := hJ.opb z
    have hts := hJ.tst z
    have hwr := hJ.wrf z
    have hsi := hJ.sinf z
    have htl : (twrF a z).length < 1000 := by
      unfold twrF
      split
      · split
        · simp
        · rename_i ho
          show (sortK _).length < 1000
          rw [sortK_p.length_eq]; exact hfa _ _ ho
      · simp
    clear hi hfa
    repeat' (first
    | exact True.intro
    | refine VW.seq ?_
    | refine VW.block ?_
    | ((first | refine VW.skip ?_ | refine VW.exit ?_ | refine VW.reg ?_ | refine VW.regD ?_ | refine VW.ret ?_ | show goA _ _ _ _ _ _ _ _ _ _ | show goB _ _ _ _ _ _ _ _ _ | show goAD _ _ _ _ _ _ _ _ _ _ _ _ _ _ | show goBD _ _ _ _ _ _ _ _ _ _ _); refine sx ?_)
    | refine VW.condT cx ?_
    | refine VW.condF cx ?_
    | refine VW.cond ex ?_ ?_
    | refine imp_nt ?_
    | refine imp_nf ?_
    | refine imp_dt (fun _ => ?_)
    | refine imp_df (fun _ => ?_)
    | (refine fun (_ : _ = true) => ?_)
    | (refine fun (_ : _ = false) => ?_)
    | refine vg_t ?_ ?_
    | refine vg_f ?_ ?_)
    refine VC.sin hM.mr (by omega) (fun _ _ => rfl) ?_
    rw [hxy]
    refine sx ?_
    repeat' (first
    | exact True.intro
    | refine VW.seq ?_
    | refine VW.block ?_
    | ((first | refine VW.skip ?_ | refine VW.exit ?_ | refine VW.reg ?_ | refine VW.regD ?_ | refine VW.ret ?_ | show goA _ _ _ _ _ _ _ _ _ _ | show goB _ _ _ _ _ _ _ _ _ | show goAD _ _ _ _ _ _ _ _ _ _ _ _ _ _ | show goBD _ _ _ _ _ _ _ _ _ _ _); refine sx ?_)
    | refine VW.condT cx ?_
    | refine VW.condF cx ?_
    | refine VW.cond ex ?_ ?_
    | refine imp_nt ?_
    | refine imp_nf ?_
    | refine imp_dt (fun _ => ?_)
    | refine imp_df (fun _ => ?_)
    | (refine fun (_ : _ = true) => ?_)
    | (refine fun (_ : _ = false) => ?_)
    | refine vg_t ?_ ?_
    | refine vg_f ?_ ?_)
    refine VC.rsin hR (by omega) rfl ?_
    rw [hsi, hxy]
    refine sx ?_
    repeat' (first
    | exact True.intro
    | refine VW.seq ?_
    | refine VW.block ?_
    | ((first | refine VW.skip ?_ | refine VW.exit ?_ | refine VW.reg ?_ | refine VW.regD ?_ | refine VW.ret ?_ | show goA _ _ _ _ _ _ _ _ _ _ | show goB _ _ _ _ _ _ _ _ _ | show goAD _ _ _ _ _ _ _ _ _ _ _ _ _ _ | show goBD _ _ _ _ _ _ _ _ _ _ _); refine sx ?_)
    | refine VW.condT cx ?_
    | refine VW.condF cx ?_
    | refine VW.cond ex ?_ ?_
    | refine imp_nt ?_
    | refine imp_nf ?_
    | refine imp_dt (fun _ => ?_)
    | refine imp_df (fun _ => ?_)
    | (refine fun (_ : _ = true) => ?_)
    | (refine fun (_ : _ = false) => ?_)
    | refine vg_t ?_ ?_
    | refine vg_f ?_ ?_)
    refine VC.opn hM.mr (by omega) (fun _ _ => rfl) ?_
    refine sx ?_
    repeat' (first
    | exact True.intro
    | refine VW.seq ?_
    | refine VW.block ?_
    | ((first | refine VW.skip ?_ | refine VW.exit ?_ | refine VW.reg ?_ | refine VW.regD ?_ | refine VW.ret ?_ | show goA _ _ _ _ _ _ _ _ _ _ | show goB _ _ _ _ _ _ _ _ _ | show goAD _ _ _ _ _ _ _ _ _ _ _ _ _ _ | show goBD _ _ _ _ _ _ _ _ _ _ _); refine sx ?_)
    | refine VW.condT cx ?_
    | refine VW.condF cx ?_
    | refine VW.cond ex ?_ ?_
    | refine imp_nt ?_
    | refine imp_nf ?_
    | refine imp_dt (fun _ => ?_)
    | refine imp_df (fun _ => ?_)
    | (refine fun (_ : _ = true) => ?_)
    | (refine fun (_ : _ = false) => ?_)
    | refine vg_t ?_ ?_
    | refine vg_f ?_ ?_)
    refine VC.ropn hR (by omega) rfl ?_
    rw [hop]
    refine sx ?_
    repeat' (first
    | exact True.intro
    | refine VW.seq ?_
    | refine VW.block ?_
    | ((first | refine VW.skip ?_ | refine VW.exit ?_ | refine VW.reg ?_ | refine VW.regD ?_ | refine VW.ret ?_ | show goA _ _ _ _ _ _ _ _ _ _ | show goB _ _ _ _ _ _ _ _ _ | show goAD _ _ _ _ _ _ _ _ _ _ _ _ _ _ | show goBD _ _ _ _ _ _ _ _ _ _ _); refine sx ?_)
    | refine VW.condT cx ?_
    | refine VW.condF cx ?_
    | refine VW.cond ex ?_ ?_
    | refine imp_nt ?_
    | refine imp_nf ?_
    | refine imp_dt (fun _ => ?_)
    | refine imp_df (fun _ => ?_)
    | (refine fun (_ : _ = true) => ?_)
    | (refine fun (_ : _ = false) => ?_)
    | refine vg_t ?_ ?_
    | refine vg_f ?_ ?_)
    refine VC.tst hM.mr (by omega) (fun _ _ => rfl) ?_
    refine sx ?_
    repeat' (first
    | exact True.intro
    | refine VW.seq ?_
    | refine VW.block ?_
    | ((first | refine VW.skip ?_ | refine VW.exit ?_ | refine VW.reg ?_ | refine VW.regD ?_ | refine VW.ret ?_ | show goA _ _ _ _ _ _ _ _ _ _ | show goB _ _ _ _ _ _ _ _ _ | show goAD _ _ _ _ _ _ _ _ _ _ _ _ _ _ | show goBD _ _ _ _ _ _ _ _ _ _ _); refine sx ?_)
    | refine VW.condT cx ?_
    | refine VW.condF cx ?_
    | refine VW.cond ex ?_ ?_
    | refine imp_nt ?_
    | refine imp_nf ?_
    | refine imp_dt (fun _ => ?_)
    | refine imp_df (fun _ => ?_)
    | (refine fun (_ : _ = true) => ?_)
    | (refine fun (_ : _ = false) => ?_)
    | refine vg_t ?_ ?_
    | refine vg_f ?_ ?_)
    refine VC.rtst hR (by omega) rfl hfew ?_
    rw [hts]
    refine sx ?_
    repeat' (first
    | exact True.intro
    | refine VW.seq ?_
    | refine VW.block ?_
    | ((first | refine VW.skip ?_ | refine VW.exit ?_ | refine VW.reg ?_ | refine VW.regD ?_ | refine VW.ret ?_ | show goA _ _ _ _ _ _ _ _ _ _ | show goB _ _ _ _ _ _ _ _ _ | show goAD _ _ _ _ _ _ _ _ _ _ _ _ _ _ | show goBD _ _ _ _ _ _ _ _ _ _ _); refine sx ?_)
    | refine VW.condT cx ?_
    | refine VW.condF cx ?_
    | refine VW.cond ex ?_ ?_
    | refine imp_nt ?_
    | refine imp_nf ?_
    | refine imp_dt (fun _ => ?_)
    | refine imp_df (fun _ => ?_)
    | (refine fun (_ : _ = true) => ?_)
    | (refine fun (_ : _ = false) => ?_)
    | refine vg_t ?_ ?_
    | refine vg_f ?_ ?_)
    refine VC.wrt hM.mr (by omega) (fun _ _ => rfl) (hJ.fewA (by omega)) ?_
    refine sx ?_
    repeat' (first
    | exact True.intro
    | refine VW.seq ?_
    | refine VW.block ?_
    | ((first | refine VW.skip ?_ | refine VW.exit ?_ | refine VW.reg ?_ | refine VW.regD ?_ | refine VW.ret ?_ | show goA _ _ _ _ _ _ _ _ _ _ | show goB _ _ _ _ _ _ _ _ _ | show goAD _ _ _ _ _ _ _ _ _ _ _ _ _ _ | show goBD _ _ _ _ _ _ _ _ _ _ _); refine sx ?_)
    | refine VW.condT cx ?_
    | refine VW.condF cx ?_
    | refine VW.cond ex ?_ ?_
    | refine imp_nt ?_
    | refine imp_nf ?_
    | refine imp_dt (fun _ => ?_)
    | refine imp_df (fun _ => ?_)
    | (refine fun (_ : _ = true) => ?_)
    | (refine fun (_ : _ = false) => ?_)
    | refine vg_t ?_ ?_
    | refine vg_f ?_ ?_)
    refine VC.rwrt hR (by omega) rfl hfew ?_
    rw [hwr]
    generalize twrF a z = tx at *
    have hst := fun b => cSame tx tx htl htl b
    rw [decide_eq_true rfl] at hst
    refine sx ?_
    repeat' (first
    | exact True.intro
    | refine VW.seq ?_
    | refine VW.block ?_
    | ((first | refine VW.skip ?_ | refine VW.exit ?_ | refine VW.reg ?_ | refine VW.regD ?_ | refine VW.ret ?_ | show goA _ _ _ _ _ _ _ _ _ _ | show goB _ _ _ _ _ _ _ _ _ | show goAD _ _ _ _ _ _ _ _ _ _ _ _ _ _ | show goBD _ _ _ _ _ _ _ _ _ _ _ | refine VC.p2 (hst _) rfl rfl rfl rfl ?_); refine sx ?_)
    | refine VW.condT cx ?_
    | refine VW.condF cx ?_
    | refine VW.cond ex ?_ ?_
    | refine imp_nt ?_
    | refine imp_nf ?_
    | refine imp_dt (fun _ => ?_)
    | refine imp_df (fun _ => ?_)
    | (refine fun (_ : _ = true) => ?_)
    | (refine fun (_ : _ = false) => ?_)
    | refine vg_t ?_ ?_
    | refine vg_f ?_ ?_)
    exact ⟨cx, cx, cx, rfl, by omega⟩
  · obtain rfl : i = 6 := by omega
    replace e5 : e 5 = some (iv 5) := e5
    obtain ⟨x, y, hxy⟩ := oldF_tup a.opens
    have hop := hJ.open4
    have hc := hJ.c
    have hh := hJ.h
    repeat' (first
    | exact True.intro
    | refine VW.seq ?_
    | refine VW.block ?_
    | ((first | refine VW.skip ?_ | refine VW.exit ?_ | refine VW.reg ?_ | refine VW.regD ?_ | refine VW.ret ?_ | show goA _ _ _ _ _ _ _ _ _ _ | show goB _ _ _ _ _ _ _ _ _ | show goAD _ _ _ _ _ _ _ _ _ _ _ _ _ _ | show goBD _ _ _ _ _ _ _ _ _ _ _); refine sx ?_)
    | refine VW.condT cx ?_
    | refine VW.condF cx ?_
    | refine VW.cond ex ?_ ?_
    | refine imp_nt ?_
    | refine imp_nf ?_
    | refine imp_dt (fun _ => ?_)
    | refine imp_df (fun _ => ?_)
    | (refine fun (_ : _ = true) => ?_)
    | (refine fun (_ : _ = false) => ?_)
    | refine vg_t ?_ ?_
    | refine vg_f ?_ ?_)
    refine VC.old hM.mr (by omega) (fun _ _ => rfl) ?_
    rw [hxy]
    refine sx ?_
    repeat' (first
    | exact True.intro
    | refine VW.seq ?_
    | refine VW.block ?_
    | ((first | refine VW.skip ?_ | refine VW.exit ?_ | refine VW.reg ?_ | refine VW.regD ?_ | refine VW.ret ?_ | show goA _ _ _ _ _ _ _ _ _ _ | show goB _ _ _ _ _ _ _ _ _ | show goAD _ _ _ _ _ _ _ _ _ _ _ _ _ _ | show goBD _ _ _ _ _ _ _ _ _ _ _); refine sx ?_)
    | refine VW.condT cx ?_
    | refine VW.condF cx ?_
    | refine VW.cond ex ?_ ?_
    | refine imp_nt ?_
    | refine imp_nf ?_
    | refine imp_dt (fun _ => ?_)
    | refine imp_df (fun _ => ?_)
    | (refine fun (_ : _ = true) => ?_)
    | (refine fun (_ : _ = false) => ?_)
    | refine vg_t ?_ ?_
    | refine vg_f ?_ ?_)
    refine VC.rold hR (by omega) rfl ?_
    rw [hop, hxy]
    refine sx ?_
    repeat' (first
    | exact True.intro
    | refine VW.seq ?_
    | refine VW.block ?_
    | ((first | refine VW.skip ?_ | refine VW.exit ?_ | refine VW.reg ?_ | refine VW.regD ?_ | refine VW.ret ?_ | show goA _ _ _ _ _ _ _ _ _ _ | show goB _ _ _ _ _ _ _ _ _ | show goAD _ _ _ _ _ _ _ _ _ _ _ _ _ _ | show goBD _ _ _ _ _ _ _ _ _ _ _); refine sx ?_)
    | refine VW.condT cx ?_
    | refine VW.condF cx ?_
    | refine VW.cond ex ?_ ?_
    | refine imp_nt ?_
    | refine imp_nf ?_
    | refine imp_dt (fun _ => ?_)
    | refine imp_df (fun _ => ?_)
    | (refine fun (_ : _ = true) => ?_)
    | (refine fun (_ : _ = false) => ?_)
    | refine vg_t ?_ ?_
    | refine vg_f ?_ ?_)
    refine VC.clk hM.mr (by omega) (fun _ _ => rfl) ?_
    refine sx ?_
    repeat' (first
    | exact True.intro
    | refine VW.seq ?_
    | refine VW.block ?_
    | ((first | refine VW.skip ?_ | refine VW.exit ?_ | refine VW.reg ?_ | refine VW.regD ?_ | refine VW.ret ?_ | show goA _ _ _ _ _ _ _ _ _ _ | show goB _ _ _ _ _ _ _ _ _ | show goAD _ _ _ _ _ _ _ _ _ _ _ _ _ _ | show goBD _ _ _ _ _ _ _ _ _ _ _); refine sx ?_)
    | refine VW.condT cx ?_
    | refine VW.condF cx ?_
    | refine VW.cond ex ?_ ?_
    | refine imp_nt ?_
    | refine imp_nf ?_
    | refine imp_dt (fun _ => ?_)
    | refine imp_df (fun _ => ?_)
    | (refine fun (_ : _ = true) => ?_)
    | (refine fun (_ : _ = false) => ?_)
    | refine vg_t ?_ ?_
    | refine vg_f ?_ ?_)
    refine VC.rclk hR (by omega) rfl ?_
    rw [hc]
    refine sx ?_
    repeat' (first
    | exact True.intro
    | refine VW.seq ?_
    | refine VW.block ?_
    | ((first | refine VW.skip ?_ | refine VW.exit ?_ | refine VW.reg ?_ | refine VW.regD ?_ | refine VW.ret ?_ | show goA _ _ _ _ _ _ _ _ _ _ | show goB _ _ _ _ _ _ _ _ _ | show goAD _ _ _ _ _ _ _ _ _ _ _ _ _ _ | show goBD _ _ _ _ _ _ _ _ _ _ _); refine sx ?_)
    | refine VW.condT cx ?_
    | refine VW.condF cx ?_
    | refine VW.cond ex ?_ ?_
    | refine imp_nt ?_
    | refine imp_nf ?_
    | refine imp_dt (fun _ => ?_)
    | refine imp_df (fun _ => ?_)
    | (refine fun (_ : _ = true) => ?_)
    | (refine fun (_ : _ = false) => ?_)
    | refine vg_t ?_ ?_
    | refine vg_f ?_ ?_)
    refine VC.hig hM.mr (by omega) (fun _ _ => rfl) ?_
    refine sx ?_
    repeat' (first
    | exact True.intro
    | refine VW.seq ?_
    | refine VW.block ?_
    | ((first | refine VW.skip ?_ | refine VW.exit ?_ | refine VW.reg ?_ | refine VW.regD ?_ | refine VW.ret ?_ | show goA _ _ _ _ _ _ _ _ _ _ | show goB _ _ _ _ _ _ _ _ _ | show goAD _ _ _ _ _ _ _ _ _ _ _ _ _ _ | show goBD _ _ _ _ _ _ _ _ _ _ _); refine sx ?_)
    | refine VW.condT cx ?_
    | refine VW.condF cx ?_
    | refine VW.cond ex ?_ ?_
    | refine imp_nt ?_
    | refine imp_nf ?_
    | refine imp_dt (fun _ => ?_)
    | refine imp_df (fun _ => ?_)
    | (refine fun (_ : _ = true) => ?_)
    | (refine fun (_ : _ = false) => ?_)
    | refine vg_t ?_ ?_
    | refine vg_f ?_ ?_)
    refine VC.rhig hR (by omega) rfl ?_
    rw [hh]
    refine sx ?_
    repeat' (first
    | exact True.intro
    | refine VW.seq ?_
    | refine VW.block ?_
    | ((first | refine VW.skip ?_ | refine VW.exit ?_ | refine VW.reg ?_ | refine VW.regD ?_ | refine VW.ret ?_ | show goA _ _ _ _ _ _ _ _ _ _ | show goB _ _ _ _ _ _ _ _ _ | show goAD _ _ _ _ _ _ _ _ _ _ _ _ _ _ | show goBD _ _ _ _ _ _ _ _ _ _ _); refine sx ?_)
    | refine VW.condT cx ?_
    | refine VW.condF cx ?_
    | refine VW.cond ex ?_ ?_
    | refine imp_nt ?_
    | refine imp_nf ?_
    | refine imp_dt (fun _ => ?_)
    | refine imp_df (fun _ => ?_)
    | (refine fun (_ : _ = true) => ?_)
    | (refine fun (_ : _ = false) => ?_)
    | refine vg_t ?_ ?_
    | refine vg_f ?_ ?_)
    exact .keepM (cy) fun id o h => ⟨h, hg id o h⟩
end Go.Vx
/- Deeds on both; TxnPlays. -/
set_option linter.unusedSimpArgs false
set_option linter.unusedVariables false
set_option maxRecDepth 4000
set_option maxHeartbeats 4000000
namespace Go.Vx
open Go Go.Proofs

section
variable {s n M R b0 b : Nat} {a : Ab} {r : Rb} {m : Mem} {K : PV → Mem → Prop}
theorem VC.dop {k z N : Int} {key : Str} (h : MRz s a M m b0) (hr : RR r R m b0) (hJ : JJ a r n) (hn : n < 150) (hb : b0 ≤ b)
    (hk : ∀ a' r' m', JJ a' r' (n + 1) → MRz s a' M m' (b + 8) → RR r' R m' (b + 8) → (∀ id o, id < b → m id = some o → keepO o = true → id ≠ R → m' id = some o) → (s ≤ R → ∀ id, id < s → m' id = m id) → K (.bool true) m') :
    VC Try.prog b (.f 22) [.ptr M 15 0 0, .ptr R 15 0 0, .agg [iv k, iv z, .str key, iv N]] true true K m m := by
  have hlow := h.low
  obtain ⟨g0, hg0, hRb⟩ := hr.at
  obtain ⟨m0, h0, hr0, hg, hk0, hs0⟩ := man_in (h.mono hb) (hr.mono hb)
  refine .any rfl rfl [.ptr M 15 0 0, .ptr R 15 0 0, .agg [iv k, iv z, .str key, iv N]] m0 _ ⟨.inl ⟨rfl, by simp [PV.lt, lt1]; omega⟩, .inl ⟨rfl, by simp [PV.lt, lt1]; omega⟩, .inl ⟨rfl, by simp [PV.lt, lt1]⟩, trivial⟩ (fun id o ho => ⟨(hg id o ho).1, (hg id o ho).2.1, (hg id o ho).2.2.1⟩) (v_do h0 hr0 hJ hn) ?_
  rintro q m1 ⟨rfl, a', r', hJ', h', hr', hf⟩
  have hsub : ∀ id o, id < b + 8 → m1 id = some o → patch m0 b m1 m id = some o := fun id o hid ho => by
    simp only [patch]
    rw [if_pos]
    · exact ho
    · by_cases hb' : id < b
      · left
        refine Classical.byContradiction fun hn => ?_
        have : m0 id = none := by cases hm : m0 id with | none => rfl | some o => rw [hm] at hn; exact absurd rfl hn
        rw [hf id hb' this] at ho; cases ho
      · exact .inr ⟨by omega, hid⟩
  have hout : ∀ id, id < b → m0 id = none → patch m0 b m1 m id = m id := fun id hid hn => by
    simp only [patch, hn, Option.isSome_none, Bool.false_eq_true, false_or]
    rw [if_neg (by omega)]
  refine hk a' r' _ hJ' (h'.sub hsub (Nat.le_refl _)) (hr'.sub hsub (Nat.le_refl _)) (fun id o hid ho hko hne => by rw [hout id hid (hk0 id o ho hko hne)]; exact ho) (fun hsR id hid => hout id (by omega) (hs0 hsR id hid))
theorem VC.smp (h : MRz s a M m b0) (hr : RR r R m b0) (hJ : JJ a r n) (hn : n < 150) (hb : b0 ≤ b) {nd : Bool} (hk : ∀ m', (∀ id, id < b → m' id = m id) → K (.bool true) m') :
    VC Try.prog b (.f 19) [.ptr M 15 0 0, .ptr R 15 0 0] true nd K m m := by
  have hlow := h.low
  obtain ⟨g0, hg0, hRb⟩ := hr.at
  obtain ⟨m0, h0, hr0, hg, hk0, hs0⟩ := man_in (h.mono hb) (hr.mono hb)
  refine .gen rfl [.ptr M 15 0 0, .ptr R 15 0 0] m0 _ m0 ⟨.inl ⟨rfl, by simp [PV.lt, lt1]; omega⟩, .inl ⟨rfl, by simp [PV.lt, lt1]; omega⟩, trivial⟩ (fun id o ho => ⟨(hg id o ho).1, (hg id o ho).2.1, (hg id o ho).2.2.1⟩)
    (V.code mixed k19 (by simp) (w_same h0 hr0 hJ hn fun id o ho => ⟨(hg id o ho).2.1, (hg id o ho).2.2.2⟩)) (hk _ fun id hid => ?_)
  simp only [patch]
  split
  · rename_i h
    rcases h with h | h
    · obtain ⟨o, ho⟩ := Option.isSome_iff_exists.1 h
      rw [ho, (hg id o ho).1]
    · omega
  · rfl
end

theorem MRz.sub2 {s : Nat} {a : Ab} {M : Nat} {m m' : Mem} {b b' : Nat} (h : MRz s a M m b) (hm : ∀ id o, s ≤ id → id < b → m id = some o → m' id = some o) (hb : b ≤ b') : MRz s a M m' b' := by
  obtain ⟨W, K, wl, h, s1, s2, s3⟩ := h
  have h1 := h.hM
  have h2 := h.hW
  exact ⟨W, K, wl, ⟨by omega, by omega, h.hMW, hm _ _ s1 h1 h.m0, hm _ _ s2 h2 h.m1, h.mw, fun i hi x hx => by
    obtain ⟨g1, g2, g3, g4⟩ := h.k i hi x hx
    exact ⟨by omega, g2, g3, hm _ _ (s3 i hi (by rw [hx]; simp)) g1 g4⟩, h.kk⟩, s1, s2, s3⟩
theorem MRz.weak {s s' : Nat} {a : Ab} {M : Nat} {m : Mem} {b : Nat} (h : MRz s a M m b) (hs : s' ≤ s) : MRz s' a M m b := by
  obtain ⟨W, K, wl, h, h1, h2, h3⟩ := h
  exact ⟨W, K, wl, h, by omega, by omega, fun i hi hn => by have := h3 i hi hn; omega⟩
def KPl (b : Nat) (q : PV) (m1 : Mem) : Prop := ∃ M R a r, q = .tup [.ptr M 15 0 0, .ptr R 15 0 0, .bool true] ∧ JJ a r 60 ∧ MRz b a M m1 (b + 8) ∧ RR r R m1 (b + 8) ∧ b ≤ R
def JP (l : List Dd) (b i : Nat) (e : Env) (m : Mem) (nx : Nat) : Prop :=
  ∃ M R a r, e 1 = some (.sl (dds l)) ∧ e 7 = some (.ptr M 15 0 0) ∧ e 8 = some (.ptr R 15 0 0) ∧ e 9 = some (iv i) ∧ JJ a r i ∧ MRz b a M m nx ∧ RR r R m nx ∧ b ≤ R ∧ b ≤ nx
theorem w_play (z : Int) (l : List Dd) (b : Nat) : VW Try.prog c18 (PRet (EndsK [.tmp 4, .tmp 5, .tmp 6] b (KPl b))) (fun t => [iv z, .sl (dds l)][t]?) mt b := by
  unfold c18
  repeat' (first
    | exact True.intro
    | refine VW.seq ?_
    | refine VW.block ?_
    | ((first | refine VW.skip ?_ | refine VW.exit ?_ | refine VW.reg ?_ | refine VW.regD ?_ | refine VW.ret ?_ | show goA _ _ _ _ _ _ _ _ _ _ | show goB _ _ _ _ _ _ _ _ _ | show goAD _ _ _ _ _ _ _ _ _ _ _ _ _ _ | show goBD _ _ _ _ _ _ _ _ _ _ _); refine sx ?_)
    | refine VW.condT cx ?_
    | refine VW.condF cx ?_
    | refine VW.cond ex ?_ ?_
    | refine imp_nt ?_
    | refine imp_nf ?_
    | refine imp_dt (fun _ => ?_)
    | refine imp_df (fun _ => ?_)
    | (refine fun (_ : _ = true) => ?_)
    | (refine fun (_ : _ = false) => ?_)
    | refine vg_t ?_ ?_
    | refine vg_f ?_ ?_)
  refine VC.mnewF fun m1 h1 hFx => ?_
  refine sy ?_
  repeat' (first
    | exact True.intro
    | refine VW.seq ?_
    | refine VW.block ?_
    | ((first | refine VW.skip ?_ | refine VW.exit ?_ | refine VW.reg ?_ | refine VW.regD ?_ | refine VW.ret ?_ | show goA _ _ _ _ _ _ _ _ _ _ | show goB _ _ _ _ _ _ _ _ _ | show goAD _ _ _ _ _ _ _ _ _ _ _ _ _ _ | show goBD _ _ _ _ _ _ _ _ _ _ _); refine sx ?_)
    | refine VW.condT cx ?_
    | refine VW.condF cx ?_
    | refine VW.cond ex ?_ ?_
    | refine imp_nt ?_
    | refine imp_nf ?_
    | refine imp_dt (fun _ => ?_)
    | refine imp_df (fun _ => ?_)
    | (refine fun (_ : _ = true) => ?_)
    | (refine fun (_ : _ = false) => ?_)
    | refine vg_t ?_ ?_
    | refine vg_f ?_ ?_)
  refine VC.rnew fun g hG => ?_
  refine sy ?_
  repeat' (first
    | exact True.intro
    | refine VW.seq ?_
    | refine VW.block ?_
    | ((first | refine VW.skip ?_ | refine VW.exit ?_ | refine VW.reg ?_ | refine VW.regD ?_ | refine VW.ret ?_ | show goA _ _ _ _ _ _ _ _ _ _ | show goB _ _ _ _ _ _ _ _ _ | show goAD _ _ _ _ _ _ _ _ _ _ _ _ _ _ | show goBD _ _ _ _ _ _ _ _ _ _ _); refine sx ?_)
    | refine VW.condT cx ?_
    | refine VW.condF cx ?_
    | refine VW.cond ex ?_ ?_
    | refine imp_nt ?_
    | refine imp_nf ?_
    | refine imp_dt (fun _ => ?_)
    | refine imp_df (fun _ => ?_)
    | (refine fun (_ : _ = true) => ?_)
    | (refine fun (_ : _ = false) => ?_)
    | refine vg_t ?_ ?_
    | refine vg_f ?_ ?_)
  refine VW.forN (min l.length 60) (JP l b) 0 (by omega) ⟨_, _, _, _, cy, ey, ey, ey, JJ.new, (h1.of (fun id hid => upd_other _ _ (by omega)) (by omega)).weak (by omega), ⟨g, by omega, upd_same _ _ _, hG⟩, by omega, by omega⟩ ?_
  clear h1 hG g hFx m1
  rintro i e m nx hi ⟨M, R, a, r, e1, e7, e8, e9, hJ, hM, hR, hbR, hbn⟩
  have hlen := dds_len (l := l)
  obtain ⟨hlM, hlM2⟩ := hM.low
  obtain ⟨g0, hg0, hlR⟩ := hR.at
  by_cases hn : i < min l.length 60
  · have hin' : (i : Int) < l.length := by omega
    have hi60 : (i : Int) < 60 := by omega
    obtain ⟨d, hd⟩ := get_of (l := l) (i := i) (by omega)
    have hd' : (dds l)[i]? = some [iv d.k, iv d.i, .str d.key, iv d.n] := by rw [dds_get, hd]; rfl
    have h00 : (0 : Int) ≤ i := by omega
    have htn : (i : Int).toNat = i := Int.toNat_natCast i
    have hw := i64_nat (n := i) (by omega)
    repeat' (first
    | exact True.intro
    | refine VW.seq ?_
    | refine VW.block ?_
    | ((first | refine VW.skip ?_ | refine VW.exit ?_ | refine VW.reg ?_ | refine VW.regD ?_ | refine VW.ret ?_ | show goA _ _ _ _ _ _ _ _ _ _ | show goB _ _ _ _ _ _ _ _ _ | show goAD _ _ _ _ _ _ _ _ _ _ _ _ _ _ | show goBD _ _ _ _ _ _ _ _ _ _ _); refine sx ?_)
    | refine VW.condT cx ?_
    | refine VW.condF cx ?_
    | refine VW.cond ex ?_ ?_
    | refine imp_nt ?_
    | refine imp_nf ?_
    | refine imp_dt (fun _ => ?_)
    | refine imp_df (fun _ => ?_)
    | (refine fun (_ : _ = true) => ?_)
    | (refine fun (_ : _ = false) => ?_)
    | refine vg_t ?_ ?_
    | refine vg_f ?_ ?_)
    refine VC.dop hM hR hJ (by omega) (by omega) fun a' r' m' hJ' hM' hR' _ _ => ?_
    clear hM hR hJ hg0
    refine sx ?_
    repeat' (first
    | exact True.intro
    | refine VW.seq ?_
    | refine VW.block ?_
    | ((first | refine VW.skip ?_ | refine VW.exit ?_ | refine VW.reg ?_ | refine VW.regD ?_ | refine VW.ret ?_ | show goA _ _ _ _ _ _ _ _ _ _ | show goB _ _ _ _ _ _ _ _ _ | show goAD _ _ _ _ _ _ _ _ _ _ _ _ _ _ | show goBD _ _ _ _ _ _ _ _ _ _ _); refine sx ?_)
    | refine VW.condT cx ?_
    | refine VW.condF cx ?_
    | refine VW.cond ex ?_ ?_
    | refine imp_nt ?_
    | refine imp_nf ?_
    | refine imp_dt (fun _ => ?_)
    | refine imp_df (fun _ => ?_)
    | (refine fun (_ : _ = true) => ?_)
    | (refine fun (_ : _ = false) => ?_)
    | refine vg_t ?_ ?_
    | refine vg_f ?_ ?_)
    exact ⟨M, R, a', r', cx, cx, cx, cx, hJ', hM'.mono (by omega), hR'.mono (by omega), hbR, by omega⟩
  · have hJ' := hJ.mono (n' := 60) (by omega)
    have fin : ∀ e', e' 4 = some (.ptr M 15 0 0) → e' 5 = some (.ptr R 15 0 0) → e' 6 = some (.bool true) → EndsK [.tmp 4, .tmp 5, .tmp 6] b (KPl b) e' m := fun e' f1 f2 f3 => by
      obtain ⟨σ, M', R', m1, h1, h2, h3, h4, h5, h6, h7, h8, h9, h10, h11, h12, h13⟩ := man_out hM hR (Nat.le_refl b)
      refine ⟨.tup [.ptr M' 15 0 0, .ptr R' 15 0 0, .bool true], m1, ⟨M', R', a, r, rfl, hJ', h9, h10, h8 hbR⟩, .tup [.ptr M 15 0 0, .ptr R 15 0 0, .bool true], by simp [resF, resL, RX.ev, f1, f2, f3, tup1], [], σ, .inl ⟨?_, ?_⟩, fun id o ho => ?_, h12, h1⟩
      · simp [PV.ren, renA, ren1, h2, h3]
      · simp [ltT, ltA, PV.lt, lt1, h4, h5]
      · rw [frz_nil']
        exact h11 id o ho
    by_cases hin : i < l.length
    · obtain rfl : i = 60 := by omega
      have hin' : (60 : Int) < l.length := by omega
      replace e9 : e 9 = some (iv 60) := e9
      repeat' (first
    | exact True.intro
    | refine VW.seq ?_
    | refine VW.block ?_
    | ((first | refine VW.skip ?_ | refine VW.exit ?_ | refine VW.reg ?_ | refine VW.regD ?_ | refine VW.ret ?_ | show goA _ _ _ _ _ _ _ _ _ _ | show goB _ _ _ _ _ _ _ _ _ | show goAD _ _ _ _ _ _ _ _ _ _ _ _ _ _ | show goBD _ _ _ _ _ _ _ _ _ _ _); refine sx ?_)
    | refine VW.condT cx ?_
    | refine VW.condF cx ?_
    | refine VW.cond ex ?_ ?_
    | refine imp_nt ?_
    | refine imp_nf ?_
    | refine imp_dt (fun _ => ?_)
    | refine imp_df (fun _ => ?_)
    | (refine fun (_ : _ = true) => ?_)
    | (refine fun (_ : _ = false) => ?_)
    | refine vg_t ?_ ?_
    | refine vg_f ?_ ?_)
      all_goals exact fin _ (cy) (cy) (cy)
    · have hin' : ¬ (i : Int) < l.length := by omega
      repeat' (first
    | exact True.intro
    | refine VW.seq ?_
    | refine VW.block ?_
    | ((first | refine VW.skip ?_ | refine VW.exit ?_ | refine VW.reg ?_ | refine VW.regD ?_ | refine VW.ret ?_ | show goA _ _ _ _ _ _ _ _ _ _ | show goB _ _ _ _ _ _ _ _ _ | show goAD _ _ _ _ _ _ _ _ _ _ _ _ _ _ | show goBD _ _ _ _ _ _ _ _ _ _ _); refine sx ?_)
    | refine VW.condT cx ?_
    | refine VW.condF cx ?_
    | refine VW.cond ex ?_ ?_
    | refine imp_nt ?_
    | refine imp_nf ?_
    | refine imp_dt (fun _ => ?_)
    | refine imp_df (fun _ => ?_)
    | (refine fun (_ : _ = true) => ?_)
    | (refine fun (_ : _ = false) => ?_)
    | refine vg_t ?_ ?_
    | refine vg_f ?_ ?_)
      all_goals exact fin _ (cy) (cy) (cy)
theorem v_play (z : Int) (l : List Dd) (b : Nat) : VX Try.prog (.f 18) [iv z, .sl (dds l)] mt b (KPl b) := VX.code mixed k18 (by simp) (w_play z l b)

theorem w6 (z : Int) (l : List Dd) (b : Nat) : VW Try.prog c6 (PRet (Ends [.tmp 4] b (.bool true) mt)) (fun t => [iv z, PV.sl (dds l)][t]?) mt b := by
  unfold c6
  repeat' (first
    | exact True.intro
    | refine VW.seq ?_
    | refine VW.block ?_
    | ((first | refine VW.skip ?_ | refine VW.exit ?_ | refine VW.reg ?_ | refine VW.regD ?_ | refine VW.ret ?_ | show goA _ _ _ _ _ _ _ _ _ _ | show goB _ _ _ _ _ _ _ _ _ | show goAD _ _ _ _ _ _ _ _ _ _ _ _ _ _ | show goBD _ _ _ _ _ _ _ _ _ _ _); refine sx ?_)
    | refine VW.condT cx ?_
    | refine VW.condF cx ?_
    | refine VW.cond ex ?_ ?_
    | refine imp_nt ?_
    | refine imp_nf ?_
    | refine imp_dt (fun _ => ?_)
    | refine imp_df (fun _ => ?_)
    | (refine fun (_ : _ = true) => ?_)
    | (refine fun (_ : _ = false) => ?_)
    | refine vg_t ?_ ?_
    | refine vg_f ?_ ?_)
  refine .any rfl rfl [iv z, .sl (dds l)] mt _ ⟨.inl ⟨rfl, rfl⟩, .inl ⟨rfl, rfl⟩, trivial⟩ (fun id o ho => by cases ho) (v_play z l _) ?_
  rintro q m1 ⟨M, R, a, r, rfl, hJ, hM, hR, _⟩
  obtain ⟨g, hR1, hR2, hG⟩ := hR
  have hM' := hM.sub2 (m' := patch mt (b + 24) m1 mt) (fun id o h1 h2 ho => by simp only [patch]; rw [if_pos (.inr ⟨by omega, by omega⟩)]; exact ho) (Nat.le_refl _)
  have hR' : RR r R (patch mt (b + 24) m1 mt) (b + 24 + 8) := ⟨g, hR1, by simp only [patch]; rw [if_pos (.inr ⟨by omega, by omega⟩)]; exact hR2, hG⟩
  generalize patch mt (b + 24) m1 mt = m at *
  clear hM hR1 hR2 hG
  refine sy ?_
  repeat' (first
    | exact True.intro
    | refine VW.seq ?_
    | refine VW.block ?_
    | ((first | refine VW.skip ?_ | refine VW.exit ?_ | refine VW.reg ?_ | refine VW.regD ?_ | refine VW.ret ?_ | show goA _ _ _ _ _ _ _ _ _ _ | show goB _ _ _ _ _ _ _ _ _ | show goAD _ _ _ _ _ _ _ _ _ _ _ _ _ _ | show goBD _ _ _ _ _ _ _ _ _ _ _ | refine VC.p0 (vlive _) ?_); refine sx ?_)
    | refine VW.condT cx ?_
    | refine VW.condF cx ?_
    | refine VW.cond ex ?_ ?_
    | refine imp_nt ?_
    | refine imp_nf ?_
    | refine imp_dt (fun _ => ?_)
    | refine imp_df (fun _ => ?_)
    | (refine fun (_ : _ = true) => ?_)
    | (refine fun (_ : _ = false) => ?_)
    | refine vg_t ?_ ?_
    | refine vg_f ?_ ?_)
  refine VC.smp hM' hR' hJ (by omega) (by omega) fun m' _ => ?_
  refine sy ?_
  repeat' (first
    | exact True.intro
    | refine VW.seq ?_
    | refine VW.block ?_
    | ((first | refine VW.skip ?_ | refine VW.exit ?_ | refine VW.reg ?_ | refine VW.regD ?_ | refine VW.ret ?_ | show goA _ _ _ _ _ _ _ _ _ _ | show goB _ _ _ _ _ _ _ _ _ | show goAD _ _ _ _ _ _ _ _ _ _ _ _ _ _ | show goBD _ _ _ _ _ _ _ _ _ _ _); refine sx ?_)
    | refine VW.condT cx ?_
    | refine VW.condF cx ?_
    | refine VW.cond ex ?_ ?_
    | refine imp_nt ?_
    | refine imp_nf ?_
    | refine imp_dt (fun _ => ?_)
    | refine imp_df (fun _ => ?_)
    | (refine fun (_ : _ = true) => ?_)
    | (refine fun (_ : _ = false) => ?_)
    | refine vg_t ?_ ?_
    | refine vg_f ?_ ?_)
  exact .v exR exR
theorem v6 (z : Int) (l : List Dd) (b : Nat) : V Try.prog 6 [iv z, .sl (dds l)] mt b (.bool true) mt := V.code mixed k6 (by simp) (w6 z l b)
end Go.Vx
/- Arguments: a number. -/
set_option linter.unusedVariables false
namespace Go.Vx
open Go Go.Proofs
theorem fits_int {q : PV} {N : Nat} (h : Fits N [.int .i64] false q) : ∃ s, q = iv s ∧ True := by
  obtain ⟨ct, h1, h2⟩ := h
  injection h1 with h1; subst h1
  cases h2; exact ⟨_, rfl, trivial⟩
theorem ct_int : cellsTy Try.prog 5 3 = some [.int .i64] := by kernel_rfl
theorem ag_int : tyAgg Try.prog 3 = some false := by kernel_rfl
end Go.Vx
/- maps.Clone, by the shelf's contract. -/
set_option linter.unusedSimpArgs false
set_option linter.unusedVariables false
set_option maxRecDepth 4000
set_option maxHeartbeats 2000000
namespace Go.Vx
open Go Go.RowKit Go.Shelf Go.Proofs

section
variable {P : Program}
/-- **A map that is copied.** -/
theorem V.clone {ρ : Ren} (L : SlLaysW.n5 P ρ) (he : EntersX P (.f (ρ.f 5))) {K b : Nat} (hK : K < b) (es : List (PV × PV)) :
    V P (ρ.f 5) [.map K] (upd mt K (some (.map es))) b (.map b) (upd (upd mt K (some (.map es))) b (some (.map es))) := by
  refine ⟨he, fun w β ok vs hm hf hok hr => ?_⟩
  have hlen := hr.1
  match vs, hlen with
  | [v1], _ =>
  have r1 := hr.2 0 _ v1 rfl rfl
  have hmK : (upd mt K (some (.map es))) K = some (.map es) := upd_same _ _ _
  obtain ⟨l, hl, hor⟩ := hm.objs K _ hmK
  obtain ⟨bl, cap, rfl, hbl⟩ : ∃ bl cap, v1 = .map (some bl) ∧ β K = some (.at bl cap) := by cases r1 with | map _ bl cap h => exact ⟨bl, cap, rfl, h⟩
  rw [hbl] at hl; injection hl with hl; subst hl
  obtain ⟨⟨ents, g1, g2, g3⟩, g4⟩ := hor
  have hblk : bl < w.heap.size := (Array.getElem?_eq_some_iff.1 g1).1
  refine (show Calls P (ρ.f 5) #[.map (some bl)] w _ from (AnyW.maps_Clone L bl ents es.length w g1).mono ?_)
  rintro e w' ⟨rfl, rfl⟩
  have hsz : (w.alloc (.map ents es.length)).heap.size = w.heap.size + 1 := by simp
  have hold : ∀ k, k < w.heap.size → (w.alloc (.map ents es.length)).heap[k]? = w.heap[k]? := fun k hk => Below.heap_alloc w _ k hk
  have hnew : (w.alloc (.map ents es.length)).heap[w.heap.size]? = some (.map ents es.length) := heap_alloc_new w _
  have hnok : ¬ ok w.heap.size := fun h => by have := hok _ h; omega
  obtain ⟨β', hβ'⟩ : ∃ β', β' = upd β b (some (.at w.heap.size 0)) := ⟨_, rfl⟩
  have hbm : ∀ id x, β id = some x → β' id = some x := by rw [hβ']; exact beta_upd (hf b (Nat.le_refl _))
  have hmono : ∀ {p v}, Rep w ok β p v → Rep (w.alloc (.map ents es.length)) ok β' p v := fun h => h.mono (fun k hk => hold k (hok k hk)) (fun _ h => h) _ hbm
  have hmono0 : ∀ {p v}, Rep w ok noIds p v → Rep (w.alloc (.map ents es.length)) ok noIds p v := fun h => h.mono (fun k hk => hold k (hok k hk)) (fun _ h => h) _ (fun _ _ h => h)
  have hent : ∀ (j : Nat) e, es[j]? = some e → ∃ x, ents[j]? = some x ∧ Rep (w.alloc (.map ents es.length)) ok noIds e.1 x.key ∧ Rep (w.alloc (.map ents es.length)) ok β' e.2 x.val ∧ x.born = j := fun j e hj => by
    obtain ⟨x, h1, h2, h3, h4⟩ := g3 j e hj
    exact ⟨x, h1, hmono0 h2, hmono h3, h4⟩
  have only : ∀ i o, (upd (upd mt K (some (.map es))) b (some (.map es))) i = some o → (i = b ∧ o = .map es) ∨ (i = K ∧ o = .map es) := fun i o h => by
    by_cases hb : i = b
    · subst hb; rw [upd_same] at h; injection h with h; exact .inl ⟨rfl, h.symm⟩
    · rw [upd_other _ _ hb] at h
      by_cases hk : i = K
      · subst hk; rw [upd_same] at h; injection h with h; exact .inr ⟨rfl, h.symm⟩
      · rw [upd_other _ _ hk] at h; cases h
  have hβb : β' b = some (.at w.heap.size 0) := by rw [hβ', upd_same]
  have hβK : β' K = some (.at bl cap) := hbm _ _ hbl
  refine ⟨.map (some w.heap.size), _, _, β', ok, rfl, ⟨rfl, rfl⟩, .map _ _ 0 hβb, ⟨fun i o ho => ?_, fun i i' o o' bb c1 c2 h1 h2 h3 h4 _ _ => ?_⟩, ⟨rfl, rfl, rfl, by omega, fun i hi _ => hold i hi, Nat.le_refl _⟩, fun id hid => by rw [hβ', upd_other _ _ (by omega)], fun id hid => by rw [hβ', upd_other _ _ (by omega)]; exact hf id (by omega), fun _ h => h, fun k hk => by have := hok k hk; omega, fun _ h => .inl h, fun k hk => ?_⟩
  · rcases only i o ho with ⟨rfl, rfl⟩ | ⟨rfl, rfl⟩
    · exact ⟨_, hβb, ⟨ents, hnew, g2, hent⟩, hnok⟩
    · exact ⟨_, hβK, ⟨ents, by rw [hold _ hblk]; exact g1, g2, hent⟩, g4⟩
  · rcases only i o h1 with ⟨rfl, rfl⟩ | ⟨rfl, rfl⟩ <;> rcases only i' o' h2 with ⟨rfl, rfl⟩ | ⟨rfl, rfl⟩
    · rfl
    · rw [hβb] at h3; rw [hβK] at h4; injection h3 with h3; injection h4 with h4; injection h3 with h3; injection h4 with h4; omega
    · rw [hβK] at h3; rw [hβb] at h4; injection h3 with h3; injection h4 with h4; injection h3 with h3; injection h4 with h4; omega
    · rfl
  · obtain ⟨i, o, cap', h1, h2, h3⟩ := hk
    rcases only i o h1 with ⟨rfl, rfl⟩ | ⟨rfl, rfl⟩
    · rw [hβb] at h3; injection h3 with h3; injection h3 with h3; exact .inr (by omega)
    · exact .inl ⟨i, _, cap, hmK, rfl, by rw [hβK] at h3; injection h3 with h3; injection h3 with h3 h5; rw [← h3]; exact hbl⟩
theorem V.cloneNil {ρ : Ren} (L : SlLaysW.n5 P ρ) (he : EntersX P (.f (ρ.f 5))) (b : Nat) : V P (ρ.f 5) [.nilm] mt b .nilm mt := by
  refine ⟨he, fun w β ok vs hm hf hok hr => ?_⟩
  have hlen := hr.1
  match vs, hlen with
  | [v1], _ =>
  have r1 := hr.2 0 _ v1 rfl rfl
  have h1 : v1 = .map none := by cases r1; rfl
  subst h1
  refine (show Calls P (ρ.f 5) #[.map none] w _ from (AnyW.maps_Clone_nil L w).mono ?_)
  rintro e w' ⟨rfl, rfl⟩
  exact ⟨_, _, _, β, ok, rfl, ⟨rfl, rfl⟩, .nilm, hm, Keeps.refl _ _, fun _ _ => rfl, fun i hi => hf i (by omega), fun _ h => h, hok, fun _ h => .inl h, fun k h => .inl h⟩
end
end Go.Vx
/- The manager's Fork. -/
set_option linter.unusedSimpArgs false
set_option linter.unusedVariables false
set_option maxRecDepth 4000
set_option maxHeartbeats 2000000
namespace Go.Vx
open Go Go.Proofs

structure Clo (P : Program) (f : Nat) : Prop where
  nil : ∀ b, V P f [.nilm] mt b .nilm mt
  map : ∀ K b, K < b → ∀ es, V P f [.map K] (upd mt K (some (.map es))) b (.map b) (upd (upd mt K (some (.map es))) b (some (.map es)))
section
variable {P : Program}
theorem VC.clo {f : Nat} (h : Clo P f) {K b : Nat} (hK : K < b) {es : List (PV × PV)} (hes : flatM es) {m : Mem} (hm : m K = some (.map es)) {nd : Bool} {Kq : PV → Mem → Prop} (hk : Kq (.map b) (upd m b (some (.map es)))) : VC P b (.f f) [.map K] true nd Kq m m := by
  refine .ol rfl [.map K] [(K, .map es)] [(K, .map es), (b, .map es)] _ ⟨.inl ⟨rfl, by simp [PV.lt, lt1]; exact hK⟩, trivial⟩ ?_ ?_ (h.map K b hK es) ?_
  · simp only [List.mem_cons, List.not_mem_nil, or_false, forall_eq, forall_eq_or_imp]; exact ⟨hm, hK, (flatM_lt hes).1⟩
  · simp only [List.mem_cons, List.not_mem_nil, or_false, forall_eq, forall_eq_or_imp]; exact ⟨.inl (by simp), .inr ⟨by omega, by omega⟩⟩
  · have : m.upds (swap [(K, .map es)] [(K, .map es), (b, .map es)]) = upd m b (some (.map es)) := by
      funext id; simp only [swap, List.map_cons, List.map_nil, List.cons_append, List.nil_append, Mem.upds, List.foldl_cons, List.foldl_nil, upd]
      by_cases h1 : id = b
      · simp [h1]
      · by_cases h2 : id = K
        · subst h2; simp [h1, hm]
        · simp [h1, h2]
    rw [this]; exact hk

/-- The copy so far. -/
structure FK (a : Ab) (F : Nat) (W : Nat) (K K' : Nat → Nat) (wl : List (Str × Int)) (m0 : Mem) (b i : Nat) (W' : Nat) (m : Mem) : Prop where
  hF : b ≤ F
  hW : b ≤ W'
  hFW : F ≠ W'
  f : m F = some (gOf a K' W').box
  w : m W' = some (.map (wmap wl))
  old : ∀ id o, id < b → m0 id = some o → m id = some o
  nw : ∀ j, j < 4 → j < i → ∀ x, a.se j = some x → b ≤ K' j ∧ F ≠ K' j ∧ W' ≠ K' j ∧ m (K' j) = some (.map (kmap x.2))
  ne : ∀ j k, j < 4 → k < 4 → j < i → k < i → j ≠ k → a.se j ≠ none → a.se k ≠ none → K' j ≠ K' k
  rest : ∀ j, j < 4 → i ≤ j → K' j = K j
def JFk (a : Ab) (W : Nat) (K : Nat → Nat) (wl : List (Str × Int)) (m0 : Mem) (b i : Nat) (e : Env) (m : Mem) (nx : Nat) : Prop :=
  ∃ F K' W', e 3 = some (.ptr F 15 0 0) ∧ e 16 = some (iv i) ∧ b ≤ nx ∧ FK a F W K K' wl m0 b i W' m
def KF (a : Ab) (m0 : Mem) (b : Nat) (q : PV) (m1 : Mem) : Prop := ∃ F, q = .ptr F 15 0 0 ∧ MRz b a F m1 (b + 8) ∧ ∀ id o, m0 id = some o → m1 id = some o
theorem r1lt {b : Nat} {σ : Nat → Nat} (hσ : ∀ id, id < b → σ id = id) {p : PV} (h : lt1 b p = true) : ren1 σ p = p := by
  cases p <;> simp_all [ren1, lt1]
theorem rAlt {b : Nat} {σ : Nat → Nat} (hσ : ∀ id, id < b → σ id = id) {p : PV} (h : p.lt b = true) : renA σ p = p := by
  have key : ∀ cs : List PV, cs.all (lt1 b) = true → cs.map (ren1 σ) = cs := fun cs hc => by
    have : cs.map (ren1 σ) = cs.map id := List.map_congr_left fun c hc' => r1lt hσ (List.all_eq_true.1 hc c hc')
    simpa using this
  cases p
  case agg cs => simp only [renA]; rw [key cs h]
  case fn f cs => simp only [renA]; rw [key cs h]
  case tup cs => rfl
  all_goals first | rfl | (simp [PV.lt, lt1] at h; simp [renA, ren1, hσ _ h])
theorem oRlt {b : Nat} {σ : Nat → Nat} (hσ : ∀ id, id < b → σ id = id) {o : Obj} (h : o.lt b = true) : o.ren σ = o := by
  cases o with
  | box cs T =>
    simp only [Obj.ren]
    have : cs.map (renA σ) = cs.map id := List.map_congr_left fun c hc => rAlt hσ (List.all_eq_true.1 h c hc)
    rw [this]; simp
  | map es =>
    simp only [Obj.ren]
    have : es.map (fun e => (e.1, renA σ e.2)) = es.map id := List.map_congr_left fun c hc => by rw [rAlt hσ (List.all_eq_true.1 h c hc)]; rfl
    rw [this]; simp
  | iter mid n seen last =>
    cases mid with
    | none => rfl
    | some id => simp [Obj.lt] at h; simp [Obj.ren, hσ id h]
  | row => rfl
  | loop => rfl
theorem fork_end {a : Ab} {r : Rb} {F R b nx : Nat} {m0 m : Mem} {e : Env} (he : e 2 = some (.ptr F 15 0 0)) (h : MRz b a F m nx) (hr : RR r R m nx) (hold : ∀ id o, m0 id = some o → m id = some o) (hg : ∀ id o, m0 id = some o → id < b ∧ o.lt b = true ∧ o.lt (b + 8) = true ∧ o.fix b = true) : EndsK [.tmp 2] b (KF a m0 b) e m := by
  obtain ⟨σ, M', R', m1, h1, h2, h3, h4, h5, h6, h7, h8, h9, h10, h11, h12, h13, h14⟩ := man_out' h hr (Nat.le_refl b)
  obtain ⟨m2, hm2⟩ : ∃ m2 : Mem, m2 = fun id => if id < b then m0 id else m1 id := ⟨_, rfl⟩
  have em : ∀ id, id < b → m2 id = m0 id := fun id hid => by rw [hm2]; exact if_pos hid
  have en : ∀ id, b ≤ id → m2 id = m1 id := fun id hid => by rw [hm2]; exact if_neg (by omega)
  clear hm2
  refine ⟨.ptr M' 15 0 0, m2, ⟨M', rfl, h9.sub2 (fun id o hb _ ho => by rw [en id hb]; exact ho) (Nat.le_refl _), fun id o ho => by rw [em id (hg id o ho).1]; exact ho⟩, .ptr F 15 0 0, by simp [resF, resL, RX.ev, he, tup1], [], σ, .inl ⟨?_, ?_⟩, fun id o ho => ?_, fun i j o o' hi hj hij => ?_, h1⟩
  · simp [PV.ren, renA, ren1, h2]
  · simp [ltT, PV.lt, lt1, h4]
  · rw [frz_nil']
    by_cases hid : id < b
    · rw [em id hid] at ho
      obtain ⟨_, g1, g2, g3⟩ := hg id o ho
      exact ⟨by rw [h1 id hid, oRlt h1 g1]; exact hold id o ho, by omega, g2, g3⟩
    · rw [en id (by omega)] at ho
      exact h11 id o ho
  · by_cases hi' : i < b <;> by_cases hj' : j < b
    · rw [h1 i hi', h1 j hj'] at hij; exact hij
    · rw [en j (by omega)] at hj
      have := h14 j o' (by omega) hj
      rw [h1 i hi'] at hij; omega
    · rw [en i (by omega)] at hi
      have := h14 i o (by omega) hi
      rw [h1 j hj'] at hij; omega
    · rw [en i (by omega)] at hi
      rw [en j (by omega)] at hj
      exact h12 i j o o' hi hj hij

/-- All objects lie below the next number. -/
theorem VW.belowA {x : XCode} {Q : Post} {e : Env} {m : Mem} {nx : Nat} (h : (∀ id o, m id = some o → id < nx) → VW P x Q e m nx) : VW P x Q e m nx := by
  intro ro F c β ok a w hm hro hc hs hf hd
  refine h (fun id o ht => ?_) ro F c β ok a w hm hro hc hs hf hd
  obtain ⟨l, hl, _⟩ := hs.mem.objs id o ht
  rcases Nat.lt_or_ge id nx with h | h
  · exact h
  · rw [hf id h] at hl; cases hl

theorem w_tfork (hI : Clo P 39) (hB : Clo P 40) {a : Ab} {r : Rb} {M W R b : Nat} {K : Nat → Nat} {wl : List (Str × Int)} {m0 : Mem} (h : MRw a M W K wl m0 b) (hr : RR r R m0 b) (hg : ∀ id o, m0 id = some o → id < b ∧ o.lt b = true ∧ o.lt (b + 8) = true ∧ o.fix b = true) :
    VW P c20 (PRet (EndsK [.tmp 2] b (KF a m0 b))) (fun t => [PV.ptr M 15 0 0][t]?) m0 b := by
  unfold c20
  have hMb := h.hM
  have hWb := h.hW
  obtain ⟨n1, n2, n3, n4, n5⟩ := below_ne hMb
  obtain ⟨w1, w2, w3, w4, w5⟩ := below_ne h.hW
  have hm := h.m0
  have hw := h.m1
  have hgw : (gOf a K W).w = .map W := rfl
  have hnew : ∀ id, b ≤ id → m0 id = none := fun id hid => by
    cases ho : m0 id with
    | none => rfl
    | some o => have := (hg id o ho).1; omega
  repeat' (first
    | exact True.intro
    | refine VW.seq ?_
    | refine VW.block ?_
    | ((first | refine VW.skip ?_ | refine VW.exit ?_ | refine VW.reg ?_ | refine VW.regD ?_ | refine VW.ret ?_ | show goA _ _ _ _ _ _ _ _ _ _ | show goB _ _ _ _ _ _ _ _ _ | show goAD _ _ _ _ _ _ _ _ _ _ _ _ _ _ | show goBD _ _ _ _ _ _ _ _ _ _ _); refine sx ?_)
    | refine VW.condT cx ?_
    | refine VW.condF cx ?_
    | refine VW.cond ex ?_ ?_
    | refine imp_nt ?_
    | refine imp_nf ?_
    | refine imp_dt (fun _ => ?_)
    | refine imp_df (fun _ => ?_)
    | (refine fun (_ : _ = true) => ?_)
    | (refine fun (_ : _ = false) => ?_)
    | refine vg_t ?_ ?_
    | refine vg_f ?_ ?_)
  refine VC.clo hI (K := W) (es := wmap wl) (by omega) wmap_flat (cx) ?_
  refine sx ?_
  repeat' (first
    | exact True.intro
    | refine VW.seq ?_
    | refine VW.block ?_
    | ((first | refine VW.skip ?_ | refine VW.exit ?_ | refine VW.reg ?_ | refine VW.regD ?_ | refine VW.ret ?_ | show goA _ _ _ _ _ _ _ _ _ _ | show goB _ _ _ _ _ _ _ _ _ | show goAD _ _ _ _ _ _ _ _ _ _ _ _ _ _ | show goBD _ _ _ _ _ _ _ _ _ _ _); refine sx ?_)
    | refine VW.condT cx ?_
    | refine VW.condF cx ?_
    | refine VW.cond ex ?_ ?_
    | refine imp_nt ?_
    | refine imp_nf ?_
    | refine imp_dt (fun _ => ?_)
    | refine imp_df (fun _ => ?_)
    | (refine fun (_ : _ = true) => ?_)
    | (refine fun (_ : _ = false) => ?_)
    | refine vg_t ?_ ?_
    | refine vg_f ?_ ?_)
  refine VW.forN 4 (JFk a W K wl m0 b) 0 (by omega) ⟨b + 48, K, b + 96, cy, ey, by omega, ?_⟩ ?_
  · refine ⟨by omega, by omega, by omega, ex, cy, fun id o hid ho => ?_, fun j _ hj => absurd hj (by omega), fun j k _ _ hj => absurd hj (by omega), fun j _ _ => rfl⟩
    rw [upd_other _ _ (by omega), upd_other _ _ (by omega), upd_other _ _ (by omega), upd_other _ _ (by omega)]; exact ho
  clear hm hw hnew
  have u1 : IntKind.i64.wrap 1 = 1 := rfl
  have u2 : IntKind.i64.wrap 2 = 2 := rfl
  have u3 : IntKind.i64.wrap 3 = 3 := rfl
  have u4 : IntKind.i64.wrap 4 = 4 := rfl
  rintro i e m nx hi ⟨F, K', W', e3, e16, hbn, hF⟩
  obtain ⟨f1, f2, f3, f4, f5, f6, f7, f8, f9⟩ := hF
  refine VW.below f4 fun hlF => VW.below f5 fun hlW => VW.belowA fun ltk => ?_
  obtain ⟨F1, F2, F3, F4, F5⟩ := below_ne hlF
  obtain ⟨W1, W2, W3, W4, W5⟩ := below_ne hlW
  by_cases hi4 : i < 4
  · have hsp : i = 0 ∨ i = 1 ∨ i = 2 ∨ i = 3 := by omega
    have hKi := f9 i hi4 (Nat.le_refl i)
    cases ho : a.se i with
    | none =>
      have hk0 : ((gOf a K' W').get i).k = .nilm := by rw [gOf_get hi4, seF_none ho]
      have hnext : FK a F W K K' wl m0 b (i + 1) W' m := ⟨f1, f2, f3, f4, f5, f6, fun j hj hji x hx => by
          by_cases he : j = i
          · subst he; rw [ho] at hx; cases hx
          · exact f7 j hj (by omega) x hx, fun j k hj hk hji hki hjk h1 h2 => by
          by_cases hej : j = i
          · subst hej; exact absurd ho h1
          · by_cases hek : k = i
            · subst hek; exact absurd ho h2
            · exact f8 j k hj hk (by omega) (by omega) hjk h1 h2, fun j hj hij => f9 j hj (by omega)⟩
      have hn2 : FK a F W K K' wl m0 b (i + 1) W' (upd m F (some (gOf a K' W').box)) := by rw [upd_id' f4]; exact hnext
      clear hnext f6 f7 f8 f9 hKi hi hi4
      rcases hsp with rfl | rfl | rfl | rfl
      all_goals
        simp only [Mg.get] at hk0
        simp only [Mg.box, hk0] at hn2
        repeat' (first
    | exact True.intro
    | refine VW.seq ?_
    | refine VW.block ?_
    | ((first | refine VW.skip ?_ | refine VW.exit ?_ | refine VW.reg ?_ | refine VW.regD ?_ | refine VW.ret ?_ | show goA _ _ _ _ _ _ _ _ _ _ | show goB _ _ _ _ _ _ _ _ _ | show goAD _ _ _ _ _ _ _ _ _ _ _ _ _ _ | show goBD _ _ _ _ _ _ _ _ _ _ _); refine sx ?_)
    | refine VW.condT cx ?_
    | refine VW.condF cx ?_
    | refine VW.cond ex ?_ ?_
    | refine imp_nt ?_
    | refine imp_nf ?_
    | refine imp_dt (fun _ => ?_)
    | refine imp_df (fun _ => ?_)
    | (refine fun (_ : _ = true) => ?_)
    | (refine fun (_ : _ = false) => ?_)
    | refine vg_t ?_ ?_
    | refine vg_f ?_ ?_)
        refine VC.pure [.nilm] _ ⟨.inl ⟨rfl, rfl⟩, trivial⟩ (hB.nil _) ?_
        refine sx ?_
        repeat' (first
    | exact True.intro
    | refine VW.seq ?_
    | refine VW.block ?_
    | ((first | refine VW.skip ?_ | refine VW.exit ?_ | refine VW.reg ?_ | refine VW.regD ?_ | refine VW.ret ?_ | show goA _ _ _ _ _ _ _ _ _ _ | show goB _ _ _ _ _ _ _ _ _ | show goAD _ _ _ _ _ _ _ _ _ _ _ _ _ _ | show goBD _ _ _ _ _ _ _ _ _ _ _); refine sx ?_)
    | refine VW.condT cx ?_
    | refine VW.condF cx ?_
    | refine VW.cond ex ?_ ?_
    | refine imp_nt ?_
    | refine imp_nf ?_
    | refine imp_dt (fun _ => ?_)
    | refine imp_df (fun _ => ?_)
    | (refine fun (_ : _ = true) => ?_)
    | (refine fun (_ : _ = false) => ?_)
    | refine vg_t ?_ ?_
    | refine vg_f ?_ ?_)
        exact ⟨F, K', W', cx, cx, by omega, hn2⟩
    | some x =>
      have hk0 : ((gOf a K' W').get i).k = .map (K i) := by rw [gOf_get hi4, seF_some ho, hKi]
      obtain ⟨g1, g2, g3, g4⟩ := h.k i hi4 x ho
      have hmk := f6 _ _ g1 g4
      have hnK : F ≠ K i := by omega
      have hnW : W' ≠ K i := by omega
      have hn2 : ∀ B, nx ≤ B → FK a F W K (fun j => if j = i then B else K' j) wl m0 b (i + 1) W' (upd (upd m B (some (.map (kmap x.2)))) F (some ((gOf a K' W').put i ⟨((gOf a K' W').get i).o, ((gOf a K' W').get i).s, .map B⟩).box)) := fun B hB' => by
        have hput := gOf_put (a := a) (a' := a) (K := K') (K' := fun j => if j = i then B else K' j) (W := W') (x := ⟨((gOf a K' W').get i).o, ((gOf a K' W').get i).s, .map B⟩) hi4 (by rw [gOf_get hi4, seF_some ho, seF_some ho]; simp) (fun j hj => by simp [seF, hj])
        replace hput : (gOf a K' W').put i ⟨((gOf a K' W').get i).o, ((gOf a K' W').get i).s, .map B⟩ = gOf a (fun j => if j = i then B else K' j) W' := hput
        rw [hput]
        refine ⟨f1, f2, f3, upd_same _ _ _, by rw [upd_other _ _ (Ne.symm f3), upd_other _ _ (by omega)]; exact f5, fun id o hid hio => by rw [upd_other _ _ (by omega), upd_other _ _ (by omega)]; exact f6 id o hid hio, fun j hj hji y hy => ?_, fun j k hj hk hji hki hjk h1 h2 => ?_, fun j hj hij => ?_⟩
        · by_cases he : j = i
          · subst he
            rw [ho] at hy; injection hy with hy; subst hy
            simp only [if_true]
            exact ⟨by omega, by omega, by omega, by rw [upd_other _ _ (by omega), upd_same]⟩
          · simp only [he, if_false]
            obtain ⟨p1, p2, p3, p4⟩ := f7 j hj (by omega) y hy
            have hlt : K' j ≠ B := by
              rintro rfl
              have := ltk _ _ p4
              omega
            exact ⟨p1, p2, p3, by rw [upd_other _ _ (Ne.symm p2), upd_other _ _ hlt]; exact p4⟩
        · have nb : ∀ q, q < 4 → q < i → a.se q ≠ none → K' q ≠ B := fun q hq hqi hqn => by
            obtain ⟨y, hy⟩ := Option.ne_none_iff_exists'.1 hqn
            rintro rfl
            have := ltk _ _ (f7 q hq hqi y hy).2.2.2
            omega
          by_cases hej : j = i
          · have hek : k ≠ i := by omega
            simp only [hej, hek, if_true, if_false]
            exact (nb k hk (by omega) h2).symm
          · by_cases hek : k = i
            · simp only [hej, hek, if_true, if_false]
              exact nb j hj (by omega) h1
            · simp only [hej, hek, if_false]
              exact f8 j k hj hk (by omega) (by omega) hjk h1 h2
        · have he : j ≠ i := by omega
          simp only [he, if_false]
          exact f9 j hj (by omega)
      clear f6 f7 f8 f9 hKi hi hi4 g2 g3 g4
      have hKn : K i < nx := by omega
      obtain ⟨q1, q2, q3, q4, q5⟩ := below_ne hKn
      rcases hsp with rfl | rfl | rfl | rfl
      all_goals
        simp only [Mg.get] at hk0
        simp only [Mg.put, Mg.get, Mg.box] at hn2
        repeat' (first
    | exact True.intro
    | refine VW.seq ?_
    | refine VW.block ?_
    | ((first | refine VW.skip ?_ | refine VW.exit ?_ | refine VW.reg ?_ | refine VW.regD ?_ | refine VW.ret ?_ | show goA _ _ _ _ _ _ _ _ _ _ | show goB _ _ _ _ _ _ _ _ _ | show goAD _ _ _ _ _ _ _ _ _ _ _ _ _ _ | show goBD _ _ _ _ _ _ _ _ _ _ _); refine sx ?_)
    | refine VW.condT cx ?_
    | refine VW.condF cx ?_
    | refine VW.cond ex ?_ ?_
    | refine imp_nt ?_
    | refine imp_nf ?_
    | refine imp_dt (fun _ => ?_)
    | refine imp_df (fun _ => ?_)
    | (refine fun (_ : _ = true) => ?_)
    | (refine fun (_ : _ = false) => ?_)
    | refine vg_t ?_ ?_
    | refine vg_f ?_ ?_)
        refine VC.clo hB (es := kmap x.2) (by omega) kmap_flat cx ?_
        refine sx ?_
        repeat' (first
    | exact True.intro
    | refine VW.seq ?_
    | refine VW.block ?_
    | ((first | refine VW.skip ?_ | refine VW.exit ?_ | refine VW.reg ?_ | refine VW.regD ?_ | refine VW.ret ?_ | show goA _ _ _ _ _ _ _ _ _ _ | show goB _ _ _ _ _ _ _ _ _ | show goAD _ _ _ _ _ _ _ _ _ _ _ _ _ _ | show goBD _ _ _ _ _ _ _ _ _ _ _); refine sx ?_)
    | refine VW.condT cx ?_
    | refine VW.condF cx ?_
    | refine VW.cond ex ?_ ?_
    | refine imp_nt ?_
    | refine imp_nf ?_
    | refine imp_dt (fun _ => ?_)
    | refine imp_df (fun _ => ?_)
    | (refine fun (_ : _ = true) => ?_)
    | (refine fun (_ : _ = false) => ?_)
    | refine vg_t ?_ ?_
    | refine vg_f ?_ ?_)
        exact ⟨F, _, W', cx, cx, by omega, hn2 _ (by omega)⟩
  · obtain rfl : i = 4 := by omega
    replace e16 : e 16 = some (iv 4) := e16
    have hfin : ∀ e', e' 2 = some (.ptr F 15 0 0) → EndsK [.tmp 2] b (KF a m0 b) e' m := fun e' he => by
      obtain ⟨g, hRb, hmR, hG⟩ := hr
      refine fork_end (nx := nx) he ⟨W', K', wl, ⟨hlF, hlW, f3, f4, f5, h.mw, fun j hj x hx => ?_, fun j k hj hk hjk h1 h2 => f8 j k hj hk hj hk hjk h1 h2⟩, f1, f2, fun j hj hn => ?_⟩ (r := r) (R := R) ⟨g, by omega, f6 _ _ hRb hmR, hG⟩ (fun id o ho => f6 id o (hg id o ho).1 ho) hg
      · obtain ⟨p1, p2, p3, p4⟩ := f7 j hj hj x hx
        exact ⟨ltk _ _ p4, p2, p3, p4⟩
      · obtain ⟨x, hx⟩ := Option.ne_none_iff_exists'.1 hn
        exact (f7 j hj hj x hx).1
    clear f6 f7 f8 f9 f4 f5
    repeat' (first
    | exact True.intro
    | refine VW.seq ?_
    | refine VW.block ?_
    | ((first | refine VW.skip ?_ | refine VW.exit ?_ | refine VW.reg ?_ | refine VW.regD ?_ | refine VW.ret ?_ | show goA _ _ _ _ _ _ _ _ _ _ | show goB _ _ _ _ _ _ _ _ _ | show goAD _ _ _ _ _ _ _ _ _ _ _ _ _ _ | show goBD _ _ _ _ _ _ _ _ _ _ _); refine sx ?_)
    | refine VW.condT cx ?_
    | refine VW.condF cx ?_
    | refine VW.cond ex ?_ ?_
    | refine imp_nt ?_
    | refine imp_nf ?_
    | refine imp_dt (fun _ => ?_)
    | refine imp_df (fun _ => ?_)
    | (refine fun (_ : _ = true) => ?_)
    | (refine fun (_ : _ = false) => ?_)
    | refine vg_t ?_ ?_
    | refine vg_f ?_ ?_)
    all_goals exact hfin _ cx
end
end Go.Vx
