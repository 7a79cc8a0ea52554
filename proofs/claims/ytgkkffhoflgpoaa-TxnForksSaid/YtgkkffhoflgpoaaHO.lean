/- The reference's Fork. -/
import Derived.Test.YtgkkffhoflgpoaaHN
set_option linter.unusedSimpArgs false
set_option linter.unusedVariables false
set_option maxRecDepth 4000
set_option maxHeartbeats 2000000
namespace Go.Vx
open Go Go.Proofs

/-- What is known of the objects, as soon as a row in a box's cell is a value. -/
def Pend (F : Nat) (Pm : Mem → Prop) (m : Mem) : Prop := Pm m ∨ ∃ cs T j D k xs T', m F = some (.box cs T) ∧ cs[j]? = some (.osl D xs.length) ∧ m D = some (.row k xs T' false) ∧ Pm (upd (frz m [D]) F (some (.box (cs.set j (.sl xs)) T)))
theorem Pend.go {F : Nat} {Pm : Mem → Prop} {m : Mem} {P : Program} {x : XCode} {Q : Post} {e : Env} {nx : Nat} (h : Pend F Pm m) (hk : ∀ m', Pm m' → VW P x Q e m' nx) : VW P x Q e m nx := by
  rcases h with h | ⟨cs, T, j, D, k, xs, T', h1, h2, h3, h4⟩
  · exact hk m h
  · have hf : frz m [D] D = some (.row k xs T' true) := by simp [frz, h3, Obj.freeze]
    have hF : frz m [D] F = some (.box cs T) := by
      simp only [frz, h1]
      split
      · rfl
      · rfl
    refine VW.freeze [D] (VW.cells hF (by simp) (fun i c c' hc hc' => ?_) (hk _ h4))
    by_cases hij : j = i
    · subst hij
      have hl := (List.getElem?_eq_some_iff.1 h2).1
      rw [List.getElem?_set_self hl] at hc'
      injection hc' with hc'
      rw [h2] at hc; injection hc with hc
      right
      rw [← hc, ← hc']
      simp [pur, hf]
    · left
      rw [List.getElem?_set_ne hij] at hc'
      rw [hc] at hc'; injection hc' with hc'; exact hc'.symm

def cpC : PV → PV
  | .sl xs => .sl xs
  | _ => .sl []
def cpS (s : Se) : Se := ⟨s.o, s.s, cpC s.k⟩
def gcp (g : Mg) (i : Nat) : Mg := ⟨g.c, g.h, if 0 < i then cpS g.a0 else g.a0, if 1 < i then cpS g.a1 else g.a1, if 2 < i then cpS g.a2 else g.a2, if 3 < i then cpS g.a3 else g.a3, g.w⟩
def gfk (g : Mg) : Mg := ⟨g.c, g.h, cpS g.a0, cpS g.a1, cpS g.a2, cpS g.a3, cpC g.w⟩
theorem cpC_slP {p : PV} {xs : List (List PV)} (h : slP p xs) : cpC p = .sl xs := by
  rcases h with ⟨rfl, rfl⟩ | rfl <;> rfl
theorem RS.cp {x : Option (Int × List Str)} {s : Se} (h : RS x s) : RS x (cpS s) := by
  cases x with
  | none => exact ⟨h.1, by show slP (cpC s.k) _; rw [cpC_slP h.2]; exact .inr rfl⟩
  | some y => exact ⟨h.1, h.2.1, by show slP (cpC s.k) _; rw [cpC_slP h.2.2]; exact .inr rfl⟩
theorem RG.fk {r : Rb} {g : Mg} (h : RG r g) : RG r (gfk g) := by
  refine ⟨h.c, h.h, fun i hi => ?_, by show slP (cpC g.w) _; rw [cpC_slP h.d]; exact .inr rfl⟩
  have : i = 0 ∨ i = 1 ∨ i = 2 ∨ i = 3 := by omega
  rcases this with rfl | rfl | rfl | rfl <;> exact (h.s _ (by omega)).cp
theorem RG.keys {r : Rb} {g : Mg} (h : RG r g) (hf : Few r) {i : Nat} (hi : i < 4) : ∃ ks : List Str, slP (g.get i).k (strs ks) ∧ ks.length < 1000 := by
  have hs := h.s i hi
  cases ho : r.se i with
  | none => rw [ho] at hs; exact ⟨[], hs.2, by simp⟩
  | some y => rw [ho] at hs; exact ⟨y.2, hs.2.2, hf.1 i y ho⟩

section
variable {P : Program}
def Pk (R F : Nat) (g gi : Mg) (m : Mem) : Prop := m R = some g.rbox ∧ m F = some gi.rbox
def JFr (R : Nat) (g : Mg) (b i : Nat) (e : Env) (m : Mem) (nx : Nat) : Prop := ∃ F, e 0 = some (.ptr R 15 0 0) ∧ e 3 = some (.ptr F 15 0 0) ∧ e 4 = some (iv i) ∧ b ≤ nx ∧ b ≤ F ∧ F < nx ∧ Pend F (Pk R F g (gcp g i)) m
theorem w_rfork {r : Rb} {R b : Nat} (hRb : R < b) {g : Mg} (hG : RG r g) (hf : Few r) (m : Mem) (hm : m R = some g.rbox) :
    VW P c21 (PRet (Ends [.tmp 2] b (.ptr b 15 0 0) (ofL [(R, g.rbox), (b, (gfk g).rbox)]))) (fun t => [PV.ptr R 15 0 0][t]?) m b := by
  unfold c21
  obtain ⟨n1, n2, n3, n4, n5⟩ := below_ne hRb
  repeat' (first
    | exact True.intro
    | refine VW.seq ?_
    | refine VW.block ?_
    | ((first | refine VW.skip ?_ | refine VW.exit ?_ | refine VW.reg ?_ | refine VW.regD ?_ | refine VW.ret ?_ | show goA _ _ _ _ _ _ _ _ _ _ | show goB _ _ _ _ _ _ _ _ _ | show goAD _ _ _ _ _ _ _ _ _ _ _ _ _ _ | show goBD _ _ _ _ _ _ _ _ _ _ _); refine sx ?_)
    | refine VW.condT cx ?_
    | refine VW.condF cx ?_
    | refine VW.cond ex ?_ ?_
    | refine imp_nt ?_
    | refine imp_nf ?_
    | refine imp_dt (fun _ => ?_)
    | refine imp_df (fun _ => ?_)
    | (refine fun (_ : _ = true) => ?_)
    | (refine fun (_ : _ = false) => ?_)
    | refine vg_t ?_ ?_
    | refine vg_f ?_ ?_)
  refine VW.forN 4 (JFr R g b) 0 (by omega) ⟨b + 48, cx, cx, ex, by omega, by omega, by omega, .inl ⟨cx, ex⟩⟩ ?_
  clear hm m
  rintro i e m nx hi ⟨F, e0, e3, e4, hbn, hbF, hFn, hP⟩
  refine hP.go fun m hPk => ?_
  obtain ⟨hm, hF⟩ := hPk
  obtain ⟨F1, F2, F3, F4, F5⟩ := below_ne hFn
  obtain ⟨R1, R2, R3, R4, R5⟩ := below_ne (Nat.lt_of_lt_of_le hRb hbn)
  have hRF : (R = F) = False := by simp; omega
  have hFR : (F = R) = False := by simp; omega
  have u1 : IntKind.i64.wrap 1 = 1 := rfl
  have u2 : IntKind.i64.wrap 2 = 2 := rfl
  have u3 : IntKind.i64.wrap 3 = 3 := rfl
  have u4 : IntKind.i64.wrap 4 = 4 := rfl
  by_cases hi4 : i < 4
  · have hsp : i = 0 ∨ i = 1 ∨ i = 2 ∨ i = 3 := by omega
    obtain ⟨ks, hks, hkl⟩ := hG.keys hf hi4
    have hlen := strs_len' (l := ks)
    have hall : allLen 1 (strs ks) := strs_one
    have b1 : ks.length * 16 ≤ 140737488355328 := by omega
    have hcp := cpC_slP hks
    clear hP hi4 hi
    rcases hsp with rfl | rfl | rfl | rfl
    · simp only [Mg.get] at hks hcp
      rcases hks with ⟨hks, h0⟩ | hks
      · rw [h0] at hcp
        have hks' : (gcp g 0).a0.k = .nsl := hks
        have hend : (gcp g (0 + 1)).rbox = .box ([iv (gcp g 0).c, iv (gcp g 0).h, .bool (gcp g 0).a0.o, iv (gcp g 0).a0.s, (gcp g 0).a0.k, .bool (gcp g 0).a1.o, iv (gcp g 0).a1.s, (gcp g 0).a1.k, .bool (gcp g 0).a2.o, iv (gcp g 0).a2.s, (gcp g 0).a2.k, .bool (gcp g 0).a3.o, iv (gcp g 0).a3.s, (gcp g 0).a3.k, (gcp g 0).w].set (2 + 2) (.sl [])) 74 := by rw [← hcp]; rfl
        clear h0 hcp hall b1 hlen
        repeat' (first
    | exact True.intro
    | refine VW.seq ?_
    | refine VW.block ?_
    | ((first | refine VW.skip ?_ | refine VW.exit ?_ | refine VW.reg ?_ | refine VW.regD ?_ | refine VW.ret ?_ | show goA _ _ _ _ _ _ _ _ _ _ | show goB _ _ _ _ _ _ _ _ _ | show goAD _ _ _ _ _ _ _ _ _ _ _ _ _ _ | show goBD _ _ _ _ _ _ _ _ _ _ _); refine sx ?_)
    | refine VW.condT cx ?_
    | refine VW.condF cx ?_
    | refine VW.cond ex ?_ ?_
    | refine imp_nt ?_
    | refine imp_nf ?_
    | refine imp_dt (fun _ => ?_)
    | refine imp_df (fun _ => ?_)
    | (refine fun (_ : _ = true) => ?_)
    | (refine fun (_ : _ = false) => ?_)
    | refine vg_t ?_ ?_
    | refine vg_f ?_ ?_)
        refine ⟨F, cx, cx, cx, by omega, hbF, by omega, .inr ⟨_, _, 2 + 2, nx + 88, 1, [], 9, upd_same _ _ _, rfl, cx, ?_, by rw [upd_same, hend]; rfl⟩⟩
        rw [upd_other _ _ (by omega)]
        simp only [frz]
        rw [if_neg (by simp; omega)]
        exact cx
      · have hks' : (gcp g 0).a0.k = .sl (strs ks) := hks
        have hend : (gcp g (0 + 1)).rbox = .box ([iv (gcp g 0).c, iv (gcp g 0).h, .bool (gcp g 0).a0.o, iv (gcp g 0).a0.s, (gcp g 0).a0.k, .bool (gcp g 0).a1.o, iv (gcp g 0).a1.s, (gcp g 0).a1.k, .bool (gcp g 0).a2.o, iv (gcp g 0).a2.s, (gcp g 0).a2.k, .bool (gcp g 0).a3.o, iv (gcp g 0).a3.s, (gcp g 0).a3.k, (gcp g 0).w].set (2 + 2) (.sl (strs ks))) 74 := by rw [← hcp]; rfl
        clear hcp
        repeat' (first
    | exact True.intro
    | refine VW.seq ?_
    | refine VW.block ?_
    | ((first | refine VW.skip ?_ | refine VW.exit ?_ | refine VW.reg ?_ | refine VW.regD ?_ | refine VW.ret ?_ | show goA _ _ _ _ _ _ _ _ _ _ | show goB _ _ _ _ _ _ _ _ _ | show goAD _ _ _ _ _ _ _ _ _ _ _ _ _ _ | show goBD _ _ _ _ _ _ _ _ _ _ _); refine sx ?_)
    | refine VW.condT cx ?_
    | refine VW.condF cx ?_
    | refine VW.cond ex ?_ ?_
    | refine imp_nt ?_
    | refine imp_nf ?_
    | refine imp_dt (fun _ => ?_)
    | refine imp_df (fun _ => ?_)
    | (refine fun (_ : _ = true) => ?_)
    | (refine fun (_ : _ = false) => ?_)
    | refine vg_t ?_ ?_
    | refine vg_f ?_ ?_)
        refine ⟨F, cx, cx, cx, by omega, hbF, by omega, .inr ⟨_, _, 2 + 2, nx + 88, 1, strs ks, 9, upd_same _ _ _, by simp [hlen], cx, ?_, by rw [upd_same, hend]; rfl⟩⟩
        rw [upd_other _ _ (by omega)]
        simp only [frz]
        rw [if_neg (by simp; omega)]
        exact cx
    · simp only [Mg.get] at hks hcp
      rcases hks with ⟨hks, h0⟩ | hks
      · rw [h0] at hcp
        have hks' : (gcp g 1).a1.k = .nsl := hks
        have hend : (gcp g (1 + 1)).rbox = .box ([iv (gcp g 1).c, iv (gcp g 1).h, .bool (gcp g 1).a0.o, iv (gcp g 1).a0.s, (gcp g 1).a0.k, .bool (gcp g 1).a1.o, iv (gcp g 1).a1.s, (gcp g 1).a1.k, .bool (gcp g 1).a2.o, iv (gcp g 1).a2.s, (gcp g 1).a2.k, .bool (gcp g 1).a3.o, iv (gcp g 1).a3.s, (gcp g 1).a3.k, (gcp g 1).w].set (5 + 2) (.sl [])) 74 := by rw [← hcp]; rfl
        clear h0 hcp hall b1 hlen
        repeat' (first
    | exact True.intro
    | refine VW.seq ?_
    | refine VW.block ?_
    | ((first | refine VW.skip ?_ | refine VW.exit ?_ | refine VW.reg ?_ | refine VW.regD ?_ | refine VW.ret ?_ | show goA _ _ _ _ _ _ _ _ _ _ | show goB _ _ _ _ _ _ _ _ _ | show goAD _ _ _ _ _ _ _ _ _ _ _ _ _ _ | show goBD _ _ _ _ _ _ _ _ _ _ _); refine sx ?_)
    | refine VW.condT cx ?_
    | refine VW.condF cx ?_
    | refine VW.cond ex ?_ ?_
    | refine imp_nt ?_
    | refine imp_nf ?_
    | refine imp_dt (fun _ => ?_)
    | refine imp_df (fun _ => ?_)
    | (refine fun (_ : _ = true) => ?_)
    | (refine fun (_ : _ = false) => ?_)
    | refine vg_t ?_ ?_
    | refine vg_f ?_ ?_)
        refine ⟨F, cx, cx, cx, by omega, hbF, by omega, .inr ⟨_, _, 5 + 2, nx + 88, 1, [], 9, upd_same _ _ _, rfl, cx, ?_, by rw [upd_same, hend]; rfl⟩⟩
        rw [upd_other _ _ (by omega)]
        simp only [frz]
        rw [if_neg (by simp; omega)]
        exact cx
      · have hks' : (gcp g 1).a1.k = .sl (strs ks) := hks
        have hend : (gcp g (1 + 1)).rbox = .box ([iv (gcp g 1).c, iv (gcp g 1).h, .bool (gcp g 1).a0.o, iv (gcp g 1).a0.s, (gcp g 1).a0.k, .bool (gcp g 1).a1.o, iv (gcp g 1).a1.s, (gcp g 1).a1.k, .bool (gcp g 1).a2.o, iv (gcp g 1).a2.s, (gcp g 1).a2.k, .bool (gcp g 1).a3.o, iv (gcp g 1).a3.s, (gcp g 1).a3.k, (gcp g 1).w].set (5 + 2) (.sl (strs ks))) 74 := by rw [← hcp]; rfl
        clear hcp
        repeat' (first
    | exact True.intro
    | refine VW.seq ?_
    | refine VW.block ?_
    | ((first | refine VW.skip ?_ | refine VW.exit ?_ | refine VW.reg ?_ | refine VW.regD ?_ | refine VW.ret ?_ | show goA _ _ _ _ _ _ _ _ _ _ | show goB _ _ _ _ _ _ _ _ _ | show goAD _ _ _ _ _ _ _ _ _ _ _ _ _ _ | show goBD _ _ _ _ _ _ _ _ _ _ _); refine sx ?_)
    | refine VW.condT cx ?_
    | refine VW.condF cx ?_
    | refine VW.cond ex ?_ ?_
    | refine imp_nt ?_
    | refine imp_nf ?_
    | refine imp_dt (fun _ => ?_)
    | refine imp_df (fun _ => ?_)
    | (refine fun (_ : _ = true) => ?_)
    | (refine fun (_ : _ = false) => ?_)
    | refine vg_t ?_ ?_
    | refine vg_f ?_ ?_)
        refine ⟨F, cx, cx, cx, by omega, hbF, by omega, .inr ⟨_, _, 5 + 2, nx + 88, 1, strs ks, 9, upd_same _ _ _, by simp [hlen], cx, ?_, by rw [upd_same, hend]; rfl⟩⟩
        rw [upd_other _ _ (by omega)]
        simp only [frz]
        rw [if_neg (by simp; omega)]
        exact cx
    · simp only [Mg.get] at hks hcp
      rcases hks with ⟨hks, h0⟩ | hks
      · rw [h0] at hcp
        have hks' : (gcp g 2).a2.k = .nsl := hks
        have hend : (gcp g (2 + 1)).rbox = .box ([iv (gcp g 2).c, iv (gcp g 2).h, .bool (gcp g 2).a0.o, iv (gcp g 2).a0.s, (gcp g 2).a0.k, .bool (gcp g 2).a1.o, iv (gcp g 2).a1.s, (gcp g 2).a1.k, .bool (gcp g 2).a2.o, iv (gcp g 2).a2.s, (gcp g 2).a2.k, .bool (gcp g 2).a3.o, iv (gcp g 2).a3.s, (gcp g 2).a3.k, (gcp g 2).w].set (8 + 2) (.sl [])) 74 := by rw [← hcp]; rfl
        clear h0 hcp hall b1 hlen
        repeat' (first
    | exact True.intro
    | refine VW.seq ?_
    | refine VW.block ?_
    | ((first | refine VW.skip ?_ | refine VW.exit ?_ | refine VW.reg ?_ | refine VW.regD ?_ | refine VW.ret ?_ | show goA _ _ _ _ _ _ _ _ _ _ | show goB _ _ _ _ _ _ _ _ _ | show goAD _ _ _ _ _ _ _ _ _ _ _ _ _ _ | show goBD _ _ _ _ _ _ _ _ _ _ _); refine sx ?_)
    | refine VW.condT cx ?_
    | refine VW.condF cx ?_
    | refine VW.cond ex ?_ ?_
    | refine imp_nt ?_
    | refine imp_nf ?_
    | refine imp_dt (fun _ => ?_)
    | refine imp_df (fun _ => ?_)
    | (refine fun (_ : _ = true) => ?_)
    | (refine fun (_ : _ = false) => ?_)
    | refine vg_t ?_ ?_
    | refine vg_f ?_ ?_)
        refine ⟨F, cx, cx, cx, by omega, hbF, by omega, .inr ⟨_, _, 8 + 2, nx + 88, 1, [], 9, upd_same _ _ _, rfl, cx, ?_, by rw [upd_same, hend]; rfl⟩⟩
        rw [upd_other _ _ (by omega)]
        simp only [frz]
        rw [if_neg (by simp; omega)]
        exact cx
      · have hks' : (gcp g 2).a2.k = .sl (strs ks) := hks
        have hend : (gcp g (2 + 1)).rbox = .box ([iv (gcp g 2).c, iv (gcp g 2).h, .bool (gcp g 2).a0.o, iv (gcp g 2).a0.s, (gcp g 2).a0.k, .bool (gcp g 2).a1.o, iv (gcp g 2).a1.s, (gcp g 2).a1.k, .bool (gcp g 2).a2.o, iv (gcp g 2).a2.s, (gcp g 2).a2.k, .bool (gcp g 2).a3.o, iv (gcp g 2).a3.s, (gcp g 2).a3.k, (gcp g 2).w].set (8 + 2) (.sl (strs ks))) 74 := by rw [← hcp]; rfl
        clear hcp
        repeat' (first
    | exact True.intro
    | refine VW.seq ?_
    | refine VW.block ?_
    | ((first | refine VW.skip ?_ | refine VW.exit ?_ | refine VW.reg ?_ | refine VW.regD ?_ | refine VW.ret ?_ | show goA _ _ _ _ _ _ _ _ _ _ | show goB _ _ _ _ _ _ _ _ _ | show goAD _ _ _ _ _ _ _ _ _ _ _ _ _ _ | show goBD _ _ _ _ _ _ _ _ _ _ _); refine sx ?_)
    | refine VW.condT cx ?_
    | refine VW.condF cx ?_
    | refine VW.cond ex ?_ ?_
    | refine imp_nt ?_
    | refine imp_nf ?_
    | refine imp_dt (fun _ => ?_)
    | refine imp_df (fun _ => ?_)
    | (refine fun (_ : _ = true) => ?_)
    | (refine fun (_ : _ = false) => ?_)
    | refine vg_t ?_ ?_
    | refine vg_f ?_ ?_)
        refine ⟨F, cx, cx, cx, by omega, hbF, by omega, .inr ⟨_, _, 8 + 2, nx + 88, 1, strs ks, 9, upd_same _ _ _, by simp [hlen], cx, ?_, by rw [upd_same, hend]; rfl⟩⟩
        rw [upd_other _ _ (by omega)]
        simp only [frz]
        rw [if_neg (by simp; omega)]
        exact cx
    · simp only [Mg.get] at hks hcp
      rcases hks with ⟨hks, h0⟩ | hks
      · rw [h0] at hcp
        have hks' : (gcp g 3).a3.k = .nsl := hks
        have hend : (gcp g (3 + 1)).rbox = .box ([iv (gcp g 3).c, iv (gcp g 3).h, .bool (gcp g 3).a0.o, iv (gcp g 3).a0.s, (gcp g 3).a0.k, .bool (gcp g 3).a1.o, iv (gcp g 3).a1.s, (gcp g 3).a1.k, .bool (gcp g 3).a2.o, iv (gcp g 3).a2.s, (gcp g 3).a2.k, .bool (gcp g 3).a3.o, iv (gcp g 3).a3.s, (gcp g 3).a3.k, (gcp g 3).w].set (11 + 2) (.sl [])) 74 := by rw [← hcp]; rfl
        clear h0 hcp hall b1 hlen
        repeat' (first
    | exact True.intro
    | refine VW.seq ?_
    | refine VW.block ?_
    | ((first | refine VW.skip ?_ | refine VW.exit ?_ | refine VW.reg ?_ | refine VW.regD ?_ | refine VW.ret ?_ | show goA _ _ _ _ _ _ _ _ _ _ | show goB _ _ _ _ _ _ _ _ _ | show goAD _ _ _ _ _ _ _ _ _ _ _ _ _ _ | show goBD _ _ _ _ _ _ _ _ _ _ _); refine sx ?_)
    | refine VW.condT cx ?_
    | refine VW.condF cx ?_
    | refine VW.cond ex ?_ ?_
    | refine imp_nt ?_
    | refine imp_nf ?_
    | refine imp_dt (fun _ => ?_)
    | refine imp_df (fun _ => ?_)
    | (refine fun (_ : _ = true) => ?_)
    | (refine fun (_ : _ = false) => ?_)
    | refine vg_t ?_ ?_
    | refine vg_f ?_ ?_)
        refine ⟨F, cx, cx, cx, by omega, hbF, by omega, .inr ⟨_, _, 11 + 2, nx + 88, 1, [], 9, upd_same _ _ _, rfl, cx, ?_, by rw [upd_same, hend]; rfl⟩⟩
        rw [upd_other _ _ (by omega)]
        simp only [frz]
        rw [if_neg (by simp; omega)]
        exact cx
      · have hks' : (gcp g 3).a3.k = .sl (strs ks) := hks
        have hend : (gcp g (3 + 1)).rbox = .box ([iv (gcp g 3).c, iv (gcp g 3).h, .bool (gcp g 3).a0.o, iv (gcp g 3).a0.s, (gcp g 3).a0.k, .bool (gcp g 3).a1.o, iv (gcp g 3).a1.s, (gcp g 3).a1.k, .bool (gcp g 3).a2.o, iv (gcp g 3).a2.s, (gcp g 3).a2.k, .bool (gcp g 3).a3.o, iv (gcp g 3).a3.s, (gcp g 3).a3.k, (gcp g 3).w].set (11 + 2) (.sl (strs ks))) 74 := by rw [← hcp]; rfl
        clear hcp
        repeat' (first
    | exact True.intro
    | refine VW.seq ?_
    | refine VW.block ?_
    | ((first | refine VW.skip ?_ | refine VW.exit ?_ | refine VW.reg ?_ | refine VW.regD ?_ | refine VW.ret ?_ | show goA _ _ _ _ _ _ _ _ _ _ | show goB _ _ _ _ _ _ _ _ _ | show goAD _ _ _ _ _ _ _ _ _ _ _ _ _ _ | show goBD _ _ _ _ _ _ _ _ _ _ _); refine sx ?_)
    | refine VW.condT cx ?_
    | refine VW.condF cx ?_
    | refine VW.cond ex ?_ ?_
    | refine imp_nt ?_
    | refine imp_nf ?_
    | refine imp_dt (fun _ => ?_)
    | refine imp_df (fun _ => ?_)
    | (refine fun (_ : _ = true) => ?_)
    | (refine fun (_ : _ = false) => ?_)
    | refine vg_t ?_ ?_
    | refine vg_f ?_ ?_)
        refine ⟨F, cx, cx, cx, by omega, hbF, by omega, .inr ⟨_, _, 11 + 2, nx + 88, 1, strs ks, 9, upd_same _ _ _, by simp [hlen], cx, ?_, by rw [upd_same, hend]; rfl⟩⟩
        rw [upd_other _ _ (by omega)]
        simp only [frz]
        rw [if_neg (by simp; omega)]
        exact cx
    
  · obtain rfl : i = 4 := by omega
    replace e4 : e 4 = some (iv 4) := e4
    refine VW.seq ?_
    refine VW.seq ?_
    refine VW.reg ?_
    refine sx ?_
    refine VW.condF cx ?_
    refine VW.exit ?_
    refine sx ?_
    have hcp := cpC_slP hG.d
    have hlen := dns_len (l := r.dn)
    have hdl := hf.2
    have hall : allLen 2 (dns r.dn) := fun y hy => by obtain ⟨x, _, rfl⟩ := List.mem_map.1 hy; rfl
    have b1 : r.dn.length * 24 ≤ 140737488355328 := by omega
    have hfin : ∀ e' m2, e' 2 = some (.ptr F 15 0 0) → Pk R F g (gfk g) m2 → Ends [.tmp 2] b (.ptr b 15 0 0) (ofL [(R, g.rbox), (b, (gfk g).rbox)]) e' m2 := fun e' m2 he hp => by
      have hsR : sg b [F] R = R := sg_lt hRb
      refine .ol (q := .ptr F 15 0 0) [F] (by simp [resF, resL, RX.ev, he, tup1]) (by simp [PV.ren, renA, ren1, sg_0]) (by simp [ltT, PV.lt, lt1]) (by simp [hbF]) (by simp) ?_
      simp only [List.mem_cons, List.not_mem_nil, or_false, forall_eq, forall_eq_or_imp]
      refine ⟨⟨by rw [hsR, hG.ren]; exact hp.1, by omega, by omega, Mg.rblt hG.ok, rfl⟩, by rw [sg_0, hG.fk.ren]; exact hp.2, by simp, by omega, Mg.rblt hG.fk.ok, rfl⟩
    rcases hG.d with ⟨hw, h0⟩ | hw
    · rw [h0] at hcp
      have hw' : (gcp g 4).w = .nsl := hw
      have hcpk := hcp
      clear h0 hcp hall b1 hlen
      refine VW.seq ?_
      refine VW.reg ?_
      refine sx ?_
      have hend : (gfk g).rbox = .box ([iv (gcp g 4).c, iv (gcp g 4).h, .bool (gcp g 4).a0.o, iv (gcp g 4).a0.s, (gcp g 4).a0.k, .bool (gcp g 4).a1.o, iv (gcp g 4).a1.s, (gcp g 4).a1.k, .bool (gcp g 4).a2.o, iv (gcp g 4).a2.s, (gcp g 4).a2.k, .bool (gcp g 4).a3.o, iv (gcp g 4).a3.s, (gcp g 4).a3.k, (gcp g 4).w].set 14 (.sl [])) 74 := by rw [← hcpk]; rfl
      refine Pend.go (F := F) (Pm := Pk R F g (gfk g)) (.inr ⟨_, _, 14, nx + 56, 2, [], 85, upd_same _ _ _, rfl, cx, ?_, by rw [upd_same, hend]; rfl⟩) fun m2 hp => ?_
      · rw [upd_other _ _ (by omega)]
        simp only [frz]
        rw [if_neg (by simp; omega)]
        exact cx
      · clear hend
        repeat' (first
    | exact True.intro
    | refine VW.seq ?_
    | refine VW.block ?_
    | ((first | refine VW.skip ?_ | refine VW.exit ?_ | refine VW.reg ?_ | refine VW.regD ?_ | refine VW.ret ?_ | show goA _ _ _ _ _ _ _ _ _ _ | show goB _ _ _ _ _ _ _ _ _ | show goAD _ _ _ _ _ _ _ _ _ _ _ _ _ _ | show goBD _ _ _ _ _ _ _ _ _ _ _); refine sx ?_)
    | refine VW.condT cx ?_
    | refine VW.condF cx ?_
    | refine VW.cond ex ?_ ?_
    | refine imp_nt ?_
    | refine imp_nf ?_
    | refine imp_dt (fun _ => ?_)
    | refine imp_df (fun _ => ?_)
    | (refine fun (_ : _ = true) => ?_)
    | (refine fun (_ : _ = false) => ?_)
    | refine vg_t ?_ ?_
    | refine vg_f ?_ ?_)
        all_goals refine hfin _ _ ?_ hp
        all_goals exact cx
    · have hw' : (gcp g 4).w = .sl (dns r.dn) := hw
      have hcpk := hcp
      clear hcp
      refine VW.seq ?_
      refine VW.reg ?_
      refine sx ?_
      have hend : (gfk g).rbox = .box ([iv (gcp g 4).c, iv (gcp g 4).h, .bool (gcp g 4).a0.o, iv (gcp g 4).a0.s, (gcp g 4).a0.k, .bool (gcp g 4).a1.o, iv (gcp g 4).a1.s, (gcp g 4).a1.k, .bool (gcp g 4).a2.o, iv (gcp g 4).a2.s, (gcp g 4).a2.k, .bool (gcp g 4).a3.o, iv (gcp g 4).a3.s, (gcp g 4).a3.k, (gcp g 4).w].set 14 (.sl (dns r.dn))) 74 := by rw [← hcpk]; rfl
      refine Pend.go (F := F) (Pm := Pk R F g (gfk g)) (.inr ⟨_, _, 14, nx + 56, 2, dns r.dn, 85, upd_same _ _ _, by simp [hlen], cx, ?_, by rw [upd_same, hend]; rfl⟩) fun m2 hp => ?_
      · rw [upd_other _ _ (by omega)]
        simp only [frz]
        rw [if_neg (by simp; omega)]
        exact cx
      · clear hend
        repeat' (first
    | exact True.intro
    | refine VW.seq ?_
    | refine VW.block ?_
    | ((first | refine VW.skip ?_ | refine VW.exit ?_ | refine VW.reg ?_ | refine VW.regD ?_ | refine VW.ret ?_ | show goA _ _ _ _ _ _ _ _ _ _ | show goB _ _ _ _ _ _ _ _ _ | show goAD _ _ _ _ _ _ _ _ _ _ _ _ _ _ | show goBD _ _ _ _ _ _ _ _ _ _ _); refine sx ?_)
    | refine VW.condT cx ?_
    | refine VW.condF cx ?_
    | refine VW.cond ex ?_ ?_
    | refine imp_nt ?_
    | refine imp_nf ?_
    | refine imp_dt (fun _ => ?_)
    | refine imp_df (fun _ => ?_)
    | (refine fun (_ : _ = true) => ?_)
    | (refine fun (_ : _ = false) => ?_)
    | refine vg_t ?_ ?_
    | refine vg_f ?_ ?_)
        all_goals refine hfin _ _ ?_ hp
        all_goals exact cx
end
end Go.Vx
/- A nil manager's answers. -/
set_option linter.unusedSimpArgs false
set_option linter.unusedVariables false
set_option maxRecDepth 4000
set_option maxHeartbeats 4000000
namespace Go.Vx
open Go Go.Proofs

section
variable {P : Program} (hN : ∀ b z, V P 28 [.nilp, iv z] mt b (.tup [.nilp, iv 1]) mt) (hO : ∀ b z, V P 29 [.nilp, iv z] mt b (.tup [.nilp, iv 1]) mt) (hT : ∀ b z, V P 25 [.nilp, iv z] mt b (iv 1) mt)
include hN in
theorem wn_opened (b : Nat) (z : Int) : VW P c29 (PRet (Ends [.tmp 4, .tmp 5] b (.tup [.nilp, iv 1]) mt)) (fun t => [PV.nilp, iv z][t]?) mt b := by
  unfold c29
  repeat' (first
    | exact True.intro
    | refine VW.seq ?_
    | refine VW.block ?_
    | ((first | refine VW.skip ?_ | refine VW.exit ?_ | refine VW.reg ?_ | refine VW.regD ?_ | refine VW.ret ?_ | show goA _ _ _ _ _ _ _ _ _ _ | show goB _ _ _ _ _ _ _ _ _ | show goAD _ _ _ _ _ _ _ _ _ _ _ _ _ _ | show goBD _ _ _ _ _ _ _ _ _ _ _ | refine VC.p2 (hN _ _) rfl rfl rfl rfl ?_); refine sx ?_)
    | refine VW.condT cx ?_
    | refine VW.condF cx ?_
    | refine VW.cond ex ?_ ?_
    | refine imp_nt ?_
    | refine imp_nf ?_
    | refine imp_dt (fun _ => ?_)
    | refine imp_df (fun _ => ?_)
    | (refine fun (_ : _ = true) => ?_)
    | (refine fun (_ : _ = false) => ?_)
    | refine vg_t ?_ ?_
    | refine vg_f ?_ ?_)
  exact .v exR exR
include hN in
theorem wn_begin (b : Nat) (z : Int) : VW P c11 (PRet (Ends [.tmp 4, .tmp 5] b (.tup [iv 0, iv 1]) mt)) (fun t => [PV.nilp, iv z][t]?) mt b := by
  unfold c11
  repeat' (first
    | exact True.intro
    | refine VW.seq ?_
    | refine VW.block ?_
    | ((first | refine VW.skip ?_ | refine VW.exit ?_ | refine VW.reg ?_ | refine VW.regD ?_ | refine VW.ret ?_ | show goA _ _ _ _ _ _ _ _ _ _ | show goB _ _ _ _ _ _ _ _ _ | show goAD _ _ _ _ _ _ _ _ _ _ _ _ _ _ | show goBD _ _ _ _ _ _ _ _ _ _ _ | refine VC.p2 (hN _ _) rfl rfl rfl rfl ?_); refine sx ?_)
    | refine VW.condT cx ?_
    | refine VW.condF cx ?_
    | refine VW.cond ex ?_ ?_
    | refine imp_nt ?_
    | refine imp_nf ?_
    | refine imp_dt (fun _ => ?_)
    | refine imp_df (fun _ => ?_)
    | (refine fun (_ : _ = true) => ?_)
    | (refine fun (_ : _ = false) => ?_)
    | refine vg_t ?_ ?_
    | refine vg_f ?_ ?_)
  exact .v exR exR
include hO in
theorem wn_write (b : Nat) (z : Int) (k : Str) : VW P c12 (PRet (Ends [.tmp 6] b (iv 1) mt)) (fun t => [PV.nilp, iv z, .str k][t]?) mt b := by
  unfold c12
  repeat' (first
    | exact True.intro
    | refine VW.seq ?_
    | refine VW.block ?_
    | ((first | refine VW.skip ?_ | refine VW.exit ?_ | refine VW.reg ?_ | refine VW.regD ?_ | refine VW.ret ?_ | show goA _ _ _ _ _ _ _ _ _ _ | show goB _ _ _ _ _ _ _ _ _ | show goAD _ _ _ _ _ _ _ _ _ _ _ _ _ _ | show goBD _ _ _ _ _ _ _ _ _ _ _ | refine VC.p2 (hO _ _) rfl rfl rfl rfl ?_); refine sx ?_)
    | refine VW.condT cx ?_
    | refine VW.condF cx ?_
    | refine VW.cond ex ?_ ?_
    | refine imp_nt ?_
    | refine imp_nf ?_
    | refine imp_dt (fun _ => ?_)
    | refine imp_df (fun _ => ?_)
    | (refine fun (_ : _ = true) => ?_)
    | (refine fun (_ : _ = false) => ?_)
    | refine vg_t ?_ ?_
    | refine vg_f ?_ ?_)
  exact .v exR exR
include hO in
theorem wn_test (b : Nat) (z : Int) : VW P c25 (PRet (Ends [.tmp 4] b (iv 1) mt)) (fun t => [PV.nilp, iv z][t]?) mt b := by
  unfold c25
  repeat' (first
    | exact True.intro
    | refine VW.seq ?_
    | refine VW.block ?_
    | ((first | refine VW.skip ?_ | refine VW.exit ?_ | refine VW.reg ?_ | refine VW.regD ?_ | refine VW.ret ?_ | show goA _ _ _ _ _ _ _ _ _ _ | show goB _ _ _ _ _ _ _ _ _ | show goAD _ _ _ _ _ _ _ _ _ _ _ _ _ _ | show goBD _ _ _ _ _ _ _ _ _ _ _ | refine VC.p2 (hO _ _) rfl rfl rfl rfl ?_); refine sx ?_)
    | refine VW.condT cx ?_
    | refine VW.condF cx ?_
    | refine VW.cond ex ?_ ?_
    | refine imp_nt ?_
    | refine imp_nf ?_
    | refine imp_dt (fun _ => ?_)
    | refine imp_df (fun _ => ?_)
    | (refine fun (_ : _ = true) => ?_)
    | (refine fun (_ : _ = false) => ?_)
    | refine vg_t ?_ ?_
    | refine vg_f ?_ ?_)
  exact .v exR exR
include hT in
theorem wn_commit (b : Nat) (z : Int) : VW P c13 (PRet (Ends [.tmp 4, .tmp 5] b (.tup [iv 0, iv 1]) mt)) (fun t => [PV.nilp, iv z][t]?) mt b := by
  unfold c13
  repeat' (first
    | exact True.intro
    | refine VW.seq ?_
    | refine VW.block ?_
    | ((first | refine VW.skip ?_ | refine VW.exit ?_ | refine VW.reg ?_ | refine VW.regD ?_ | refine VW.ret ?_ | show goA _ _ _ _ _ _ _ _ _ _ | show goB _ _ _ _ _ _ _ _ _ | show goAD _ _ _ _ _ _ _ _ _ _ _ _ _ _ | show goBD _ _ _ _ _ _ _ _ _ _ _ | refine VC.p2 (hT _ _) rfl rfl rfl rfl ?_); refine sx ?_)
    | refine VW.condT cx ?_
    | refine VW.condF cx ?_
    | refine VW.cond ex ?_ ?_
    | refine imp_nt ?_
    | refine imp_nf ?_
    | refine imp_dt (fun _ => ?_)
    | refine imp_df (fun _ => ?_)
    | (refine fun (_ : _ = true) => ?_)
    | (refine fun (_ : _ = false) => ?_)
    | refine vg_t ?_ ?_
    | refine vg_f ?_ ?_)
  exact .v exR exR
include hO in
theorem wn_end (b : Nat) (z : Int) : VW P c14 (PRet (Ends [.tmp 4] b (iv 1) mt)) (fun t => [PV.nilp, iv z][t]?) mt b := by
  unfold c14
  repeat' (first
    | exact True.intro
    | refine VW.seq ?_
    | refine VW.block ?_
    | ((first | refine VW.skip ?_ | refine VW.exit ?_ | refine VW.reg ?_ | refine VW.regD ?_ | refine VW.ret ?_ | show goA _ _ _ _ _ _ _ _ _ _ | show goB _ _ _ _ _ _ _ _ _ | show goAD _ _ _ _ _ _ _ _ _ _ _ _ _ _ | show goBD _ _ _ _ _ _ _ _ _ _ _ | refine VC.p2 (hO _ _) rfl rfl rfl rfl ?_); refine sx ?_)
    | refine VW.condT cx ?_
    | refine VW.condF cx ?_
    | refine VW.cond ex ?_ ?_
    | refine imp_nt ?_
    | refine imp_nf ?_
    | refine imp_dt (fun _ => ?_)
    | refine imp_df (fun _ => ?_)
    | (refine fun (_ : _ = true) => ?_)
    | (refine fun (_ : _ = false) => ?_)
    | refine vg_t ?_ ?_
    | refine vg_f ?_ ?_)
  exact .v exR exR
theorem wn_tick (b : Nat) (z : Int) : VW P c15 (PRet (Ends [] b (.tup []) mt)) (fun t => [PV.nilp, iv z][t]?) mt b := by
  unfold c15
  repeat' (first
    | exact True.intro
    | refine VW.seq ?_
    | refine VW.block ?_
    | ((first | refine VW.skip ?_ | refine VW.exit ?_ | refine VW.reg ?_ | refine VW.regD ?_ | refine VW.ret ?_ | show goA _ _ _ _ _ _ _ _ _ _ | show goB _ _ _ _ _ _ _ _ _ | show goAD _ _ _ _ _ _ _ _ _ _ _ _ _ _ | show goBD _ _ _ _ _ _ _ _ _ _ _); refine sx ?_)
    | refine VW.condT cx ?_
    | refine VW.condF cx ?_
    | refine VW.cond ex ?_ ?_
    | refine imp_nt ?_
    | refine imp_nf ?_
    | refine imp_dt (fun _ => ?_)
    | refine imp_df (fun _ => ?_)
    | (refine fun (_ : _ = true) => ?_)
    | (refine fun (_ : _ = false) => ?_)
    | refine vg_t ?_ ?_
    | refine vg_f ?_ ?_)
  exact .v exR exR
theorem wn_clock (b : Nat) : VW P c17 (PRet (Ends [.tmp 2] b (iv 0) mt)) (fun t => [PV.nilp][t]?) mt b := by
  unfold c17
  repeat' (first
    | exact True.intro
    | refine VW.seq ?_
    | refine VW.block ?_
    | ((first | refine VW.skip ?_ | refine VW.exit ?_ | refine VW.reg ?_ | refine VW.regD ?_ | refine VW.ret ?_ | show goA _ _ _ _ _ _ _ _ _ _ | show goB _ _ _ _ _ _ _ _ _ | show goAD _ _ _ _ _ _ _ _ _ _ _ _ _ _ | show goBD _ _ _ _ _ _ _ _ _ _ _); refine sx ?_)
    | refine VW.condT cx ?_
    | refine VW.condF cx ?_
    | refine VW.cond ex ?_ ?_
    | refine imp_nt ?_
    | refine imp_nf ?_
    | refine imp_dt (fun _ => ?_)
    | refine imp_df (fun _ => ?_)
    | (refine fun (_ : _ = true) => ?_)
    | (refine fun (_ : _ = false) => ?_)
    | refine vg_t ?_ ?_
    | refine vg_f ?_ ?_)
  exact .v exR exR
theorem wn_high (b : Nat) : VW P c26 (PRet (Ends [.tmp 2] b (iv 0) mt)) (fun t => [PV.nilp][t]?) mt b := by
  unfold c26
  repeat' (first
    | exact True.intro
    | refine VW.seq ?_
    | refine VW.block ?_
    | ((first | refine VW.skip ?_ | refine VW.exit ?_ | refine VW.reg ?_ | refine VW.regD ?_ | refine VW.ret ?_ | show goA _ _ _ _ _ _ _ _ _ _ | show goB _ _ _ _ _ _ _ _ _ | show goAD _ _ _ _ _ _ _ _ _ _ _ _ _ _ | show goBD _ _ _ _ _ _ _ _ _ _ _); refine sx ?_)
    | refine VW.condT cx ?_
    | refine VW.condF cx ?_
    | refine VW.cond ex ?_ ?_
    | refine imp_nt ?_
    | refine imp_nf ?_
    | refine imp_dt (fun _ => ?_)
    | refine imp_df (fun _ => ?_)
    | (refine fun (_ : _ = true) => ?_)
    | (refine fun (_ : _ = false) => ?_)
    | refine vg_t ?_ ?_
    | refine vg_f ?_ ?_)
  exact .v exR exR
include hO in
theorem wn_open (b : Nat) (z : Int) : VW P c16 (PRet (Ends [.tmp 4] b (.bool false) mt)) (fun t => [PV.nilp, iv z][t]?) mt b := by
  unfold c16
  repeat' (first
    | exact True.intro
    | refine VW.seq ?_
    | refine VW.block ?_
    | ((first | refine VW.skip ?_ | refine VW.exit ?_ | refine VW.reg ?_ | refine VW.regD ?_ | refine VW.ret ?_ | show goA _ _ _ _ _ _ _ _ _ _ | show goB _ _ _ _ _ _ _ _ _ | show goAD _ _ _ _ _ _ _ _ _ _ _ _ _ _ | show goBD _ _ _ _ _ _ _ _ _ _ _ | refine VC.p2 (hO _ _) rfl rfl rfl rfl ?_); refine sx ?_)
    | refine VW.condT cx ?_
    | refine VW.condF cx ?_
    | refine VW.cond ex ?_ ?_
    | refine imp_nt ?_
    | refine imp_nf ?_
    | refine imp_dt (fun _ => ?_)
    | refine imp_df (fun _ => ?_)
    | (refine fun (_ : _ = true) => ?_)
    | (refine fun (_ : _ = false) => ?_)
    | refine vg_t ?_ ?_
    | refine vg_f ?_ ?_)
  exact .v exR exR
include hO in
theorem wn_since (b : Nat) (z : Int) : VW P c23 (PRet (Ends [.tmp 4, .tmp 5] b (.tup [iv 0, .bool false]) mt)) (fun t => [PV.nilp, iv z][t]?) mt b := by
  unfold c23
  repeat' (first
    | exact True.intro
    | refine VW.seq ?_
    | refine VW.block ?_
    | ((first | refine VW.skip ?_ | refine VW.exit ?_ | refine VW.reg ?_ | refine VW.regD ?_ | refine VW.ret ?_ | show goA _ _ _ _ _ _ _ _ _ _ | show goB _ _ _ _ _ _ _ _ _ | show goAD _ _ _ _ _ _ _ _ _ _ _ _ _ _ | show goBD _ _ _ _ _ _ _ _ _ _ _ | refine VC.p2 (hO _ _) rfl rfl rfl rfl ?_); refine sx ?_)
    | refine VW.condT cx ?_
    | refine VW.condF cx ?_
    | refine VW.cond ex ?_ ?_
    | refine imp_nt ?_
    | refine imp_nf ?_
    | refine imp_dt (fun _ => ?_)
    | refine imp_df (fun _ => ?_)
    | (refine fun (_ : _ = true) => ?_)
    | (refine fun (_ : _ = false) => ?_)
    | refine vg_t ?_ ?_
    | refine vg_f ?_ ?_)
  exact .v exR exR
theorem wn_oldest (b : Nat) : VW P c24 (PRet (Ends [.tmp 2, .tmp 3] b (.tup [iv 0, .bool false]) mt)) (fun t => [PV.nilp][t]?) mt b := by
  unfold c24
  repeat' (first
    | exact True.intro
    | refine VW.seq ?_
    | refine VW.block ?_
    | ((first | refine VW.skip ?_ | refine VW.exit ?_ | refine VW.reg ?_ | refine VW.regD ?_ | refine VW.ret ?_ | show goA _ _ _ _ _ _ _ _ _ _ | show goB _ _ _ _ _ _ _ _ _ | show goAD _ _ _ _ _ _ _ _ _ _ _ _ _ _ | show goBD _ _ _ _ _ _ _ _ _ _ _); refine sx ?_)
    | refine VW.condT cx ?_
    | refine VW.condF cx ?_
    | refine VW.cond ex ?_ ?_
    | refine imp_nt ?_
    | refine imp_nf ?_
    | refine imp_dt (fun _ => ?_)
    | refine imp_df (fun _ => ?_)
    | (refine fun (_ : _ = true) => ?_)
    | (refine fun (_ : _ = false) => ?_)
    | refine vg_t ?_ ?_
    | refine vg_f ?_ ?_)
  exact .v exR exR
theorem wn_fork (b : Nat) : VW P c20 (PRet (Ends [.tmp 2] b .nilp mt)) (fun t => [PV.nilp][t]?) mt b := by
  unfold c20
  repeat' (first
    | exact True.intro
    | refine VW.seq ?_
    | refine VW.block ?_
    | ((first | refine VW.skip ?_ | refine VW.exit ?_ | refine VW.reg ?_ | refine VW.regD ?_ | refine VW.ret ?_ | show goA _ _ _ _ _ _ _ _ _ _ | show goB _ _ _ _ _ _ _ _ _ | show goAD _ _ _ _ _ _ _ _ _ _ _ _ _ _ | show goBD _ _ _ _ _ _ _ _ _ _ _); refine sx ?_)
    | refine VW.condT cx ?_
    | refine VW.condF cx ?_
    | refine VW.cond ex ?_ ?_
    | refine imp_nt ?_
    | refine imp_nf ?_
    | refine imp_dt (fun _ => ?_)
    | refine imp_df (fun _ => ?_)
    | (refine fun (_ : _ = true) => ?_)
    | (refine fun (_ : _ = false) => ?_)
    | refine vg_t ?_ ?_
    | refine vg_f ?_ ?_)
  exact .v exR exR
include hO in
theorem wn_writes (b : Nat) (z : Int) : VW P c27 (PRet (Ends [.tmp 4] b (.sl (strs [])) mt)) (fun t => [PV.nilp, iv z][t]?) mt b := by
  unfold c27
  repeat' (first
    | exact True.intro
    | refine VW.seq ?_
    | refine VW.block ?_
    | ((first | refine VW.skip ?_ | refine VW.exit ?_ | refine VW.reg ?_ | refine VW.regD ?_ | refine VW.ret ?_ | show goA _ _ _ _ _ _ _ _ _ _ | show goB _ _ _ _ _ _ _ _ _ | show goAD _ _ _ _ _ _ _ _ _ _ _ _ _ _ | show goBD _ _ _ _ _ _ _ _ _ _ _ | refine VC.p2 (hO _ _) rfl rfl rfl rfl ?_); refine sx ?_)
    | refine VW.condT cx ?_
    | refine VW.condF cx ?_
    | refine VW.cond ex ?_ ?_
    | refine imp_nt ?_
    | refine imp_nf ?_
    | refine imp_dt (fun _ => ?_)
    | refine imp_df (fun _ => ?_)
    | (refine fun (_ : _ = true) => ?_)
    | (refine fun (_ : _ = false) => ?_)
    | refine vg_t ?_ ?_
    | refine vg_f ?_ ?_)
  exact .tmprE ex ex (by simp) (by simp [strs])
end
theorem vOneN (b : Nat) (z : Int) : V Try.prog 28 [.nilp, iv z] mt b (.tup [.nilp, iv 1]) mt := cOne.nil b z
theorem vOpenedN (b : Nat) (z : Int) : V Try.prog 29 [.nilp, iv z] mt b (.tup [.nilp, iv 1]) mt := V.code mixed k29 (by simp) (wn_opened vOneN b z)
theorem vBegN (b : Nat) (z : Int) : V Try.prog 11 [.nilp, iv z] mt b (.tup [iv 0, iv 1]) mt := V.code mixed k11 (by simp) (wn_begin vOneN b z)
theorem vWriN (b : Nat) (z : Int) (k : Str) : V Try.prog 12 [.nilp, iv z, .str k] mt b (iv 1) mt := V.code mixed k12 (by simp) (wn_write vOpenedN b z k)
theorem vTstN (b : Nat) (z : Int) : V Try.prog 25 [.nilp, iv z] mt b (iv 1) mt := V.code mixed k25 (by simp) (wn_test vOpenedN b z)
theorem vComN (b : Nat) (z : Int) : V Try.prog 13 [.nilp, iv z] mt b (.tup [iv 0, iv 1]) mt := V.code mixed k13 (by simp) (wn_commit vTstN b z)
theorem vEndN (b : Nat) (z : Int) : V Try.prog 14 [.nilp, iv z] mt b (iv 1) mt := V.code mixed k14 (by simp) (wn_end vOpenedN b z)
theorem vTicN (b : Nat) (z : Int) : V Try.prog 15 [.nilp, iv z] mt b (.tup []) mt := V.code mixed k15 (by simp) (wn_tick b z)
theorem vClkN (b : Nat) : V Try.prog 17 [.nilp] mt b (iv 0) mt := V.code mixed k17 (by simp) (wn_clock b)
theorem vHigN (b : Nat) : V Try.prog 26 [.nilp] mt b (iv 0) mt := V.code mixed k26 (by simp) (wn_high b)
theorem vOpnN (b : Nat) (z : Int) : V Try.prog 16 [.nilp, iv z] mt b (.bool false) mt := V.code mixed k16 (by simp) (wn_open vOpenedN b z)
theorem vSinN (b : Nat) (z : Int) : V Try.prog 23 [.nilp, iv z] mt b (.tup [iv 0, .bool false]) mt := V.code mixed k23 (by simp) (wn_since vOpenedN b z)
theorem vOldN (b : Nat) : V Try.prog 24 [.nilp] mt b (.tup [iv 0, .bool false]) mt := V.code mixed k24 (by simp) (wn_oldest b)
theorem vFrkN (b : Nat) : V Try.prog 20 [.nilp] mt b .nilp mt := V.code mixed k20 (by simp) (wn_fork b)
theorem vWrsN (b : Nat) (z : Int) : V Try.prog 27 [.nilp, iv z] mt b (.sl []) mt := V.code mixed k27 (by simp) (wn_writes vOpenedN b z)
end Go.Vx
/- TxnForks. -/
set_option linter.unusedSimpArgs false
set_option linter.unusedVariables false
set_option maxRecDepth 4000
set_option maxHeartbeats 4000000
namespace Go.Vx
open Go Go.Proofs Go.Shelf

theorem cCloI : Clo Try.prog 39 := by
  have he : EntersX Try.prog (.f 39) := enters_of Try.func39 (by kernel_rfl) rfl
  exact ⟨fun b => V.cloneNil Try.cloneI he b, fun K b hK es => V.clone Try.cloneI he hK es⟩
theorem cCloB : Clo Try.prog 40 := by
  have he : EntersX Try.prog (.f 40) := enters_of Try.func40 (by kernel_rfl) rfl
  exact ⟨fun b => V.cloneNil Try.cloneB he b, fun K b hK es => V.clone Try.cloneB he hK es⟩
section
variable {s n M R b0 b : Nat} {a : Ab} {r : Rb} {m : Mem} {K : PV → Mem → Prop}
theorem VC.tfk (h : MRz s a M m b0) (hr : RR r R m b0) (hb : b0 ≤ b) (hk : ∀ F m', MRz b a F m' (b + 8) → (∀ id, id < b → m' id = m id) → K (.ptr F 15 0 0) m') : VC Try.prog b (.f 20) [.ptr M 15 0 0] true true K m m := by
  have hlow := h.low
  obtain ⟨m0, h0, hr0, hg, hk0, hs0⟩ := man_in (h.mono hb) (hr.mono hb)
  obtain ⟨W, Kf, wl, hw, _⟩ := h0
  refine .any rfl rfl [.ptr M 15 0 0] m0 _ ⟨.inl ⟨rfl, by simp [PV.lt, lt1]; omega⟩, trivial⟩ (fun id o ho => ⟨(hg id o ho).1, (hg id o ho).2.1, (hg id o ho).2.2.1⟩) (VX.code mixed k20 (by simp) (w_tfork cCloI cCloB hw hr0 fun id o ho => (hg id o ho).2)) ?_
  rintro q m1 ⟨F, rfl, hF, hold⟩
  refine hk F _ (hF.sub2 (fun id o h1 h2 ho => by simp only [patch]; rw [if_pos (.inr ⟨h1, h2⟩)]; exact ho) (Nat.le_refl _)) (fun id hid => ?_)
  simp only [patch]
  split
  · rename_i h
    rcases h with h | h
    · obtain ⟨o, ho⟩ := Option.isSome_iff_exists.1 h
      rw [hold id o ho, (hg id o ho).1]
    · omega
  · rfl
theorem VC.rfk (hr : RR r R m b0) (hb : b0 ≤ b) (hf : Few r) {nd : Bool} (hk : ∀ g', RG r g' → K (.ptr b 15 0 0) (upd m b (some g'.rbox))) : VC Try.prog b (.f 21) [.ptr R 15 0 0] true nd K m m := by
  obtain ⟨g, hRb, hm, hG⟩ := hr
  refine .ol rfl [.ptr R 15 0 0] [(R, g.rbox)] [(R, g.rbox), (b, (gfk g).rbox)] _ ⟨.inl ⟨rfl, by simp [PV.lt, lt1]; omega⟩, trivial⟩ ?_ ?_ (V.code mixed k21 (by simp) (w_rfork (by omega) hG hf _ ofL_at)) ?_
  · simp only [List.mem_cons, List.not_mem_nil, or_false, forall_eq, forall_eq_or_imp]; exact ⟨hm, by omega, by simpa using Mg.rblt (k := 0) (hG.ok (b := b))⟩
  · simp only [List.mem_cons, List.not_mem_nil, or_false, forall_eq, forall_eq_or_imp]; exact ⟨.inl (by simp), .inr ⟨by omega, by omega⟩⟩
  · have : m.upds (swap [(R, g.rbox)] [(R, g.rbox), (b, (gfk g).rbox)]) = upd m b (some (gfk g).rbox) := by
      funext id; simp only [swap, List.map_cons, List.map_nil, List.cons_append, List.nil_append, Mem.upds, List.foldl_cons, List.foldl_nil, upd]
      by_cases h1 : id = b
      · simp [h1]
      · by_cases h2 : id = R
        · subst h2; simp [h1, hm]
        · simp [h1, h2]
    rw [this]; exact hk _ hG.fk
end

def J7 (l : List Dd) (M R s b1 : Nat) (a : Ab) (r : Rb) (i : Nat) (e : Env) (m : Mem) (nx : Nat) : Prop :=
  ∃ F G a' r', e 2 = some (.sl (dds l)) ∧ e 7 = some (.ptr M 15 0 0) ∧ e 8 = some (.ptr R 15 0 0) ∧ e 10 = some (.ptr F 15 0 0) ∧ e 11 = some (.ptr G 15 0 0) ∧ e 12 = some (iv i) ∧ JJ a' r' (60 + i) ∧ MRz b1 a' F m nx ∧ RR r' G m nx ∧ b1 ≤ G ∧ MRz s a M m b1 ∧ RR r R m b1 ∧ b1 ≤ nx
theorem w7 (z : Int) (l l2 : List Dd) (b : Nat) : VW Try.prog c7 (PRet (Ends [.tmp 6] b (.bool true) mt)) (fun t => [iv z, PV.sl (dds l), .sl (dds l2)][t]?) mt b := by
  unfold c7
  repeat' (first
    | exact True.intro
    | refine VW.seq ?_
    | refine VW.block ?_
    | ((first | refine VW.skip ?_ | refine VW.exit ?_ | refine VW.reg ?_ | refine VW.regD ?_ | refine VW.ret ?_ | show goA _ _ _ _ _ _ _ _ _ _ | show goB _ _ _ _ _ _ _ _ _ | show goAD _ _ _ _ _ _ _ _ _ _ _ _ _ _ | show goBD _ _ _ _ _ _ _ _ _ _ _); refine sx ?_)
    | refine VW.condT cx ?_
    | refine VW.condF cx ?_
    | refine VW.cond ex ?_ ?_
    | refine imp_nt ?_
    | refine imp_nf ?_
    | refine imp_dt (fun _ => ?_)
    | refine imp_df (fun _ => ?_)
    | (refine fun (_ : _ = true) => ?_)
    | (refine fun (_ : _ = false) => ?_)
    | refine vg_t ?_ ?_
    | refine vg_f ?_ ?_)
  refine .any rfl rfl [iv z, .sl (dds l)] mt _ ⟨.inl ⟨rfl, rfl⟩, .inl ⟨rfl, rfl⟩, trivial⟩ (fun id o ho => by cases ho) (v_play z l _) ?_
  rintro q m1 ⟨M, R, a, r, rfl, hJ, hM, hR, _⟩
  obtain ⟨g, hR1, hR2, hG⟩ := hR
  have hM' := hM.sub2 (m' := patch mt (b + 24) m1 mt) (fun id o h1 h2 ho => by simp only [patch]; rw [if_pos (.inr ⟨by omega, by omega⟩)]; exact ho) (Nat.le_refl _)
  have hR' : RR r R (patch mt (b + 24) m1 mt) (b + 24 + 8) := ⟨g, hR1, by simp only [patch]; rw [if_pos (.inr ⟨by omega, by omega⟩)]; exact hR2, hG⟩
  generalize patch mt (b + 24) m1 mt = m at *
  clear hM hR1 hR2 hG g
  have hfew := hJ.few (by omega)
  refine sy ?_
  repeat' (first
    | exact True.intro
    | refine VW.seq ?_
    | refine VW.block ?_
    | ((first | refine VW.skip ?_ | refine VW.exit ?_ | refine VW.reg ?_ | refine VW.regD ?_ | refine VW.ret ?_ | show goA _ _ _ _ _ _ _ _ _ _ | show goB _ _ _ _ _ _ _ _ _ | show goAD _ _ _ _ _ _ _ _ _ _ _ _ _ _ | show goBD _ _ _ _ _ _ _ _ _ _ _ | refine VC.p0 (vlive _) ?_); refine sx ?_)
    | refine VW.condT cx ?_
    | refine VW.condF cx ?_
    | refine VW.cond ex ?_ ?_
    | refine imp_nt ?_
    | refine imp_nf ?_
    | refine imp_dt (fun _ => ?_)
    | refine imp_df (fun _ => ?_)
    | (refine fun (_ : _ = true) => ?_)
    | (refine fun (_ : _ = false) => ?_)
    | refine vg_t ?_ ?_
    | refine vg_f ?_ ?_)
  refine VC.tfk hM' hR' (by omega) fun F m2 hF hs2 => ?_
  have hM2 := hM'.of (b' := b + 144) (fun id hid => hs2 id (by omega)) (by omega)
  have hlR : R < b + 32 := by obtain ⟨_, _, h⟩ := hR'.at; omega
  have hR2 := hR'.of (b' := b + 144) (hs2 R (by omega)) (by omega)
  refine sy ?_
  repeat' (first
    | exact True.intro
    | refine VW.seq ?_
    | refine VW.block ?_
    | ((first | refine VW.skip ?_ | refine VW.exit ?_ | refine VW.reg ?_ | refine VW.regD ?_ | refine VW.ret ?_ | show goA _ _ _ _ _ _ _ _ _ _ | show goB _ _ _ _ _ _ _ _ _ | show goAD _ _ _ _ _ _ _ _ _ _ _ _ _ _ | show goBD _ _ _ _ _ _ _ _ _ _ _); refine sx ?_)
    | refine VW.condT cx ?_
    | refine VW.condF cx ?_
    | refine VW.cond ex ?_ ?_
    | refine imp_nt ?_
    | refine imp_nf ?_
    | refine imp_dt (fun _ => ?_)
    | refine imp_df (fun _ => ?_)
    | (refine fun (_ : _ = true) => ?_)
    | (refine fun (_ : _ = false) => ?_)
    | refine vg_t ?_ ?_
    | refine vg_f ?_ ?_)
  refine VC.rfk hR2 (by omega) hfew fun g' hG' => ?_
  refine sy ?_
  repeat' (first
    | exact True.intro
    | refine VW.seq ?_
    | refine VW.block ?_
    | ((first | refine VW.skip ?_ | refine VW.exit ?_ | refine VW.reg ?_ | refine VW.regD ?_ | refine VW.ret ?_ | show goA _ _ _ _ _ _ _ _ _ _ | show goB _ _ _ _ _ _ _ _ _ | show goAD _ _ _ _ _ _ _ _ _ _ _ _ _ _ | show goBD _ _ _ _ _ _ _ _ _ _ _); refine sx ?_)
    | refine VW.condT cx ?_
    | refine VW.condF cx ?_
    | refine VW.cond ex ?_ ?_
    | refine imp_nt ?_
    | refine imp_nf ?_
    | refine imp_dt (fun _ => ?_)
    | refine imp_df (fun _ => ?_)
    | (refine fun (_ : _ = true) => ?_)
    | (refine fun (_ : _ = false) => ?_)
    | refine vg_t ?_ ?_
    | refine vg_f ?_ ?_)
  obtain ⟨m3, hm3⟩ : ∃ m3, m3 = upd m2 (b + 160) (some g'.rbox) := ⟨_, rfl⟩
  have hF3 : MRz (b + 144) a F m3 (b + 168) := by rw [hm3]; exact hF.of (fun id hid => upd_other _ _ (by omega)) (by omega)
  have hG3 : RR r (b + 160) m3 (b + 168) := ⟨g', by omega, by rw [hm3, upd_same], hG'⟩
  have hM3 : MRz (b + 24) a M m3 (b + 144) := by rw [hm3]; exact hM2.of (fun id hid => upd_other _ _ (by omega)) (by omega)
  have hR3 : RR r R m3 (b + 144) := by rw [hm3]; exact hR2.of (upd_other _ _ (by omega)) (by omega)
  rw [← hm3]
  clear hm3 hF hG' hM2 hR2 hs2 hM' hR'
  refine VW.forN (min l2.length 20) (J7 l2 M R (b + 24) (b + 144) a r) 0 (by omega) ⟨F, b + 160, a, r, cy, cy, cy, cy, cy, ey, hJ, hF3.mono (by omega), hG3.mono (by omega), by omega, hM3, hR3, by omega⟩ ?_
  clear hF3 hG3 hM3 hR3 m2 g' F m m3
  rintro i e m nx hi ⟨F, G, a', r', e2, e7, e8, e10, e11, e12, hJ', hF, hG, hbG, hM, hR, hbn⟩
  have hlen := dds_len (l := l2)
  by_cases hn : i < min l2.length 20
  · have hin' : (i : Int) < l2.length := by omega
    have hi20 : (i : Int) < 20 := by omega
    obtain ⟨d, hd⟩ := get_of (l := l2) (i := i) (by omega)
    have hd' : (dds l2)[i]? = some [iv d.k, iv d.i, .str d.key, iv d.n] := by rw [dds_get, hd]; rfl
    have h00 : (0 : Int) ≤ i := by omega
    have htn : (i : Int).toNat = i := Int.toNat_natCast i
    have hw := i64_nat (n := i) (by omega)
    repeat' (first
    | exact True.intro
    | refine VW.seq ?_
    | refine VW.block ?_
    | ((first | refine VW.skip ?_ | refine VW.exit ?_ | refine VW.reg ?_ | refine VW.regD ?_ | refine VW.ret ?_ | show goA _ _ _ _ _ _ _ _ _ _ | show goB _ _ _ _ _ _ _ _ _ | show goAD _ _ _ _ _ _ _ _ _ _ _ _ _ _ | show goBD _ _ _ _ _ _ _ _ _ _ _); refine sx ?_)
    | refine VW.condT cx ?_
    | refine VW.condF cx ?_
    | refine VW.cond ex ?_ ?_
    | refine imp_nt ?_
    | refine imp_nf ?_
    | refine imp_dt (fun _ => ?_)
    | refine imp_df (fun _ => ?_)
    | (refine fun (_ : _ = true) => ?_)
    | (refine fun (_ : _ = false) => ?_)
    | refine vg_t ?_ ?_
    | refine vg_f ?_ ?_)
    refine VC.dop hF hG hJ' (by omega) (by omega) fun a'' r'' m' hJ'' hF' hG' _ hs => ?_
    have hM' := hM.of (fun id hid => hs hbG id hid) (Nat.le_refl _)
    have hR' := hR.of (hs hbG R (by omega)) (Nat.le_refl _)
    clear hF hG hJ' hs hM hR
    refine sx ?_
    repeat' (first
    | exact True.intro
    | refine VW.seq ?_
    | refine VW.block ?_
    | ((first | refine VW.skip ?_ | refine VW.exit ?_ | refine VW.reg ?_ | refine VW.regD ?_ | refine VW.ret ?_ | show goA _ _ _ _ _ _ _ _ _ _ | show goB _ _ _ _ _ _ _ _ _ | show goAD _ _ _ _ _ _ _ _ _ _ _ _ _ _ | show goBD _ _ _ _ _ _ _ _ _ _ _); refine sx ?_)
    | refine VW.condT cx ?_
    | refine VW.condF cx ?_
    | refine VW.cond ex ?_ ?_
    | refine imp_nt ?_
    | refine imp_nf ?_
    | refine imp_dt (fun _ => ?_)
    | refine imp_df (fun _ => ?_)
    | (refine fun (_ : _ = true) => ?_)
    | (refine fun (_ : _ = false) => ?_)
    | refine vg_t ?_ ?_
    | refine vg_f ?_ ?_)
    exact ⟨F, G, a'', r'', cx, cx, cx, cx, cx, cx, hJ'', hF'.mono (by omega), hG'.mono (by omega), hbG, hM', hR', by omega⟩
  · have hJ2 := hJ'.mono (n' := 80) (by omega)
    clear hJ'
    by_cases hin : i < l2.length
    · obtain rfl : i = 20 := by omega
      have hin' : (20 : Int) < l2.length := by omega
      replace e12 : e 12 = some (iv 20) := e12
      clear hi hn hin
      repeat' (first
    | exact True.intro
    | refine VW.seq ?_
    | refine VW.block ?_
    | ((first | refine VW.skip ?_ | refine VW.exit ?_ | refine VW.reg ?_ | refine VW.regD ?_ | refine VW.ret ?_ | show goA _ _ _ _ _ _ _ _ _ _ | show goB _ _ _ _ _ _ _ _ _ | show goAD _ _ _ _ _ _ _ _ _ _ _ _ _ _ | show goBD _ _ _ _ _ _ _ _ _ _ _ | refine VC.p2 (vTicN _ _) rfl rfl rfl rfl ?_ | refine VC.p2 (vBegN _ _) rfl rfl rfl rfl ?_ | refine VC.p2 (vComN _ _) rfl rfl rfl rfl ?_ | refine VC.p2 (vSinN _ _) rfl rfl rfl rfl ?_ | refine VC.p1 (vOldN _) rfl rfl ?_); refine sx ?_)
    | refine VW.condT cx ?_
    | refine VW.condF cx ?_
    | refine VW.cond ex ?_ ?_
    | refine imp_nt ?_
    | refine imp_nf ?_
    | refine imp_dt (fun _ => ?_)
    | refine imp_df (fun _ => ?_)
    | (refine fun (_ : _ = true) => ?_)
    | (refine fun (_ : _ = false) => ?_)
    | refine vg_t ?_ ?_
    | refine vg_f ?_ ?_)
      refine VC.smp hM hR hJ (by omega) (by omega) fun m' hs' => ?_
      have hF2 := hF.of (fun id hid => hs' id (by omega)) (Nat.le_refl nx)
      have hG2 := hG.of (hs' G (by obtain ⟨_, h, _⟩ := hG; omega)) (Nat.le_refl nx)
      clear hF hG hM hR hs'
      refine sx ?_
      repeat' (first
    | exact True.intro
    | refine VW.seq ?_
    | refine VW.block ?_
    | ((first | refine VW.skip ?_ | refine VW.exit ?_ | refine VW.reg ?_ | refine VW.regD ?_ | refine VW.ret ?_ | show goA _ _ _ _ _ _ _ _ _ _ | show goB _ _ _ _ _ _ _ _ _ | show goAD _ _ _ _ _ _ _ _ _ _ _ _ _ _ | show goBD _ _ _ _ _ _ _ _ _ _ _); refine sx ?_)
    | refine VW.condT cx ?_
    | refine VW.condF cx ?_
    | refine VW.cond ex ?_ ?_
    | refine imp_nt ?_
    | refine imp_nf ?_
    | refine imp_dt (fun _ => ?_)
    | refine imp_df (fun _ => ?_)
    | (refine fun (_ : _ = true) => ?_)
    | (refine fun (_ : _ = false) => ?_)
    | refine vg_t ?_ ?_
    | refine vg_f ?_ ?_)
      refine VC.smp hF2 hG2 hJ2 (by omega) (by omega) fun m'' hs'' => ?_
      clear hF2 hG2 hs''
      refine sx ?_
      repeat' (first
    | exact True.intro
    | refine VW.seq ?_
    | refine VW.block ?_
    | ((first | refine VW.skip ?_ | refine VW.exit ?_ | refine VW.reg ?_ | refine VW.regD ?_ | refine VW.ret ?_ | show goA _ _ _ _ _ _ _ _ _ _ | show goB _ _ _ _ _ _ _ _ _ | show goAD _ _ _ _ _ _ _ _ _ _ _ _ _ _ | show goBD _ _ _ _ _ _ _ _ _ _ _ | refine VC.p3 (vWriN _ _ _) rfl rfl rfl rfl rfl rfl ?_ | refine VC.p2 (vTstN _ _) rfl rfl rfl rfl ?_ | refine VC.p2 (vEndN _ _) rfl rfl rfl rfl ?_ | refine VC.p1 (vClkN _) rfl rfl ?_ | refine VC.p1 (vHigN _) rfl rfl ?_ | refine VC.p2 (vOpnN _ _) rfl rfl rfl rfl ?_ | refine VC.p2 (vWrsN _ _) rfl rfl rfl rfl ?_ | refine VC.p1 (vFrkN _) rfl rfl ?_); refine sx ?_)
    | refine VW.condT cx ?_
    | refine VW.condF cx ?_
    | refine VW.cond ex ?_ ?_
    | refine imp_nt ?_
    | refine imp_nf ?_
    | refine imp_dt (fun _ => ?_)
    | refine imp_df (fun _ => ?_)
    | (refine fun (_ : _ = true) => ?_)
    | (refine fun (_ : _ = false) => ?_)
    | refine vg_t ?_ ?_
    | refine vg_f ?_ ?_)
      exact .v exR exR
    · have hin' : ¬ (i : Int) < l2.length := by omega
      clear hi hn hin
      repeat' (first
    | exact True.intro
    | refine VW.seq ?_
    | refine VW.block ?_
    | ((first | refine VW.skip ?_ | refine VW.exit ?_ | refine VW.reg ?_ | refine VW.regD ?_ | refine VW.ret ?_ | show goA _ _ _ _ _ _ _ _ _ _ | show goB _ _ _ _ _ _ _ _ _ | show goAD _ _ _ _ _ _ _ _ _ _ _ _ _ _ | show goBD _ _ _ _ _ _ _ _ _ _ _ | refine VC.p2 (vTicN _ _) rfl rfl rfl rfl ?_ | refine VC.p2 (vBegN _ _) rfl rfl rfl rfl ?_ | refine VC.p2 (vComN _ _) rfl rfl rfl rfl ?_ | refine VC.p2 (vSinN _ _) rfl rfl rfl rfl ?_ | refine VC.p1 (vOldN _) rfl rfl ?_); refine sx ?_)
    | refine VW.condT cx ?_
    | refine VW.condF cx ?_
    | refine VW.cond ex ?_ ?_
    | refine imp_nt ?_
    | refine imp_nf ?_
    | refine imp_dt (fun _ => ?_)
    | refine imp_df (fun _ => ?_)
    | (refine fun (_ : _ = true) => ?_)
    | (refine fun (_ : _ = false) => ?_)
    | refine vg_t ?_ ?_
    | refine vg_f ?_ ?_)
      refine VC.smp hM hR hJ (by omega) (by omega) fun m' hs' => ?_
      have hF2 := hF.of (fun id hid => hs' id (by omega)) (Nat.le_refl nx)
      have hG2 := hG.of (hs' G (by obtain ⟨_, h, _⟩ := hG; omega)) (Nat.le_refl nx)
      clear hF hG hM hR hs'
      refine sx ?_
      repeat' (first
    | exact True.intro
    | refine VW.seq ?_
    | refine VW.block ?_
    | ((first | refine VW.skip ?_ | refine VW.exit ?_ | refine VW.reg ?_ | refine VW.regD ?_ | refine VW.ret ?_ | show goA _ _ _ _ _ _ _ _ _ _ | show goB _ _ _ _ _ _ _ _ _ | show goAD _ _ _ _ _ _ _ _ _ _ _ _ _ _ | show goBD _ _ _ _ _ _ _ _ _ _ _); refine sx ?_)
    | refine VW.condT cx ?_
    | refine VW.condF cx ?_
    | refine VW.cond ex ?_ ?_
    | refine imp_nt ?_
    | refine imp_nf ?_
    | refine imp_dt (fun _ => ?_)
    | refine imp_df (fun _ => ?_)
    | (refine fun (_ : _ = true) => ?_)
    | (refine fun (_ : _ = false) => ?_)
    | refine vg_t ?_ ?_
    | refine vg_f ?_ ?_)
      refine VC.smp hF2 hG2 hJ2 (by omega) (by omega) fun m'' hs'' => ?_
      clear hF2 hG2 hs''
      refine sx ?_
      repeat' (first
    | exact True.intro
    | refine VW.seq ?_
    | refine VW.block ?_
    | ((first | refine VW.skip ?_ | refine VW.exit ?_ | refine VW.reg ?_ | refine VW.regD ?_ | refine VW.ret ?_ | show goA _ _ _ _ _ _ _ _ _ _ | show goB _ _ _ _ _ _ _ _ _ | show goAD _ _ _ _ _ _ _ _ _ _ _ _ _ _ | show goBD _ _ _ _ _ _ _ _ _ _ _ | refine VC.p3 (vWriN _ _ _) rfl rfl rfl rfl rfl rfl ?_ | refine VC.p2 (vTstN _ _) rfl rfl rfl rfl ?_ | refine VC.p2 (vEndN _ _) rfl rfl rfl rfl ?_ | refine VC.p1 (vClkN _) rfl rfl ?_ | refine VC.p1 (vHigN _) rfl rfl ?_ | refine VC.p2 (vOpnN _ _) rfl rfl rfl rfl ?_ | refine VC.p2 (vWrsN _ _) rfl rfl rfl rfl ?_ | refine VC.p1 (vFrkN _) rfl rfl ?_); refine sx ?_)
    | refine VW.condT cx ?_
    | refine VW.condF cx ?_
    | refine VW.cond ex ?_ ?_
    | refine imp_nt ?_
    | refine imp_nf ?_
    | refine imp_dt (fun _ => ?_)
    | refine imp_df (fun _ => ?_)
    | (refine fun (_ : _ = true) => ?_)
    | (refine fun (_ : _ = false) => ?_)
    | refine vg_t ?_ ?_
    | refine vg_f ?_ ?_)
      exact .v exR exR
theorem v7 (z : Int) (l l2 : List Dd) (b : Nat) : V Try.prog 7 [iv z, .sl (dds l), .sl (dds l2)] mt b (.bool true) mt := V.code mixed k7 (by simp) (w7 z l l2 b)
end Go.Vx
