/- The engine, part 13: every operation that is turned does what is said. -/
import Derived.Test.YtgkkffhoflgpoaaVmc
set_option linter.unusedVariables false
set_option linter.unusedSimpArgs false
namespace Go.Vx
open Go Go.RowKit

section
variable {P : Program} {F : Fr} {β : Ids} {ok : Nat → Prop} {e : Nat → Option PV} {m : Mem} {a : Act} {w : World} {b : Nat} {o : Oper} {p : PV} {d : Delta}

theorem cA2_some {x y : Operand} {f : XA → XA → XI} {r : XI} (h : cA2 x y f = some r) : ∃ u v, cA x = some u ∧ cA y = some v ∧ r = f u v := by
  simp only [cA2, Option.bind_eq_some_iff, Option.map_eq_some_iff] at h
  obtain ⟨u, hu, v, hv, rfl⟩ := h
  exact ⟨u, v, hu, hv, rfl⟩

theorem isNilS_eq {x : Operand} (h : isNilS x = true) : x = .const (.slice none 0 0) := by
  unfold isNilS at h
  split at h
  · rfl
  · cases h

theorem mv_sound (hs : Sat0 F β ok e m a w) (hb : β b = none) {x : XI} {X : Operand} (ho : o.op = .move X ∨ o.op = .assign X) (hx : compMv P o.type X = some x) (h : vopF x e m b = some (p, d)) : OpOk P F β ok e m a w b o p d := by
  unfold compMv at hx
  split at hx
  · rename_i hn
    have := isNilS_eq hn
    subst this
    simp only [Option.map_eq_some_iff] at hx
    obtain ⟨q, hq, rfl⟩ := hx
    exact op_nilrow hs hb ho h
  · simp only [Option.map_eq_some_iff] at hx
    obtain ⟨y, hy, rfl⟩ := hx
    exact op_mv hs ho hy h

theorem toList_one {α : Type} {l : Array α} {x : α} (h : l.toList = [x]) : l = #[x] := by cases l; simp at h; simp [h]
theorem toList_two {α : Type} {l : Array α} {x y : α} (h : l.toList = [x, y]) : l = #[x, y] := by cases l; simp at h; simp [h]

theorem b_sound (hs : Sat0 F β ok e m a w) (hb : β b = none) {x : XI} {bi : Builtin} {args : Array Operand} {ts : Array TypeId} (ho : o.op = .call { callee := .builtin bi, args := args, argTypes := ts })
    (hx : compB P bi args.toList ts.toList = some x) (h : vopF x e m b = some (p, d)) : OpOk P F β ok e m a w b o p d := by
  generalize ha : args.toList = al at hx
  generalize ht : ts.toList = tl at hx
  unfold compB at hx
  split at hx
  · rw [toList_one ha, toList_one ht] at ho
    simp only [Option.bind_eq_some_iff] at hx
    obtain ⟨td, htd, hx⟩ := hx
    cases td <;> simp only [compLen, reduceCtorEq, Option.map_eq_some_iff] at hx
    · obtain ⟨y, hy, rfl⟩ := hx; exact op_lenT hs ho htd hy h
    · obtain ⟨y, hy, rfl⟩ := hx; exact op_lenS hs ho htd hy h
    · obtain ⟨y, hy, rfl⟩ := hx; exact op_lenM hs ho htd hy h
  · rw [toList_two ha] at ho
    obtain ⟨u, v, hu, hv, rfl⟩ := cA2_some hx
    exact op_max2 hs ho hu hv h
  · rw [toList_two ha] at ho
    obtain ⟨u, v, hu, hv, rfl⟩ := cA2_some hx
    exact op_min2 hs ho hu hv h
  · rw [toList_two ha, toList_two ht] at ho
    split at hx
    case isFalse => cases hx
    rename_i htu
    subst htu
    simp only [Option.bind_eq_some_iff] at hx
    obtain ⟨⟨T, k, by'⟩, hq, z, hz, hx⟩ := hx
    split at hx
    case isFalse => cases hx
    rename_i hzk
    obtain ⟨u, v, hu, hv, rfl⟩ := cA2_some hx
    exact op_append hs hb ho hq ⟨z, hz, hzk⟩ hu hv h
  · cases hx

theorem op_sound (hs : Sat0 F β ok e m a w) (hb : β b = none) {x : XI} (hx : comp P o = some x) (h : vopF x e m b = some (p, d)) : OpOk P F β ok e m a w b o p d := by
  unfold comp at hx
  split at hx <;> rename_i ho
  · exact mv_sound hs hb (.inl ho) hx h
  · exact mv_sound hs hb (.inr ho) hx h
  · simp only [Option.bind_eq_some_iff] at hx
    obtain ⟨c, hc, hx⟩ := hx
    obtain ⟨u, v, hu, hv, rfl⟩ := cA2_some hx
    exact op_pick hs ho hc hu hv h
  · simp only [Option.map_eq_some_iff] at hx
    obtain ⟨z, hz, rfl⟩ := hx
    exact op_alloc hs hb ho hz h
  · simp only [Option.bind_eq_some_iff, Option.map_eq_some_iff] at hx
    obtain ⟨k, hk, y, hy, rfl⟩ := hx
    exact op_box hs hb ho hy h
  · simp only [Option.bind_eq_some_iff] at hx
    obtain ⟨td, htd, hx⟩ := hx
    cases td <;> simp only [compBuild, reduceCtorEq, Option.bind_eq_some_iff, Option.map_eq_some_iff] at hx
    · obtain ⟨z, hz, k, hk, ps, hps, rfl⟩ := hx; exact op_buildA hs ho htd hz hk hps h
    · obtain ⟨z, hz, pls, hpls, ps, hps, rfl⟩ := hx; exact op_buildS hs ho htd hz (by simpa only [Option.map_eq_some_iff] using hpls) hps h
  · simp only [Option.bind_eq_some_iff] at hx
    obtain ⟨⟨T, k, by'⟩, hq, z, hz, hx⟩ := hx
    split at hx
    case isFalse => cases hx
    rename_i hle
    simp only [Option.map_eq_some_iff] at hx
    obtain ⟨ps, hps, rfl⟩ := hx
    exact op_mkrow hs hb ho hq hz hle hps h
  · simp only [Option.bind_eq_some_iff] at hx
    obtain ⟨y, hy, g, hg, hx⟩ := hx
    cases g
    · simp at hx; subst hx; exact op_load1 hs ho hg hy h
    · simp at hx; obtain ⟨n, hn, rfl⟩ := hx; exact op_loadn hs ho hg hn hy h
  · simp only [Option.bind_eq_some_iff] at hx
    obtain ⟨n, hn, hx⟩ := hx
    obtain ⟨u, v, hu, hv, rfl⟩ := cA2_some hx
    exact op_store hs ho hn hu hv h
  · simp only [Option.map_eq_some_iff] at hx
    obtain ⟨y, hy, rfl⟩ := hx
    exact op_nilck hs ho hy h
  · simp only [Option.bind_eq_some_iff] at hx
    obtain ⟨td, htd, hx⟩ := hx
    cases td <;> simp only [compFieldA, reduceCtorEq, Option.bind_eq_some_iff] at hx
    obtain ⟨f, hf, k, hk, hx⟩ := hx
    split at hx
    case isTrue => cases hx
    rename_i hk0
    simp only [Option.map_eq_some_iff] at hx
    obtain ⟨y, hy, rfl⟩ := hx
    exact op_fieldA hs ho htd hf hk hk0 hy h
  · simp only [Option.bind_eq_some_iff] at hx
    obtain ⟨td, htd, hx⟩ := hx
    cases td <;> simp only [compIndexA, reduceCtorEq, Option.bind_eq_some_iff] at hx
    · obtain ⟨k, hk, hx⟩ := hx
      split at hx
      case isTrue => cases hx
      obtain ⟨u, v, hu, hv, rfl⟩ := cA2_some hx
      exact op_indexS hs ho htd hk hu hv h
    · obtain ⟨k, hk, hx⟩ := hx
      split at hx
      case isTrue => cases hx
      obtain ⟨u, v, hu, hv, rfl⟩ := cA2_some hx
      exact op_indexA hs ho htd hk hu hv h
  · simp only [Option.bind_eq_some_iff] at hx
    obtain ⟨td, htd, hx⟩ := hx
    cases td <;> simp only [compField, reduceCtorEq, Option.bind_eq_some_iff] at hx
    obtain ⟨f, hf, y, hy, g, hg, hx⟩ := hx
    cases g
    · simp at hx; subst hx; exact op_field1 hs ho htd hf hg hy h
    · simp at hx; obtain ⟨n, hn, rfl⟩ := hx; exact op_fieldn hs ho htd hf hg hn hy h
  · simp only [Option.bind_eq_some_iff] at hx
    obtain ⟨td, htd, hx⟩ := hx
    cases td <;> simp only [compIndex, reduceCtorEq, Option.bind_eq_some_iff] at hx
    case string =>
      obtain ⟨u, v, hu, hv, rfl⟩ := cA2_some hx
      exact op_indexT hs ho htd hu hv h
    case array =>
      obtain ⟨k, hk, gg, hgg, hx⟩ := hx
      obtain ⟨u, v, hu, hv, rfl⟩ := cA2_some hx
      exact op_indexV hs ho htd hk hgg hu hv h
  · rename_i op t X Y u
    simp only [Option.bind_eq_some_iff] at hx
    obtain ⟨td, htd, hx⟩ := hx
    cases td <;> simp only [compBin, reduceCtorEq] at hx
    case map =>
      split at hx
      · rename_i hop; subst hop
        obtain ⟨u, v, hu, hv, rfl⟩ := cA2_some hx
        exact op_eqm (neg := false) hs (by simpa using ho) htd hu hv h
      · split at hx
        case isFalse => cases hx
        rename_i hop; subst hop
        obtain ⟨u, v, hu, hv, rfl⟩ := cA2_some hx
        exact op_eqm (neg := true) hs (by simpa using ho) htd hu hv h
    · split at hx
      · rename_i hop; subst hop
        obtain ⟨u, v, hu, hv, rfl⟩ := cA2_some hx
        exact op_eqb (neg := false) hs (by simpa using ho) htd hu hv h
      · split at hx
        case isFalse => cases hx
        rename_i hop; subst hop
        obtain ⟨u, v, hu, hv, rfl⟩ := cA2_some hx
        exact op_eqb (neg := true) hs (by simpa using ho) htd hu hv h
    · obtain ⟨u, v, hu, hv, rfl⟩ := cA2_some hx
      exact op_bin hs ho hu hv h
    · obtain ⟨u, v, hu, hv, rfl⟩ := cA2_some hx
      exact op_bin hs ho hu hv h
    · split at hx
      · rename_i hop; subst hop
        obtain ⟨u, v, hu, hv, rfl⟩ := cA2_some hx
        exact op_eqp (neg := false) hs (by simpa using ho) htd hu hv h
      · split at hx
        case isFalse => cases hx
        rename_i hop; subst hop
        obtain ⟨u, v, hu, hv, rfl⟩ := cA2_some hx
        exact op_eqp (neg := true) hs (by simpa using ho) htd hu hv h
    · simp only [Option.bind_eq_some_iff] at hx
      obtain ⟨ks, hks, hx⟩ := hx
      split at hx
      · rename_i hop; subst hop
        obtain ⟨u, v, hu, hv, rfl⟩ := cA2_some hx
        exact op_eqs (neg := false) hs (by simpa using ho) htd hks hu hv h
      · split at hx
        case isFalse => cases hx
        rename_i hop; subst hop
        obtain ⟨u, v, hu, hv, rfl⟩ := cA2_some hx
        exact op_eqs (neg := true) hs (by simpa using ho) htd hks hu hv h
  · rename_i op t X
    cases op <;> simp only [compUn, reduceCtorEq, Option.map_eq_some_iff] at hx
    · obtain ⟨y, hy, rfl⟩ := hx; exact op_neg hs ho hy h
    · obtain ⟨y, hy, rfl⟩ := hx; exact op_not hs ho hy h
  · simp only [Option.bind_eq_some_iff] at hx
    obtain ⟨td, htd, td', htd', hx⟩ := hx
    unfold compConv at hx
    split at hx
    case h_2 => cases hx
    simp only [Option.map_eq_some_iff] at hx
    obtain ⟨y, hy, rfl⟩ := hx
    exact op_conv hs ho htd htd' hy h
  · rename_i t X lo hi mx
    split at hx
    case isFalse =>
      simp only [Option.bind_eq_some_iff] at hx
      obtain ⟨td, htd, hx⟩ := hx
      cases td <;> simp only [compSlice3, reduceCtorEq, Option.bind_eq_some_iff] at hx
      obtain ⟨k, hk, hx⟩ := hx
      split at hx
      case isTrue => cases hx
      split at hx
      case h_2 => cases hx
      split at hx
      case isFalse => cases hx
      rename_i hz
      simp only [Bool.and_eq_true] at hz
      simp only [Option.map_eq_some_iff] at hx
      obtain ⟨y, hy, rfl⟩ := hx
      exact op_slice0 hs hb ho htd hk hz.1 hz.2 hy h
    rename_i hmx
    have : mx = none := by simpa using hmx
    subst this
    simp only [Option.bind_eq_some_iff] at hx
    obtain ⟨td, htd, hx⟩ := hx
    cases td <;> simp only [compSlice, reduceCtorEq, Option.bind_eq_some_iff, Option.map_eq_some_iff] at hx
    · obtain ⟨y, hy, l, hl, hh, hhh, rfl⟩ := hx; exact op_sliceT hs ho htd hy hl hhh h
    · obtain ⟨k, hk, hx⟩ := hx
      split at hx
      case isTrue => cases hx
      simp only [Option.bind_eq_some_iff, Option.map_eq_some_iff] at hx
      obtain ⟨y, hy, l, hl, hh, hhh, rfl⟩ := hx
      exact op_sliceS hs ho htd hk hy hl hhh h
  · simp only [Option.bind_eq_some_iff] at hx
    obtain ⟨⟨T, k, by'⟩, hq, z, hz, hx⟩ := hx
    obtain ⟨u, v, hu, hv, rfl⟩ := cA2_some hx
    exact op_mkslice hs hb ho hq hz hu hv h
  · rename_i t r
    split at hx
    case isFalse => cases hx
    rename_i hr
    have : r = none := by simpa using hr
    subst this
    injection hx with hx; subst hx
    exact op_mkmap hs hb ho h
  · simp only [Option.bind_eq_some_iff] at hx
    obtain ⟨td, htd, hx⟩ := hx
    obtain ⟨key, elem, g, ks, z, rfl, h1, h2, hx⟩ := keyKs_of hx
    obtain ⟨u, v, hu, hv, rfl⟩ := cA2_some hx
    exact op_lookup hs ho htd h1 h2 hu hv h
  · simp only [Option.bind_eq_some_iff] at hx
    obtain ⟨td, htd, hx⟩ := hx
    obtain ⟨key, elem, g, ks, z, rfl, h1, h2, hx⟩ := keyKs_of hx
    simp only [Option.bind_eq_some_iff] at hx
    obtain ⟨y, hy, hx⟩ := hx
    obtain ⟨u, v, hu, hv, rfl⟩ := cA2_some hx
    exact op_mapUpd hs (.inl ho) htd h1 hu hv hy h
  · simp only [Option.bind_eq_some_iff] at hx
    obtain ⟨td, htd, hx⟩ := hx
    obtain ⟨key, elem, g, ks, z, rfl, h1, h2, hx⟩ := keyKs_of hx
    simp only [Option.bind_eq_some_iff] at hx
    obtain ⟨y, hy, hx⟩ := hx
    obtain ⟨u, v, hu, hv, rfl⟩ := cA2_some hx
    exact op_mapUpd hs (.inr ho) htd h1 hu hv hy h
  · simp only [Option.bind_eq_some_iff] at hx
    obtain ⟨td, htd, hx⟩ := hx
    obtain ⟨key, elem, g, ks, z, rfl, h1, h2, hx⟩ := keyKs_of hx
    obtain ⟨u, v, hu, hv, rfl⟩ := cA2_some hx
    exact op_mapEnt hs ho htd h1 h2 hu hv h
  · simp only [Option.bind_eq_some_iff] at hx
    obtain ⟨y, hy, hx⟩ := hx
    obtain ⟨u, v, hu, hv, rfl⟩ := cA2_some hx
    exact op_entSto hs ho hu hv hy h
  · simp only [Option.bind_eq_some_iff] at hx
    obtain ⟨td, htd, hx⟩ := hx
    cases td <;> simp only [Bool.false_eq_true, if_false, reduceCtorEq, if_true, Option.map_eq_some_iff] at hx
    obtain ⟨y, hy, rfl⟩ := hx
    exact op_range hs hb ho htd hy h
  · simp only [Option.map_eq_some_iff] at hx
    obtain ⟨y, hy, rfl⟩ := hx
    exact op_entry hs ho hy h
  · simp only [Option.map_eq_some_iff] at hx
    obtain ⟨y, hy, rfl⟩ := hx
    exact op_ext hs ho hy h
  · rename_i fn first caps
    cases fn <;> simp only [compFn, reduceCtorEq] at hx
    split at hx
    case isFalse => cases hx
    rename_i hf
    have : first = #[] := by simpa using hf
    subst this
    simp only [Option.map_eq_some_iff] at hx
    obtain ⟨cs, hcs, rfl⟩ := hx
    exact op_mkfn hs ho hcs h
  · rename_i c
    obtain ⟨callee, args, ts⟩ := c
    unfold compCall at hx
    cases callee with
    | builtin bi => exact b_sound hs hb ho hx h
    | invoke => simp at hx
    | value f =>
      cases f <;> simp only [reduceCtorEq, Option.map_eq_some_iff] at hx
      · obtain ⟨xs, _, rfl⟩ := hx; simp [vopF] at h
      · obtain ⟨xs, _, rfl⟩ := hx; simp [vopF] at h
  · cases hx

end
end Go.Vx
