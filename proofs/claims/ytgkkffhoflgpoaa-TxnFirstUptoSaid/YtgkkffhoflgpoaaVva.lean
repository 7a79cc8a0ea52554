/- The engine, part 23: what is below a number; new numbers: words for simp. Printed by a program (gen_lt.py). -/
import Derived.Test.YtgkkffhoflgpoaaVv
set_option linter.unusedVariables false
namespace Go.Vx
open Go Go.RowKit

theorem Plt_bool {b : Nat} (x : Bool) : PV.lt b (.bool x) = true := rfl
theorem lt1_bool {b : Nat} (x : Bool) : lt1 b (.bool x) = true := rfl
theorem ltA_bool {b : Nat} (x : Bool) : ltA b (.bool x) = true := rfl
theorem ltT_bool {b : Nat} (x : Bool) : ltT b (.bool x) = true := rfl
theorem ren1_bool {σ : Nat → Nat} (x : Bool) : ren1 σ (.bool x) = (.bool x) := rfl
theorem renA_bool {σ : Nat → Nat} (x : Bool) : renA σ (.bool x) = (.bool x) := rfl
theorem Pren_bool {σ : Nat → Nat} (x : Bool) : PV.ren σ (.bool x) = (.bool x) := rfl
theorem nt_bool (x : Bool) : PV.nt (.bool x) = true := rfl
theorem one_bool (x : Bool) : PV.one (.bool x) = true := rfl
theorem Plt_int {b : Nat} (k : IntKind) (n : Int) : PV.lt b (.int k n) = true := rfl
theorem lt1_int {b : Nat} (k : IntKind) (n : Int) : lt1 b (.int k n) = true := rfl
theorem ltA_int {b : Nat} (k : IntKind) (n : Int) : ltA b (.int k n) = true := rfl
theorem ltT_int {b : Nat} (k : IntKind) (n : Int) : ltT b (.int k n) = true := rfl
theorem ren1_int {σ : Nat → Nat} (k : IntKind) (n : Int) : ren1 σ (.int k n) = (.int k n) := rfl
theorem renA_int {σ : Nat → Nat} (k : IntKind) (n : Int) : renA σ (.int k n) = (.int k n) := rfl
theorem Pren_int {σ : Nat → Nat} (k : IntKind) (n : Int) : PV.ren σ (.int k n) = (.int k n) := rfl
theorem nt_int (k : IntKind) (n : Int) : PV.nt (.int k n) = true := rfl
theorem one_int (k : IntKind) (n : Int) : PV.one (.int k n) = true := rfl
theorem Plt_str {b : Nat} (s : List UInt8) : PV.lt b (.str s) = true := rfl
theorem lt1_str {b : Nat} (s : List UInt8) : lt1 b (.str s) = true := rfl
theorem ltA_str {b : Nat} (s : List UInt8) : ltA b (.str s) = true := rfl
theorem ltT_str {b : Nat} (s : List UInt8) : ltT b (.str s) = true := rfl
theorem ren1_str {σ : Nat → Nat} (s : List UInt8) : ren1 σ (.str s) = (.str s) := rfl
theorem renA_str {σ : Nat → Nat} (s : List UInt8) : renA σ (.str s) = (.str s) := rfl
theorem Pren_str {σ : Nat → Nat} (s : List UInt8) : PV.ren σ (.str s) = (.str s) := rfl
theorem nt_str (s : List UInt8) : PV.nt (.str s) = true := rfl
theorem one_str (s : List UInt8) : PV.one (.str s) = true := rfl
theorem Plt_nilp {b : Nat}  : PV.lt b .nilp = true := rfl
theorem lt1_nilp {b : Nat}  : lt1 b .nilp = true := rfl
theorem ltA_nilp {b : Nat}  : ltA b .nilp = true := rfl
theorem ltT_nilp {b : Nat}  : ltT b .nilp = true := rfl
theorem ren1_nilp {σ : Nat → Nat}  : ren1 σ .nilp = .nilp := rfl
theorem renA_nilp {σ : Nat → Nat}  : renA σ .nilp = .nilp := rfl
theorem Pren_nilp {σ : Nat → Nat}  : PV.ren σ .nilp = .nilp := rfl
theorem nt_nilp  : PV.nt .nilp = true := rfl
theorem one_nilp  : PV.one .nilp = true := rfl
theorem Plt_nilm {b : Nat}  : PV.lt b .nilm = true := rfl
theorem lt1_nilm {b : Nat}  : lt1 b .nilm = true := rfl
theorem ltA_nilm {b : Nat}  : ltA b .nilm = true := rfl
theorem ltT_nilm {b : Nat}  : ltT b .nilm = true := rfl
theorem ren1_nilm {σ : Nat → Nat}  : ren1 σ .nilm = .nilm := rfl
theorem renA_nilm {σ : Nat → Nat}  : renA σ .nilm = .nilm := rfl
theorem Pren_nilm {σ : Nat → Nat}  : PV.ren σ .nilm = .nilm := rfl
theorem nt_nilm  : PV.nt .nilm = true := rfl
theorem one_nilm  : PV.one .nilm = true := rfl
theorem Plt_nilf {b : Nat}  : PV.lt b .nilf = true := rfl
theorem lt1_nilf {b : Nat}  : lt1 b .nilf = true := rfl
theorem ltA_nilf {b : Nat}  : ltA b .nilf = true := rfl
theorem ltT_nilf {b : Nat}  : ltT b .nilf = true := rfl
theorem ren1_nilf {σ : Nat → Nat}  : ren1 σ .nilf = .nilf := rfl
theorem renA_nilf {σ : Nat → Nat}  : renA σ .nilf = .nilf := rfl
theorem Pren_nilf {σ : Nat → Nat}  : PV.ren σ .nilf = .nilf := rfl
theorem nt_nilf  : PV.nt .nilf = true := rfl
theorem one_nilf  : PV.one .nilf = true := rfl
theorem Plt_ptr {b : Nat} (i k j l : Nat) : PV.lt b (.ptr i k j l) = decide (i < b) := rfl
theorem lt1_ptr {b : Nat} (i k j l : Nat) : lt1 b (.ptr i k j l) = decide (i < b) := rfl
theorem ltA_ptr {b : Nat} (i k j l : Nat) : ltA b (.ptr i k j l) = decide (i < b) := rfl
theorem ltT_ptr {b : Nat} (i k j l : Nat) : ltT b (.ptr i k j l) = decide (i < b) := rfl
theorem ren1_ptr {σ : Nat → Nat} (i k j l : Nat) : ren1 σ (.ptr i k j l) = (.ptr (σ i) k j l) := rfl
theorem renA_ptr {σ : Nat → Nat} (i k j l : Nat) : renA σ (.ptr i k j l) = (.ptr (σ i) k j l) := rfl
theorem Pren_ptr {σ : Nat → Nat} (i k j l : Nat) : PV.ren σ (.ptr i k j l) = (.ptr (σ i) k j l) := rfl
theorem nt_ptr (i k j l : Nat) : PV.nt (.ptr i k j l) = true := rfl
theorem one_ptr (i k j l : Nat) : PV.one (.ptr i k j l) = true := rfl
theorem Plt_cptr {b : Nat} (cs : List PV) : PV.lt b (.cptr cs) = true := rfl
theorem lt1_cptr {b : Nat} (cs : List PV) : lt1 b (.cptr cs) = true := rfl
theorem ltA_cptr {b : Nat} (cs : List PV) : ltA b (.cptr cs) = true := rfl
theorem ltT_cptr {b : Nat} (cs : List PV) : ltT b (.cptr cs) = true := rfl
theorem ren1_cptr {σ : Nat → Nat} (cs : List PV) : ren1 σ (.cptr cs) = (.cptr cs) := rfl
theorem renA_cptr {σ : Nat → Nat} (cs : List PV) : renA σ (.cptr cs) = (.cptr cs) := rfl
theorem Pren_cptr {σ : Nat → Nat} (cs : List PV) : PV.ren σ (.cptr cs) = (.cptr cs) := rfl
theorem nt_cptr (cs : List PV) : PV.nt (.cptr cs) = true := rfl
theorem one_cptr (cs : List PV) : PV.one (.cptr cs) = true := rfl
theorem Plt_sl {b : Nat} (xs : List (List PV)) : PV.lt b (.sl xs) = true := rfl
theorem lt1_sl {b : Nat} (xs : List (List PV)) : lt1 b (.sl xs) = true := rfl
theorem ltA_sl {b : Nat} (xs : List (List PV)) : ltA b (.sl xs) = true := rfl
theorem ltT_sl {b : Nat} (xs : List (List PV)) : ltT b (.sl xs) = true := rfl
theorem ren1_sl {σ : Nat → Nat} (xs : List (List PV)) : ren1 σ (.sl xs) = (.sl xs) := rfl
theorem renA_sl {σ : Nat → Nat} (xs : List (List PV)) : renA σ (.sl xs) = (.sl xs) := rfl
theorem Pren_sl {σ : Nat → Nat} (xs : List (List PV)) : PV.ren σ (.sl xs) = (.sl xs) := rfl
theorem nt_sl (xs : List (List PV)) : PV.nt (.sl xs) = true := rfl
theorem one_sl (xs : List (List PV)) : PV.one (.sl xs) = true := rfl
theorem Plt_osl {b : Nat} (i n : Nat) : PV.lt b (.osl i n) = decide (i < b) := rfl
theorem lt1_osl {b : Nat} (i n : Nat) : lt1 b (.osl i n) = decide (i < b) := rfl
theorem ltA_osl {b : Nat} (i n : Nat) : ltA b (.osl i n) = decide (i < b) := rfl
theorem ltT_osl {b : Nat} (i n : Nat) : ltT b (.osl i n) = decide (i < b) := rfl
theorem ren1_osl {σ : Nat → Nat} (i n : Nat) : ren1 σ (.osl i n) = (.osl (σ i) n) := rfl
theorem renA_osl {σ : Nat → Nat} (i n : Nat) : renA σ (.osl i n) = (.osl (σ i) n) := rfl
theorem Pren_osl {σ : Nat → Nat} (i n : Nat) : PV.ren σ (.osl i n) = (.osl (σ i) n) := rfl
theorem nt_osl (i n : Nat) : PV.nt (.osl i n) = true := rfl
theorem one_osl (i n : Nat) : PV.one (.osl i n) = true := rfl
theorem Plt_map {b : Nat} (i : Nat) : PV.lt b (.map i) = decide (i < b) := rfl
theorem lt1_map {b : Nat} (i : Nat) : lt1 b (.map i) = decide (i < b) := rfl
theorem ltA_map {b : Nat} (i : Nat) : ltA b (.map i) = decide (i < b) := rfl
theorem ltT_map {b : Nat} (i : Nat) : ltT b (.map i) = decide (i < b) := rfl
theorem ren1_map {σ : Nat → Nat} (i : Nat) : ren1 σ (.map i) = (.map (σ i)) := rfl
theorem renA_map {σ : Nat → Nat} (i : Nat) : renA σ (.map i) = (.map (σ i)) := rfl
theorem Pren_map {σ : Nat → Nat} (i : Nat) : PV.ren σ (.map i) = (.map (σ i)) := rfl
theorem nt_map (i : Nat) : PV.nt (.map i) = true := rfl
theorem one_map (i : Nat) : PV.one (.map i) = true := rfl
theorem Plt_yld {b : Nat} (i : Nat) : PV.lt b (.yld i) = decide (i < b) := rfl
theorem lt1_yld {b : Nat} (i : Nat) : lt1 b (.yld i) = decide (i < b) := rfl
theorem ltA_yld {b : Nat} (i : Nat) : ltA b (.yld i) = decide (i < b) := rfl
theorem ltT_yld {b : Nat} (i : Nat) : ltT b (.yld i) = decide (i < b) := rfl
theorem ren1_yld {σ : Nat → Nat} (i : Nat) : ren1 σ (.yld i) = (.yld (σ i)) := rfl
theorem renA_yld {σ : Nat → Nat} (i : Nat) : renA σ (.yld i) = (.yld (σ i)) := rfl
theorem Pren_yld {σ : Nat → Nat} (i : Nat) : PV.ren σ (.yld i) = (.yld (σ i)) := rfl
theorem nt_yld (i : Nat) : PV.nt (.yld i) = true := rfl
theorem one_yld (i : Nat) : PV.one (.yld i) = true := rfl
theorem Plt_nsl {b : Nat}  : PV.lt b .nsl = true := rfl
theorem lt1_nsl {b : Nat}  : lt1 b .nsl = true := rfl
theorem ltA_nsl {b : Nat}  : ltA b .nsl = true := rfl
theorem ltT_nsl {b : Nat}  : ltT b .nsl = true := rfl
theorem ren1_nsl {σ : Nat → Nat}  : ren1 σ .nsl = .nsl := rfl
theorem renA_nsl {σ : Nat → Nat}  : renA σ .nsl = .nsl := rfl
theorem Pren_nsl {σ : Nat → Nat}  : PV.ren σ .nsl = .nsl := rfl
theorem nt_nsl  : PV.nt .nsl = true := rfl
theorem one_nsl  : PV.one .nsl = true := rfl
theorem Plt_agg {b : Nat} (cs : List PV) : PV.lt b (.agg cs) = cs.all (lt1 b) := rfl
theorem ltA_agg {b : Nat} (cs : List PV) : ltA b (.agg cs) = cs.all (lt1 b) := rfl
theorem ltT_agg {b : Nat} (cs : List PV) : ltT b (.agg cs) = cs.all (lt1 b) := rfl
theorem renA_agg {σ : Nat → Nat} (cs : List PV) : renA σ (.agg cs) = (.agg (cs.map (ren1 σ))) := rfl
theorem Pren_agg {σ : Nat → Nat} (cs : List PV) : PV.ren σ (.agg cs) = (.agg (cs.map (ren1 σ))) := rfl
theorem Plt_fn {b : Nat} (f : Nat) (cs : List PV) : PV.lt b (.fn f cs) = cs.all (lt1 b) := rfl
theorem ltA_fn {b : Nat} (f : Nat) (cs : List PV) : ltA b (.fn f cs) = cs.all (lt1 b) := rfl
theorem ltT_fn {b : Nat} (f : Nat) (cs : List PV) : ltT b (.fn f cs) = cs.all (lt1 b) := rfl
theorem renA_fn {σ : Nat → Nat} (f : Nat) (cs : List PV) : renA σ (.fn f cs) = (.fn f (cs.map (ren1 σ))) := rfl
theorem Pren_fn {σ : Nat → Nat} (f : Nat) (cs : List PV) : PV.ren σ (.fn f cs) = (.fn f (cs.map (ren1 σ))) := rfl
theorem lt1_fn {b : Nat} (f : Nat) (cs : List PV) : lt1 b (.fn f cs) = cs.isEmpty := rfl
theorem ltT_tup {b : Nat} (cs : List PV) : ltT b (.tup cs) = cs.all (ltA b) := rfl
theorem Plt_tup {b : Nat} (cs : List PV) : PV.lt b (.tup cs) = cs.all (lt1 b) := rfl
theorem Pren_tup {σ : Nat → Nat} (cs : List PV) : PV.ren σ (.tup cs) = .tup (cs.map (renA σ)) := rfl
theorem olt_row {b : Nat} {k : Nat} {xs : List (List PV)} {T : Nat} {fz : Bool} : Obj.lt b (.row k xs T fz) = true := rfl
theorem ofix_row {b : Nat} {k : Nat} {xs : List (List PV)} {T : Nat} {fz : Bool} : Obj.fix b (.row k xs T fz) = true := rfl
theorem oren_row {σ : Nat → Nat} {k : Nat} {xs : List (List PV)} {T : Nat} {fz : Bool} : Obj.ren σ (.row k xs T fz) = (.row k xs T fz) := rfl
theorem olt_box {b : Nat} {cs : List PV} {T : Nat} : Obj.lt b (.box cs T) = cs.all (PV.lt b) := rfl
theorem ofix_box {b : Nat} {cs : List PV} {T : Nat} : Obj.fix b (.box cs T) = true := rfl
theorem oren_box {σ : Nat → Nat} {cs : List PV} {T : Nat} : Obj.ren σ (.box cs T) = (.box (cs.map (renA σ)) T) := rfl
theorem olt_map {b : Nat} {es : List (PV × PV)} : Obj.lt b (.map es) = (es.all fun e => e.2.lt b) := rfl
theorem ofix_map {b : Nat} {es : List (PV × PV)} : Obj.fix b (.map es) = (es.all fun e => match e.2 with | .tup _ => false | _ => true) := rfl
theorem oren_map {σ : Nat → Nat} {es : List (PV × PV)} : Obj.ren σ (.map es) = (.map (es.map fun e => (e.1, renA σ e.2))) := rfl
theorem olt_loop {b : Nat} {k : LoopKey} {st : LoopState} {pd : Option (Option Nat)} : Obj.lt b (.loop k st pd) = decide (k.top ≤ b) := rfl
theorem ofix_loop {b : Nat} {k : LoopKey} {st : LoopState} {pd : Option (Option Nat)} : Obj.fix b (.loop k st pd) = decide (k.top ≤ b) := rfl
theorem oren_loop {σ : Nat → Nat} {k : LoopKey} {st : LoopState} {pd : Option (Option Nat)} : Obj.ren σ (.loop k st pd) = (.loop k st pd) := rfl

theorem ltS : type_of% (And.intro (And.intro (And.intro (And.intro (And.intro (And.intro @Plt_bool @lt1_bool) (And.intro @ltA_bool (And.intro @ltT_bool @nt_bool))) (And.intro (And.intro @one_bool (And.intro @Plt_int @lt1_int)) (And.intro @ltA_int (And.intro @ltT_int @nt_int)))) (And.intro (And.intro (And.intro @one_int (And.intro @Plt_str @lt1_str)) (And.intro @ltA_str (And.intro @ltT_str @nt_str))) (And.intro (And.intro @one_str (And.intro @Plt_nilp @lt1_nilp)) (And.intro @ltA_nilp (And.intro @ltT_nilp @nt_nilp))))) (And.intro (And.intro (And.intro (And.intro @one_nilp (And.intro @Plt_nilm @lt1_nilm)) (And.intro @ltA_nilm (And.intro @ltT_nilm @nt_nilm))) (And.intro (And.intro @one_nilm (And.intro @Plt_nilf @lt1_nilf)) (And.intro @ltA_nilf (And.intro @ltT_nilf @nt_nilf)))) (And.intro (And.intro (And.intro @one_nilf (And.intro @Plt_ptr @lt1_ptr)) (And.intro @ltA_ptr (And.intro @ltT_ptr @nt_ptr))) (And.intro (And.intro @one_ptr (And.intro @Plt_cptr @lt1_cptr)) (And.intro @ltA_cptr (And.intro @ltT_cptr @nt_cptr)))))) (And.intro (And.intro (And.intro (And.intro (And.intro @one_cptr (And.intro @Plt_sl @lt1_sl)) (And.intro @ltA_sl (And.intro @ltT_sl @nt_sl))) (And.intro (And.intro @one_sl (And.intro @Plt_osl @lt1_osl)) (And.intro @ltA_osl (And.intro @ltT_osl @nt_osl)))) (And.intro (And.intro (And.intro @one_osl (And.intro @Plt_map @lt1_map)) (And.intro @ltA_map (And.intro @ltT_map @nt_map))) (And.intro (And.intro @one_map (And.intro @Plt_yld @lt1_yld)) (And.intro @ltA_yld (And.intro @ltT_yld @nt_yld))))) (And.intro (And.intro (And.intro (And.intro @one_yld (And.intro @Plt_nsl @lt1_nsl)) (And.intro @ltA_nsl (And.intro @ltT_nsl @nt_nsl))) (And.intro (And.intro @one_nsl (And.intro @Plt_agg @ltA_agg)) (And.intro @ltT_agg (And.intro @Plt_fn @ltA_fn)))) (And.intro (And.intro (And.intro @ltT_fn (And.intro @lt1_fn @ltT_tup)) (And.intro @Plt_tup (And.intro @olt_row @ofix_row))) (And.intro (And.intro @olt_box (And.intro @ofix_box @olt_map)) (And.intro @ofix_map (And.intro @olt_loop @ofix_loop))))))) := (And.intro (And.intro (And.intro (And.intro (And.intro (And.intro @Plt_bool @lt1_bool) (And.intro @ltA_bool (And.intro @ltT_bool @nt_bool))) (And.intro (And.intro @one_bool (And.intro @Plt_int @lt1_int)) (And.intro @ltA_int (And.intro @ltT_int @nt_int)))) (And.intro (And.intro (And.intro @one_int (And.intro @Plt_str @lt1_str)) (And.intro @ltA_str (And.intro @ltT_str @nt_str))) (And.intro (And.intro @one_str (And.intro @Plt_nilp @lt1_nilp)) (And.intro @ltA_nilp (And.intro @ltT_nilp @nt_nilp))))) (And.intro (And.intro (And.intro (And.intro @one_nilp (And.intro @Plt_nilm @lt1_nilm)) (And.intro @ltA_nilm (And.intro @ltT_nilm @nt_nilm))) (And.intro (And.intro @one_nilm (And.intro @Plt_nilf @lt1_nilf)) (And.intro @ltA_nilf (And.intro @ltT_nilf @nt_nilf)))) (And.intro (And.intro (And.intro @one_nilf (And.intro @Plt_ptr @lt1_ptr)) (And.intro @ltA_ptr (And.intro @ltT_ptr @nt_ptr))) (And.intro (And.intro @one_ptr (And.intro @Plt_cptr @lt1_cptr)) (And.intro @ltA_cptr (And.intro @ltT_cptr @nt_cptr)))))) (And.intro (And.intro (And.intro (And.intro (And.intro @one_cptr (And.intro @Plt_sl @lt1_sl)) (And.intro @ltA_sl (And.intro @ltT_sl @nt_sl))) (And.intro (And.intro @one_sl (And.intro @Plt_osl @lt1_osl)) (And.intro @ltA_osl (And.intro @ltT_osl @nt_osl)))) (And.intro (And.intro (And.intro @one_osl (And.intro @Plt_map @lt1_map)) (And.intro @ltA_map (And.intro @ltT_map @nt_map))) (And.intro (And.intro @one_map (And.intro @Plt_yld @lt1_yld)) (And.intro @ltA_yld (And.intro @ltT_yld @nt_yld))))) (And.intro (And.intro (And.intro (And.intro @one_yld (And.intro @Plt_nsl @lt1_nsl)) (And.intro @ltA_nsl (And.intro @ltT_nsl @nt_nsl))) (And.intro (And.intro @one_nsl (And.intro @Plt_agg @ltA_agg)) (And.intro @ltT_agg (And.intro @Plt_fn @ltA_fn)))) (And.intro (And.intro (And.intro @ltT_fn (And.intro @lt1_fn @ltT_tup)) (And.intro @Plt_tup (And.intro @olt_row @ofix_row))) (And.intro (And.intro @olt_box (And.intro @ofix_box @olt_map)) (And.intro @ofix_map (And.intro @olt_loop @ofix_loop)))))))
theorem renS : type_of% (And.intro (And.intro (And.intro (And.intro (And.intro @ren1_bool (And.intro @renA_bool @Pren_bool)) (And.intro @ren1_int (And.intro @renA_int @Pren_int))) (And.intro (And.intro @ren1_str (And.intro @renA_str @Pren_str)) (And.intro @ren1_nilp (And.intro @renA_nilp @Pren_nilp)))) (And.intro (And.intro (And.intro @ren1_nilm (And.intro @renA_nilm @Pren_nilm)) (And.intro @ren1_nilf (And.intro @renA_nilf @Pren_nilf))) (And.intro (And.intro @ren1_ptr (And.intro @renA_ptr @Pren_ptr)) (And.intro @ren1_cptr (And.intro @renA_cptr @Pren_cptr))))) (And.intro (And.intro (And.intro (And.intro @ren1_sl (And.intro @renA_sl @Pren_sl)) (And.intro @ren1_osl (And.intro @renA_osl @Pren_osl))) (And.intro (And.intro @ren1_map (And.intro @renA_map @Pren_map)) (And.intro @ren1_yld (And.intro @renA_yld @Pren_yld)))) (And.intro (And.intro (And.intro @ren1_nsl (And.intro @renA_nsl @Pren_nsl)) (And.intro @renA_agg (And.intro @Pren_agg @renA_fn))) (And.intro (And.intro @Pren_fn (And.intro @Pren_tup @oren_row)) (And.intro @oren_box (And.intro @oren_map @oren_loop)))))) := (And.intro (And.intro (And.intro (And.intro (And.intro @ren1_bool (And.intro @renA_bool @Pren_bool)) (And.intro @ren1_int (And.intro @renA_int @Pren_int))) (And.intro (And.intro @ren1_str (And.intro @renA_str @Pren_str)) (And.intro @ren1_nilp (And.intro @renA_nilp @Pren_nilp)))) (And.intro (And.intro (And.intro @ren1_nilm (And.intro @renA_nilm @Pren_nilm)) (And.intro @ren1_nilf (And.intro @renA_nilf @Pren_nilf))) (And.intro (And.intro @ren1_ptr (And.intro @renA_ptr @Pren_ptr)) (And.intro @ren1_cptr (And.intro @renA_cptr @Pren_cptr))))) (And.intro (And.intro (And.intro (And.intro @ren1_sl (And.intro @renA_sl @Pren_sl)) (And.intro @ren1_osl (And.intro @renA_osl @Pren_osl))) (And.intro (And.intro @ren1_map (And.intro @renA_map @Pren_map)) (And.intro @ren1_yld (And.intro @renA_yld @Pren_yld)))) (And.intro (And.intro (And.intro @ren1_nsl (And.intro @renA_nsl @Pren_nsl)) (And.intro @renA_agg (And.intro @Pren_agg @renA_fn))) (And.intro (And.intro @Pren_fn (And.intro @Pren_tup @oren_row)) (And.intro @oren_box (And.intro @oren_map @oren_loop))))))

theorem lt8 (b : Nat) : (b < b + 8) = True := by simp
/-- One cell's worth, of numbers below b. -/
def lt1s (b : Nat) (p : PV) : Bool := p.one && p.lt b
theorem lt1_mono {b b' : Nat} {q : PV} (hb : b ≤ b') (h : lt1 b q = true) : lt1 b' q = true := by
  cases q <;> simp only [lt1, decide_eq_true_eq] at h ⊢ <;> first | omega | exact h | trivial
theorem plt_mono {b b' : Nat} {p : PV} (hb : b ≤ b') (h2 : p.lt b = true) : p.lt b' = true := by
  cases p with
  | fn f cs => simp only [PV.lt, List.all_eq_true] at h2 ⊢; exact fun x hx => lt1_mono hb (h2 x hx)
  | agg cs => simp only [PV.lt, List.all_eq_true] at h2 ⊢; exact fun x hx => lt1_mono hb (h2 x hx)
  | tup cs => simp only [PV.lt, List.all_eq_true] at h2 ⊢; exact fun x hx => lt1_mono hb (h2 x hx)
  | _ => simp only [PV.lt] at h2 ⊢; exact lt1_mono hb h2
theorem lt1s_mono {b k : Nat} {p : PV} (h : lt1s b p = true) : p.lt (b + k) = true ∧ p.one = true ∧ lt1s (b + k) p = true := by
  unfold lt1s at h ⊢
  simp only [Bool.and_eq_true] at h ⊢
  have := plt_mono (Nat.le_add_right b k) h.2
  exact ⟨this, h.1, h.1, this⟩
theorem ren1_lt {b : Nat} {σ : Nat → Nat} (hσ : ∀ id, id < b → σ id = id) {p : PV} (h : lt1 b p = true) : ren1 σ p = p := by
  cases p <;> simp only [lt1, decide_eq_true_eq] at h <;> first | rfl | (simp only [ren1]; rw [hσ _ h])
theorem map_lt {b : Nat} {σ : Nat → Nat} (hσ : ∀ id, id < b → σ id = id) : ∀ {cs : List PV}, cs.all (lt1 b) = true → cs.map (ren1 σ) = cs
  | [], _ => rfl
  | c :: cs, h => by
    simp only [List.all_cons, Bool.and_eq_true] at h
    rw [List.map_cons, ren1_lt hσ h.1, map_lt hσ h.2]
theorem renA_lt {b : Nat} {σ : Nat → Nat} (hσ : ∀ id, id < b → σ id = id) {p : PV} (h : p.lt b = true) : renA σ p = p := by
  cases p with
  | fn f cs => simp only [renA]; rw [map_lt hσ h]
  | agg cs => simp only [renA]; rw [map_lt hσ h]
  | tup cs => rfl
  | _ => simp only [PV.lt] at h; simp only [renA]; exact ren1_lt hσ h
/-- What is known of a cell of numbers below b. -/
theorem cell_facts {b : Nat} {p : PV} (h : lt1s b p = true) : (∀ ids, renA (sg b ids) p = p) ∧ (∀ k, p.lt (b + k) = true) ∧ p.lt b = true ∧ p.one = true :=
  ⟨fun ids => renA_lt (fun id h => sg_lt h) (by have := lt1s_mono (k := 0) h; simpa using this.1), fun k => (lt1s_mono h).1, by have := lt1s_mono (k := 0) h; simpa using this.1, (lt1s_mono (k := 0) h).2.1⟩

end Go.Vx
