/- A part of the proof: TZ, TC. -/
import Derived.Test.YtpngkkalomiggaaGreatDoorFe
import Derived.Test.YtpngkkalomiggaaGreatDoorEG
import Derived.Test.YtpngkkalomiggaaGreatDoorCards
import Derived.Test.YtpngkkalomiggaaGreatDoorTie
set_option linter.all false
namespace Go.Proofs.YtpngkkalomiggaaGreatDoor
open Go Go.AH Go.ChangeShapes Go.WideShapes Go.ChangeAt Go.RowKit
theorem Tryz.own : ownKnob Tryz.prog.godebug = none := by kernel_rfl
theorem Tryz.laidOut : laidOutB Tryz.prog = true := by kernel_rfl
/- The data of the tables. -/
def strsOf : DataW Unit → List (List UInt8)
  | .agg ds => ds.map fun d => match d with | .lit (.string s) => s | _ => []
  | _ => []
def intsOf : DataW Unit → List Int
  | .agg ds => ds.map fun d => match d with | .lit (.int _ n) => n | _ => 0
  | _ => []
def nameDeclares : List UInt8 := [114, 101, 119, 105, 110, 100, 47, 100, 101, 102, 105, 110, 105, 116, 101, 46, 100, 101, 99, 108, 97, 114, 101, 115]
def nameAlways : List UInt8 := [114, 101, 119, 105, 110, 100, 47, 100, 101, 102, 105, 110, 105, 116, 101, 46, 97, 108, 119, 97, 121, 115]
def fns : List (Option (FuncId × List UInt8)) := [none, some (332, nameDeclares), some (333, nameAlways), none, some (333, nameAlways), some (333, nameAlways), none, some (333, nameAlways), none]
theorem gl0 : gl 0 = .pref ((strsOf Rows.laid_rewind_value_truths).map V.str) := by kernel_rfl
theorem gl1 : gl 1 = .pref ((strsOf Rows.laid_rewind_lexeme_signs).map V.str) := by kernel_rfl
theorem gl2 : gl 2 = .pref ((strsOf Rows.laid_rewind_lexeme_keywords).map V.str) := by kernel_rfl
theorem gl5 : gl 5 = .pref ((strsOf Rows.laid_rewind_stmt_words).map V.str) := by kernel_rfl
theorem gl6 : gl 6 = .pref (fns.map fnV) := by kernel_rfl
theorem gl7 : gl 7 = .pref ((intsOf Rows.laid_strings_asciiSpace).map (V.int .u8)) := by kernel_rfl
theorem da0 : (Rows.laid_rewind_value_truths : DataW Unit) = .agg ((strsOf Rows.laid_rewind_value_truths).map fun s => .lit (.string s)) := by kernel_rfl
theorem da1 : (Rows.laid_rewind_lexeme_signs : DataW Unit) = .agg ((strsOf Rows.laid_rewind_lexeme_signs).map fun s => .lit (.string s)) := by kernel_rfl
theorem da2 : (Rows.laid_rewind_lexeme_keywords : DataW Unit) = .agg ((strsOf Rows.laid_rewind_lexeme_keywords).map fun s => .lit (.string s)) := by kernel_rfl
theorem da5 : (Rows.laid_rewind_stmt_words : DataW Unit) = .agg ((strsOf Rows.laid_rewind_stmt_words).map fun s => .lit (.string s)) := by kernel_rfl
theorem da7 : (Rows.laid_strings_asciiSpace : DataW Unit) = .agg ((intsOf Rows.laid_strings_asciiSpace).map fun s => .lit (.int .u8 s)) := by kernel_rfl
def effD : DataW Unit := match (Rows.laid_rewind_definite_effects : DataW Unit) with | .iface _ d => d | d => d
theorem da6 : (Rows.laid_rewind_definite_effects : DataW Unit) = .iface "func table" effD := by kernel_rfl
theorem da6' : effD.funcsOut = .agg (fns.map fnD) := by kernel_rfl
theorem one332 : ((List.range Tryz.prog.funcs.size).filter fun f => (Tryz.prog.funcs[f]?).any (·.name.toUTF8.data.toList == nameDeclares)) = [332] := by kernel_rfl
theorem one333 : ((List.range Tryz.prog.funcs.size).filter fun f => (Tryz.prog.funcs[f]?).any (·.name.toUTF8.data.toList == nameAlways)) = [333] := by kernel_rfl
theorem fnsOne : ∀ x, some x ∈ fns → x.2 ≠ [] ∧ ((List.range Tryz.prog.funcs.size).filter fun f => (Tryz.prog.funcs[f]?).any (·.name.toUTF8.data.toList == x.2)) = [x.1] := by
  intro x hx
  have h : x = (332, nameDeclares) ∨ x = (333, nameAlways) := by
    simp only [fns, List.mem_cons, Option.some.injEq, List.mem_nil_iff, or_false, reduceCtorEq, false_or] at hx
    rcases hx with h | h | h | h | h
    · exact Or.inl h
    all_goals exact Or.inr h
  rcases h with rfl | rfl
  · exact ⟨by decide, one332⟩
  · exact ⟨by decide, one333⟩
abbrev plainLaid : List (String × DataW Unit) := Rows.frameNilRow.laid.filter fun x => x.2.handleName?.isNone
theorem in0 : ("rewind/value.truths", Rows.laid_rewind_value_truths) ∈ plainLaid := List.mem_filter.2 ⟨by simp [Rows.frameNilRow], rfl⟩
theorem in1 : ("rewind/lexeme.signs", Rows.laid_rewind_lexeme_signs) ∈ plainLaid := List.mem_filter.2 ⟨by simp [Rows.frameNilRow], rfl⟩
theorem in2 : ("rewind/lexeme.keywords", Rows.laid_rewind_lexeme_keywords) ∈ plainLaid := List.mem_filter.2 ⟨by simp [Rows.frameNilRow], rfl⟩
theorem in5 : ("rewind/stmt.words", Rows.laid_rewind_stmt_words) ∈ plainLaid := List.mem_filter.2 ⟨by simp [Rows.frameNilRow], rfl⟩
theorem in7 : ("strings.asciiSpace", Rows.laid_strings_asciiSpace) ∈ plainLaid := List.mem_filter.2 ⟨by simp [Rows.frameNilRow], rfl⟩
theorem in6 : ("rewind/definite.effects", DataW.iface "func table" effD) ∈ Rows.frameNilRow.laid := by rw [← da6]; simp [Rows.frameNilRow]
theorem laid_plain {W : World} (h : laidMetH Tryz.prog Rows.frameNilRow.laid W) : laidMet Tryz.prog plainLaid W := (show laidMet Tryz.prog plainLaid W ∧ handlesMet Tryz.prog _ W from h).1
/-- The tables, as trees. -/
theorem tables {W : World} (h : laidMetH Tryz.prog Rows.frameNilRow.laid W) : ∀ (O : Nat → Prop), (∀ b, ¬ O b) → ∀ g, Rep T W O (gl g) noR (.pointer (some ⟨g, 0, none⟩)) := by
  intro O hO
  obtain ⟨ps, hL, _⟩ := laid_plain h
  have h0 : Rep T W O (gl 0) noR (.pointer (some ⟨0, 0, none⟩)) := gl0 ▸ glob_strs hO hL (t := 129) (e := 9) (m := 2) _ in0 da0 (by kernel_rfl) (by kernel_rfl) (by kernel_rfl) (by kernel_rfl) (by kernel_rfl) (by kernel_rfl)
  have h1 : Rep T W O (gl 1) noR (.pointer (some ⟨1, 0, none⟩)) := gl1 ▸ glob_strs hO hL (t := 188) (e := 9) (m := 23) _ in1 da1 (by kernel_rfl) (by kernel_rfl) (by kernel_rfl) (by kernel_rfl) (by kernel_rfl) (by kernel_rfl)
  have h2 : Rep T W O (gl 2) noR (.pointer (some ⟨2, 0, none⟩)) := gl2 ▸ glob_strs hO hL (t := 236) (e := 9) (m := 15) _ in2 da2 (by kernel_rfl) (by kernel_rfl) (by kernel_rfl) (by kernel_rfl) (by kernel_rfl) (by kernel_rfl)
  have h5 : Rep T W O (gl 5) noR (.pointer (some ⟨5, 0, none⟩)) := gl5 ▸ glob_strs hO hL (t := 287) (e := 9) (m := 4) _ in5 da5 (by kernel_rfl) (by kernel_rfl) (by kernel_rfl) (by kernel_rfl) (by kernel_rfl) (by kernel_rfl)
  have h7 : Rep T W O (gl 7) noR (.pointer (some ⟨7, 0, none⟩)) := gl7 ▸ glob_ints hO hL (t := 337) (e := 5) (m := 256) .u8 _ in7 da7 (by kernel_rfl) (by kernel_rfl) (by kernel_rfl) (by kernel_rfl) (by kernel_rfl) (by kernel_rfl)
  have h6 : Rep T W O (gl 6) noR (.pointer (some ⟨6, 0, none⟩)) := gl6 ▸ glob_funcs hO (h.funcs in6) (t := 319) (e := 318) (m := 9) fns da6' (by kernel_rfl) (by kernel_rfl) (by kernel_rfl) Tryz.underlying318 (by kernel_rfl) (by kernel_rfl) fnsOne
  intro g
  unfold gl
  split
  · exact h0
  · exact h1
  · exact h2
  · exact h5
  · exact h6
  · exact h7
  · trivial
end Go.Proofs.YtpngkkalomiggaaGreatDoor

namespace Go.Proofs.YtpngkkalomiggaaGreatDoor
open Go Go.AH Go.ChangeShapes Go.WideShapes Go.ChangeAt Go.RowKit
section
variable {H : Type} {enc : TypeId × Value → H} {W : World} {v : Value} {d : DataW H} {p : List MemPlace}
set_option maxRecDepth 100000 in
/-- The frame that comes in, as a tree. -/
theorem open_frame (hv : Value.okWide Tryz.prog W .any 0 24 v) (h : DataW.Trod enc Tryz.prog W 0 (fun _ => true) true 24 v d p) :
    ∃ (s : List UInt8) (a : Int) (vs : List V), Rep T W (fun _ => False) (.agg [.str s, .int .i64 a, .seq 26 vs]) noR v := by
  obtain ⟨cs, rfl, _⟩ := okWide_struct Tryz.underlying24 hv
  obtain ⟨u, h1, h2, h3, h4⟩ := open_tree tyOk (O := fun _ => False) (fun _ h => h) (g := 4) (show openB Tryz.prog T 4 24 = true by kernel_rfl) h rfl
  have e : etaT (T 24) u = .agg [.str (u.cell 0).toS, .int .i64 (u.cell 1).toI, .seq 26 (u.cell 2).toL] := by kernel_rfl
  rw [e] at h2
  rw [← h2] at h3
  exact ⟨_, _, _, h3⟩
set_option maxRecDepth 100000 in
theorem open_item (hv : Value.okWide Tryz.prog W .any 0 26 v) (h : DataW.Trod enc Tryz.prog W 0 (fun _ => true) true 26 v d p) :
    ∃ (a b : Int), Rep T W (fun _ => False) (.agg [.int .i64 a, .int .i64 b]) noR v := by
  obtain ⟨cs, rfl, _⟩ := okWide_struct Tryz.underlying26 hv
  obtain ⟨u, h1, h2, h3, h4⟩ := open_tree tyOk (O := fun _ => False) (fun _ h => h) (g := 4) (show openB Tryz.prog T 4 26 = true by kernel_rfl) h rfl
  have e : etaT (T 26) u = .agg [.int .i64 (u.cell 0).toI, .int .i64 (u.cell 1).toI] := by kernel_rfl
  rw [e] at h2
  rw [← h2] at h3
  exact ⟨_, _, h3⟩
set_option maxRecDepth 100000 in
theorem open_text (hv : Value.okWide Tryz.prog W .any 0 9 v) : ∃ s : List UInt8, Rep T W (fun _ => False) (.str s) noR v := by
  obtain ⟨s, rfl⟩ := okWide_string Tryz.underlying9 hv
  exact ⟨_, s, rfl, rfl⟩
end
theorem law_holds : Holds T gl Tryz.prog 3 (interpM LG1 knG 300 60 3) := interpM_holds (g := LG1) tyOk ovA1 fdAll1 itOk1 knG_ok 300 60 3

set_option maxRecDepth 100000 in
/-- What the walk gives, for every argument and every world that holds the tables. -/
theorem contract (H : Type) (enc : TypeId × Value → H) (W : World) (base : Nat) (args : Array Value) (ds gs : List (DataW H)) (before : List MemPlace)
    (hval : ∀ (j : Nat) t v, Tryz.f3.params[j]? = some t → args[j]? = some v → Value.okWide Tryz.prog W .any base t v)
    (hval0 : ∀ (j : Nat) t v, Tryz.f3.params[j]? = some t → args[j]? = some v → Value.okWide Tryz.prog W .any 0 t v)
    (hW : DataW.Whole enc Tryz.prog Tryz.f3.params.toList Rows.frameNilSpec.vars false W args.toList ds gs before) (hL : laidMetH Tryz.prog Rows.frameNilRow.laid W) :
    Calls Tryz.prog 3 args W fun e W' => ∃ v, e = .returned v ∧ Rows.frameNilSpec.post enc Tryz.prog Tryz.f3 false true false false W args v W' := by
  have hW' := hW
  obtain ⟨p, q, hA0, hV, rfl, hfz, hnd⟩ := hW
  have hA1 := hA0
  have hA : DataW.TrodAll enc Tryz.prog W 0 (fun _ => true) true Tryz.f3.params.toList args.toList ds p := hA0
  rw [Tryz.params3] at hA hval0
  obtain ⟨v0, v1, v2, d0, d1, d2, p0, p1, p2, rfl, rfl, rfl, h0, h1, h2⟩ := trodAll_three hA
  obtain ⟨rfl, rfl⟩ := trodVars_none hV
  obtain ⟨s, a, vs, r0⟩ := open_frame (hval0 0 24 v0 rfl rfl) h0
  obtain ⟨name, r1⟩ := open_text (hval0 1 9 v1 rfl rfl)
  obtain ⟨t, n, r2⟩ := open_item (hval0 2 26 v2 rfl rfl) h2
  clear hval hval0
  have hlt := hW'.lt
  simp only [List.append_nil] at hW' hlt
  refine (top_calls_glob (b := true) (C := interpM LG1 knG 300 60 3) (args := [.agg [.str s, .int .i64 a, .seq 26 vs], .str name, .agg [.int .i64 t, .int .i64 n]]) Tryz.func3 (by kernel_rfl) (c := (Tryz.f3.body).getD .skip) (by kernel_rfl) law_holds (tables hL)
    ⟨_, _, rfl, r0, ⟨_, _, rfl, r1, ⟨_, _, rfl, r2, rfl⟩⟩⟩ (fm_is (g := LG1) ov0_ok1 60 3 _ [] _ (law_run s a vs name t n))).mono fun e W' ⟨he, hb⟩ => ?_
  subst he
  exact ⟨_, rfl, post_of_below (pv := []) hW' (fun _ _ _ => trodAll_mk1 (shut_bool Tryz.underlying4 _))
    (fun sp hs => trodAll_stays Tryz.laidOut _ _ _ _ (by kernel_rfl) hA1 (fun x hx => hb.same (hlt x hx)) (fun x hx => hs x hx)) (fun _ _ => rfl) (List.append_nil _).symm hb (ok_one (by kernel_rfl) rfl (okWide_bool_mk Tryz.underlying4 _))⟩
end Go.Proofs.YtpngkkalomiggaaGreatDoor
