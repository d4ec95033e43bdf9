/- Values seen as trees; what a call gives back. -/
import Derived.Test.YtecplbjggbelbaaAHD
namespace Go.AH
open Go Go.RowKit

section
variable {P : Program} {T : TypeId → Ty} {G : Nat → V} {Z Z' : Nat → Prop} {h view h' : Nat → Ob} {β β' : Nat → Loc} {w w' : World} {O O' : Nat → Prop} {R R' : V → Value → Prop}

theorem RepSeq.less (hO : ∀ b, O' b → O b) {vs : List V} {t b o : Nat} (hr : RepSeq T w O vs t b o) : RepSeq T w O' vs t b o := RepSeq.kept (Kept.less hO) vs t b o rfl hr
theorem RepL.mapTree {f : V → V} : ∀ {vs : List V} {l : List Value}, RepL T w O vs R l → (∀ v ∈ vs, ∀ x, Rep T w O v R x → Rep T w O' (f v) R' x) → RepL T w O' (vs.map f) R' l
  | [], _, h, _ => h
  | v :: vs, _, ⟨x, r, e, h1, h2⟩, hf => ⟨x, r, e, hf v (by simp) x h1, RepL.mapTree h2 (fun u hu => hf u (by simp [hu]))⟩
theorem refsL_mem : ∀ {vs : List V} {v : V} {i : Nat}, v ∈ vs → i ∈ v.refs → i ∈ V.refsL vs
  | u :: vs, v, i, hv, hi => by
    rw [V.refsL, List.mem_append]
    rcases List.mem_cons.1 hv with rfl | hv
    · exact .inl hi
    · exact .inr (refsL_mem hv hi)

theorem toTree_sound (hT : TyOk P T) (cx : Cx T G Z h β w) (hv : Sees view h) (hO : ∀ b, O' b → Own Z h β b) {S : List Nat} (hS : ∀ i ∈ S, ∀ j ∈ (view i).refs, j ∈ S) (hav : ∀ i ∈ S, (h i).alive = true → (β i).nil = false → ¬ O' (β i).b) :
    ∀ (n : Nat) (v : V) (x : Value) (R : V → Value → Prop), (∀ i ∈ v.refs, i ∈ S) → Rep T w (Own Z h β) v (RefRep T h β) x → Rep T w O' (toTree T view n v) R x
  | 0, _, _, _, _, _ => trivial
  | n + 1, v, x, R, hsv, hr => by
    rw [toTree]
    have h1 := Rep.refs v _ (fun r y => RefRep T h β r y ∧ ∀ i ∈ r.refs, i ∈ S) x (fun r y hi h => ⟨h, fun i hir => hsv i (hi i hir)⟩) hr
    refine Rep.mapRef v _ _ x (fun r y hy => ?_) (Rep.kept (Kept.less hO) v _ _ x (fun _ _ h => h) h1)
    obtain ⟨hy, hS2⟩ := hy
    cases r with
    | full t i g m =>
      have hiS := hS2 i (by simp [V.refs])
      obtain ⟨ro, g', t', vs, e, hg, hsl, hx⟩ := hy
      simp only
      cases hq : view i with
      | row ro2 g2 t2 vs2 =>
        have hib := hv.at_ hq (by simp)
        rw [e] at hib
        simp only [Ob.row.injEq] at hib
        obtain ⟨rfl, rfl, rfl, rfl⟩ := hib
        simp only
        cases hb : Nat.beq g g' with
        | false => exact trivial
        | true =>
          obtain ⟨rfl, rfl, rfl⟩ := hx (nat_of_beq hb)
          have hob := cx.ob i
          rw [e] at hob
          obtain ⟨_, ⟨h2, rfl, h3⟩ | ⟨h2, cur, h3, h4, _, _, h5⟩⟩ := hob
          · exact ⟨_, _, rfl, by simp, .inl rfl⟩
          · exact ⟨_, _, rfl, h4, .inr ⟨(β i).b, 0, by simp [Loc.addr, h2], (Array.getElem?_eq_some_iff.1 h3).1, hav i hiS (by rw [e]; rfl) h2, h5.less hO⟩⟩
      | _ => exact trivial
    | sub t i g o m =>
      have hiS := hS2 i (by simp [V.refs])
      obtain ⟨ro, g', t', vs, e, hg, hsl, hx⟩ := hy
      simp only
      cases hq : view i with
      | row ro2 g2 t2 vs2 =>
        have hib := hv.at_ hq (by simp)
        rw [e] at hib
        simp only [Ob.row.injEq] at hib
        obtain ⟨rfl, rfl, rfl, rfl⟩ := hib
        simp only
        cases hb : Nat.beq g g' with
        | false => exact trivial
        | true =>
          obtain ⟨rfl, hom, ad, rfl, hx2⟩ := hx (nat_of_beq hb)
          have hob := cx.ob i
          rw [e] at hob
          have hlen : ((vs.drop o).take m).length = m := by simp; omega
          obtain ⟨_, ⟨h2, rfl, h3⟩ | ⟨h2, cur, h3, h4, _, _, h5⟩⟩ := hob
          · simp at hom
            obtain ⟨_, rfl⟩ := hom
            exact ⟨_, _, rfl, by simp, .inl (by simp)⟩
          · refine ⟨ad, (β i).cap - o, by rw [hlen], by rw [hlen]; omega, ?_⟩
            by_cases hm : m = 0
            · subst hm; exact .inl (by simp)
            · refine .inr ⟨(β i).b, o * (T t').size, hx2 (by omega), (Array.getElem?_eq_some_iff.1 h3).1, hav i hiS (by rw [e]; rfl) h2, ?_⟩
              have := RepSeq.part vs o m h5
              rw [Nat.zero_add] at this
              exact this.less hO
      | _ => exact trivial
    | elt i g k j =>
      have hiS := hS2 i (by simp [V.refs])
      obtain ⟨ro, g', t', vs, e, hg, hsl, hx⟩ := hy
      simp only
      cases hq : view i with
      | row ro2 g2 t2 vs2 =>
        have hib := hv.at_ hq (by simp)
        rw [e] at hib
        simp only [Ob.row.injEq] at hib
        obtain ⟨rfl, rfl, rfl, rfl⟩ := hib
        simp only
        cases hb : Nat.beq g g' with
        | false => exact trivial
        | true =>
          obtain ⟨hk, rfl⟩ := hx (nat_of_beq hb)
          have hob := cx.ob i
          rw [e] at hob
          obtain ⟨ht, ⟨h2, rfl, h3⟩ | ⟨h2, cur, h3, h4, _, _, h5⟩⟩ := hob
          · simp at hk
          · have hkk : vs[k]? = some vs[k] := List.getElem?_eq_getElem hk
            obtain ⟨f1, f2, cs', h6, h7, h8⟩ := RepSeq.get h5 hkk
            have hgd : vs.getD k .top = vs[k] := by rw [List.getD_eq_getElem?_getD, hkk]; rfl
            rw [hgd, f2]
            refine ⟨(β i).b, k * (T t').size + j, cs'.drop j, rfl, (Array.getElem?_eq_some_iff.1 h3).1, hav i hiS (by rw [e]; rfl) h2, ?_, ?_⟩
            · have := h7.drop j
              rwa [Nat.zero_add] at this
            · exact (RepL.kept (Kept.less hO) _ _ _ _ (fun _ _ h => h) (mkVal_rep (hT.row ht) f1 h6 h8)).drop j
      | _ => exact trivial
    | box i j =>
      have hiS := hS2 i (by simp [V.refs])
      obtain ⟨⟨ro, cs, e⟩, rfl⟩ := hy
      simp only
      cases hq : view i with
      | box ro2 cs2 =>
        have hib := hv.at_ hq (by simp)
        rw [e] at hib
        simp only [Ob.box.injEq] at hib
        obtain ⟨rfl, rfl⟩ := hib
        have hob := cx.ob i
        rw [e] at hob
        obtain ⟨h2, arr, ee, h3, h4⟩ := hob
        have hsub := hS i hiS
        rw [hq] at hsub
        refine ⟨(β i).b, j, arr.toList.drop j, rfl, (Array.getElem?_eq_some_iff.1 h3).1, hav i hiS (by rw [e]; rfl) h2, ?_, ?_⟩
        · have := (Lies.of_block h3).drop j
          rwa [Nat.zero_add] at this
        · refine RepL.mapTree (R := RefRep T h β) (h4.drop j) (fun v hvm x hx => ?_)
          exact toTree_sound hT cx hv hO hS hav n v x noR (fun a ha => hsub a (refsL_mem (List.mem_of_mem_drop hvm) ha)) hx
      | _ => exact trivial
    | mref i =>
      have hiS := hS2 i (by simp [V.refs])
      obtain ⟨⟨ro, t, ks, vs, e⟩, rfl⟩ := hy
      simp only
      cases hq : view i with
      | dict ro2 t2 ks2 vs2 =>
        have hib := hv.at_ hq (by simp)
        rw [e] at hib
        simp only [Ob.dict.injEq] at hib
        obtain ⟨rfl, rfl, rfl, rfl⟩ := hib
        have hob := cx.ob i
        rw [e] at hob
        obtain ⟨h2, hd, es, clk, h3, h4, h5⟩ := hob
        exact ⟨(β i).b, es, clk, rfl, (Array.getElem?_eq_some_iff.1 h3).1, hav i hiS (by rw [e]; rfl) h2, h3, hd, RepL.kept (Kept.less hO) _ _ _ _ (fun _ _ h => h) h4, RepL.kept (Kept.less hO) _ _ _ _ (fun _ _ h => h) h5⟩
      | _ => exact trivial
    | _ => exact hy.elim
end
end Go.AH
