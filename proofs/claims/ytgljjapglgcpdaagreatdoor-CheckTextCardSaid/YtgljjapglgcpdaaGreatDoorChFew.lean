
/-
  The contracts of the reference's head, body, Variable (of layer 7), atom (of layer 11).
  The contracts of the reference's collect and Vars (of layer 7).
  The contracts of the reference's Vars (of layer 7), atoms, Binds, safe (of layer 11).
  The contracts of the reference's atoms, Binds, safe (of layer 11).
  The contracts of the reference's safe and Rule (of layer 11).
  The contracts of law11's few, fewRules; a rule as an argument, opened; law11.CheckRule.
-/
import Derived.Test.YtgljjapglgcpdaaGreatDoorChRef2
import Derived.Test.YtgljjapglgcpdaaGreatDoorChLaid
import Derived.Test.YtgljjapglgcpdaaGreatDoorSmall3
import Derived.Test.YtgljjapglgcpdaaGreatDoorOpen
namespace Go.Proofs.YtgljjapglgcpdaaGreatDoor

section
section
open Go.RowKit

theorem kw_cases (s : ByteArray) : (kwOf s = none ∧ ∀ k ∈ kws, k.n ≠ s) ∨ ∃ k ∈ kws, s = k.n ∧ kwOf s = some k := by
  cases h : kwOf s with
  | none =>
    left
    refine ⟨rfl, fun k hk e => ?_⟩
    have := List.find?_eq_none.1 h k hk
    simp [e] at this
  | some k =>
    right
    have h1 := List.find?_some h
    exact ⟨k, List.mem_of_find?_eq_some h, (by simp only [decide_eq_true_eq] at h1; exact h1.symm), rfl⟩
/-- may it be a head; may it be in a body -/
def headB (s : ByteArray) : Bool := match kwOf s with | some k => k.h | none => true
def bodyB (s : ByteArray) : Bool := match kwOf s with | some k => k.b | none => true
theorem headB_eq (s : ByteArray) : headB s = (!decide (s = ⟨#[116, 114, 117, 101]⟩) && (!decide (s = ⟨#[100, 111, 101, 115]⟩) && !decide (s = ⟨#[100, 105, 115, 116, 105, 110, 99, 116]⟩))) := by
  rcases kw_cases s with ⟨h1, h2⟩ | ⟨k, hk, rfl, h2⟩
  · unfold headB
    rw [h1]
    have n1 : ¬ s = ⟨#[116, 114, 117, 101]⟩ := fun e => h2 ⟨⟨#[116, 114, 117, 101]⟩, 1, false, true⟩ (by simp [kws]) e.symm
    have n2 : ¬ s = ⟨#[100, 111, 101, 115]⟩ := fun e => h2 ⟨⟨#[100, 111, 101, 115]⟩, 2, false, true⟩ (by simp [kws]) e.symm
    have n3 : ¬ s = ⟨#[100, 105, 115, 116, 105, 110, 99, 116]⟩ := fun e => h2 ⟨⟨#[100, 105, 115, 116, 105, 110, 99, 116]⟩, 2, false, true⟩ (by simp [kws]) e.symm
    rw [decide_eq_false n1, decide_eq_false n2, decide_eq_false n3]; rfl
  · clear h2
    simp only [kws, List.mem_cons, List.not_mem_nil, or_false] at hk
    rcases hk with rfl | rfl | rfl | rfl | rfl | rfl | rfl | rfl | rfl | rfl <;> kernel_rfl
theorem bodyB_eq (s : ByteArray) : bodyB s = (!(kwOf s).isSome || (decide (s = ⟨#[114, 111, 108, 101]⟩) || (decide (s = ⟨#[116, 114, 117, 101]⟩) || (decide (s = ⟨#[100, 111, 101, 115]⟩) || decide (s = ⟨#[100, 105, 115, 116, 105, 110, 99, 116]⟩))))) := by
  rcases kw_cases s with ⟨h1, h2⟩ | ⟨k, hk, rfl, h2⟩
  · unfold bodyB; rw [h1]; rfl
  · clear h2
    simp only [kws, List.mem_cons, List.not_mem_nil, or_false] at hk
    rcases hk with rfl | rfl | rfl | rfl | rfl | rfl | rfl | rfl | rfl | rfl <;> kernel_rfl

/-- a variable, as layer 7 says -/
def isV (t : Tm) : Bool := decide (t.args.length = 0) && varB t.name
/-- the error of an atom, apart from its place -/
def atomR (t : Tm) : Int :=
  if (!nameB t.name || misL t.args) = true then 4
  else if (wideT t || match kwOf t.name with | some k => !decide (t.args.length = k.a) | none => false) = true then 5
  else if 4 < t.dep then 3
  else 0
theorem misT_name {t : Tm} (h : nameB t.name = true) : misT t = misL t.args := by rw [mis_eq, h]; simp
theorem atomE_R (t : Tm) (hd : Bool) : atomE t hd = if atomR t ≠ 0 then atomR t else if (if hd = true then headB t.name else bodyB t.name) = true then 0 else 6 := by
  have hm : (!nameB t.name || misT t) = (!nameB t.name || misL t.args) := by
    cases h : nameB t.name with
    | false => rfl
    | true => rw [misT_name h]
  unfold atomE atomR headB bodyB
  rw [hm]
  generalize (!nameB t.name || misL t.args) = q1
  generalize wideT t = q3
  cases kwOf t.name with
  | none =>
    cases q1 <;> cases q3 <;> cases hd <;> by_cases h4 : 4 < t.dep <;> simp [h4]
  | some k =>
    obtain ⟨kn, ka, kh, kb⟩ := k
    by_cases hl : t.args.length = ka <;> cases q1 <;> cases q3 <;> cases hd <;> cases kh <;> cases kb <;> by_cases h4 : 4 < t.dep <;> simp [h4, hl]
end

section
open Go.RowKit

theorem lvsT_fold {nm : ByteArray} {ags : List Tm} (h : (decide (ags.length = 0) && varB nm) = false) (ls : List ByteArray) : (lvsT (.mk nm ags)).foldl addV ls = (lvsL ags).foldl addV ls := by
  cases ags with
  | nil =>
    simp only [List.length_nil, decide_true, Bool.true_and] at h
    rw [lvsT_nil]
    simp [lvsL, addV, h]
  | cons a r => rw [lvsT_cons (by simp)]
end

section
open Go.RowKit

end

section
open Go.RowKit

theorem atomsE_cons (hd : Tm) (body : List Li) : atomsE true (hd :: body.map (·.atom)) = if atomE hd true ≠ 0 then atomE hd true else atomsE false (body.map (·.atom)) := by
  rw [atomsE]
  split <;> simp_all
end

section
open Go.RowKit

theorem mem_lvsL {ts : List Tm} {s : ByteArray} : s ∈ lvsL ts ↔ ∃ t ∈ ts, s ∈ lvsT t := by
  induction ts with
  | nil => simp [lvsL]
  | cons x r ih => simp only [lvsL, List.mem_append, ih, List.mem_cons]; constructor
                   · rintro (h | ⟨t, ht, h⟩)
                     · exact ⟨x, .inl rfl, h⟩
                     · exact ⟨t, .inr ht, h⟩
                   · rintro ⟨t, rfl | ht, h⟩
                     · exact .inl h
                     · exact .inr ⟨t, ht, h⟩
theorem mem_vars1 {t : Tm} {s : ByteArray} : s ∈ varsL [t] ↔ s ∈ lvsT t ∧ varB s = true := by rw [mem_varsL]; simp [lvsL]
def vrs (x : Li) : List ByteArray := varsL [x.atom]
def bindL (body : List Li) : List ByteArray := (body.filter bindsB).flatMap vrs
def needL (hd : Tm) (body : List Li) : List ByteArray := varsL [hd] ++ (body.filter fun x => !bindsB x).flatMap vrs
theorem mem_bindL {r : Ru} {s : ByteArray} : s ∈ bindL r.body ↔ s ∈ varsL (bindOf r) := by
  rw [mem_varsL, mem_lvsL]
  simp only [bindL, vrs, List.mem_flatMap, mem_vars1, bindOf, List.mem_map]
  constructor
  · rintro ⟨x, hx, h1, h2⟩; exact ⟨⟨x.atom, ⟨x, hx, rfl⟩, h1⟩, h2⟩
  · rintro ⟨⟨t, ⟨x, hx, rfl⟩, h1⟩, h2⟩; exact ⟨x, hx, h1, h2⟩
theorem mem_needL {r : Ru} {s : ByteArray} : s ∈ needL r.head r.body ↔ s ∈ varsL (needOf r) := by
  rw [mem_varsL, mem_lvsL]
  simp only [needL, vrs, List.mem_append, List.mem_flatMap, mem_vars1, needOf, List.mem_cons, List.mem_map]
  constructor
  · rintro (⟨h1, h2⟩ | ⟨x, hx, h1, h2⟩)
    · exact ⟨⟨_, .inl rfl, h1⟩, h2⟩
    · exact ⟨⟨x.atom, .inr ⟨x, hx, rfl⟩, h1⟩, h2⟩
  · rintro ⟨⟨t, rfl | ⟨x, hx, rfl⟩, h1⟩, h2⟩
    · exact .inl ⟨h1, h2⟩
    · exact .inr ⟨x, hx, h1, h2⟩
theorem safe_eq (r : Ru) : (needL r.head r.body).all (fun s => hasS (bindL r.body) s) = safeB r := by
  unfold safeB
  rw [Bool.eq_iff_iff, List.all_eq_true, List.all_eq_true]
  simp only [hasS, decide_eq_true_eq]
  constructor
  · intro h s hs; exact mem_bindL.1 (h s (mem_needL.2 hs))
  · intro h s hs; exact mem_bindL.2 (h s (mem_needL.1 hs))
theorem vrs_len (x : Li) (h : x.atom.sz ≤ 1000) : (vrs x).length ≤ 1000 := by
  have h1 := addV_len (lvsL [x.atom]) []
  have h2 := lvsT_sz x.atom
  have h3 : (lvsL [x.atom]).length = (lvsT x.atom).length := by simp [lvsL]
  unfold vrs varsL
  simp only [List.length_nil] at h1
  omega
theorem flat_le (L : List Li) (h : ∀ x ∈ L, (vrs x).length ≤ 1000) : (L.flatMap vrs).length ≤ L.length * 1000 := by
  induction L with
  | nil => simp
  | cons x r ih =>
    have h1 := h x (by simp)
    have h2 := ih (fun y hy => h y (by simp [hy]))
    simp only [List.flatMap_cons, List.length_append, List.length_cons, Nat.add_mul]; omega
theorem SlT.one_ {p : Nat → Prop} {w : World} {t : Tm} {v : Value} (h : SlT p w v t.args) : SlT (fun _ => True) (w.alloc (.cells #[.string t.name, v] 28)) (.slice (some ⟨w.heap.size, 0, none⟩) 1 1) [t] := by
  have hR := TmR.of (h.ch0 ((Ch.refl [] w).alloc (.cells #[.string t.name, v] 28)))
  obtain ⟨a, c, rfl, _, _⟩ := h.form
  refine ⟨[[.string t.name, .slice a t.args.length c]], (Sl.one w 2 _ [.string t.name, .slice a t.args.length c] rfl (by simp [Value.oneCell'])).weak (fun _ _ _ => trivial), ?_⟩
  simp only [TmsR]
  exact ⟨_, [], rfl, TmR.imp (Nat.le_refl _) (fun _ _ _ => ⟨trivial, rfl⟩) hR, rfl⟩

end
end

section
open Go.ChangeShapes Go.WideShapes Go.ChangeAt Go.RowKit

def smB (t : Tm) : Bool := decide (pParts 60 t 60 ≤ 60)
def fewB (r : Ru) : Bool := decide (r.body.length ≤ 12) && (smB r.head && r.body.all (fun x => smB x.atom))
theorem smB_sz {t : Tm} (h : smB t = true) : t.sz ≤ 60 := by
  have h1 : pParts 60 t 60 ≤ 60 := by simpa [smB] using h
  have := (pParts_small 60 t 60 h1).1
  omega
theorem few_ok {r : Ru} (h : fewB r = true) (hN : NiceR reachBytes maxLen r) : RuOk reachBytes maxLen r := by
  simp only [fewB, Bool.and_eq_true, decide_eq_true_eq, List.all_eq_true] at h
  obtain ⟨h1, h2, h3⟩ := h
  refine ⟨fun t ht => ?_, fun t ht => ?_, by omega, by decide⟩
  · simp only [atomsOf, List.mem_cons, List.mem_map] at ht
    rcases ht with rfl | ⟨x, hx, rfl⟩
    · exact hN.1
    · exact hN.2 x hx
  · simp only [atomsOf, List.mem_cons, List.mem_map] at ht
    rcases ht with rfl | ⟨x, hx, rfl⟩
    · have := smB_sz h2; omega
    · have := smB_sz (h3 x hx); omega

set_option maxRecDepth 100000 in
set_option maxHeartbeats 4000000 in
theorem few_ (r : Ru) (p : Nat → Prop) (vh vb : Value) (w : World) (hh : SlT p w vh r.head.args) (hb : SlLi p w vb r.body) :
    Calls Tryz.prog 11 #[.agg #[.string r.head.name, vh, vb]] w fun e w' => e = .returned (.bool (fewB r)) ∧ Ch [] w w' := by
  have HF := Lib.hid (show fewB r = (decide (r.body.length ≤ 12) && (smB r.head && r.body.all (fun x => smB x.atom))) from rfl)
  generalize fewB r = R at *
  obtain ⟨hd, body⟩ := r
  simp only at hh hb HF ⊢
  have hsh : ∀ wz, Ch [] w wz → Calls Tryz.prog 36 #[.agg #[.string hd.name, vh], .int .i64 (60 : Nat)] wz fun e w' => e = .returned (.bool (smB hd)) ∧ Ch [] wz w' := fun wz (hz : Ch [] w wz) => small_ hd p vh wz 60 (hh.ch0 hz) (by omega)
  obtain ⟨ah, ch, rfl, _, _⟩ := hh.form
  obtain ⟨a, c, rfl, hlc, hmx⟩ := hb.form
  unfold maxLen at hmx
  generalize hd.args.length = hL at *
  have hbx := Blk.new w 31 #[.string hd.name, .slice ah hL ch, .slice a body.length c]
  have hcA : Ch [] w (w.alloc (.cells #[.string hd.name, .slice ah hL ch, .slice a body.length c] 31)) := (Ch.refl _ _).alloc _
  generalize hwA : (w.alloc (.cells #[.string hd.name, .slice ah hL ch, .slice a body.length c] 31)) = wA at *
  have b0 := hbx.cell 0
  have b1 := hbx.cell 1
  have b2 := hbx.cell 2
  by_cases hbig : 12 < body.length
  · have d1 : decide ((12 : Int) < (body.length : Int)) = true := decide_eq_true (by omega)
    have HX : Hid (R = false) := by unfold Hid; rw [HF.out, decide_eq_false (by omega)]; rfl
    clear hbig
    go_enter Tryz.func11, Tryz.ntmps11
    go_wp2
    go_ret
    exact ⟨by rw [HX.out]; rfl, hcA⟩
  · have d1 : decide ((12 : Int) < (body.length : Int)) = false := decide_eq_false (by omega)
    have HF2 : Hid (R = (smB hd && body.all (fun x => smB x.atom))) := by unfold Hid; rw [HF.out, decide_eq_true (by omega)]; rfl
    clear hbig HF
    cases hs : smB hd with
    | false =>
      rw [hs] at hsh
      have HX : Hid (R = false) := by unfold Hid; rw [HF2.out, hs]; rfl
      clear hs
      go_enter Tryz.func11, Tryz.ntmps11
      go_wp2_with (go_at_call 36; refine (hsh _ hcA).mono ?_; rintro e w1 ⟨rfl, hc1⟩; clear hsh)
      go_ret
      exact ⟨by rw [HX.out]; rfl, hcA.trans hc1⟩
    | true =>
      rw [hs] at hsh
      have HF3 : Hid (R = body.all (fun x => smB x.atom)) := by unfold Hid; rw [HF2.out, hs]; rfl
      clear hs HF2
      go_enter Tryz.func11, Tryz.ntmps11
      go_wp2_with (go_at_call 36; refine (hsh _ hcA).mono ?_; rintro e w1 ⟨rfl, hc1⟩; clear hsh)
      have hC1 := hcA.trans hc1
      have hbx1 := hbx.ch hc1 (by simp)
      clear b0 b1 b2 hwA hbx
      go_loopw [3] (fun i wr => ∃ k : Nat, k ≤ body.length ∧ i = .int .i64 k ∧ Ch [] w1 wr ∧ Hid (∀ j (hj : j < body.length), j < k → smB body[j].atom = true)) (fun i _ => body.length - (intOf i).toNat)
      case atStart => exact ⟨0, Nat.zero_le _, rfl, Ch.refl _ _, fun j _ h => absurd h (Nat.not_lt_zero _)⟩
      case round =>
        obtain ⟨k, hk, rfl, hB, HN⟩ := hrel
        have hbr2 := (hbx1.ch hB (by simp)).cell 2
        by_cases hlt : k < body.length
        · obtain ⟨b', o, a', c', rfl, hp, c0, c1, c2, hT⟩ := (hb.ch0 (hC1.trans hB)).at_ hlt
          have hcall : Calls Tryz.prog 36 #[.agg #[.string body[k].atom.name, .slice a' body[k].atom.args.length c'], .int .i64 (60 : Nat)] wr fun e w' => e = .returned (.bool (smB body[k].atom)) ∧ Ch [] wr w' := small_ body[k].atom _ _ wr 60 hT (by omega)
          have j1 : decide (k < body.length) = true := decide_eq_true hlt
          have HG0 := Lib.hid (show smB body[k].atom = true → ∀ j (hj : j < body.length), j < k + 1 → smB body[j].atom = true from fun h0 j hj h1 => by
            rcases Nat.lt_succ_iff_lt_or_eq.1 h1 with h2 | h2
            · exact HN.out j hj h2
            · subst h2; exact h0)
          have HG1 := Lib.hid (show smB body[k].atom = false → R = false from fun h0 => by
            rw [HF3.out, List.all_eq_false]
            exact ⟨_, List.getElem_mem hlt, by rw [h0]; simp⟩)
          clear hT
          generalize body[k] = x at *
          obtain ⟨xn, xa⟩ := x
          simp only at hcall HG0 HG1 c0 c1 c2
          cases hs : smB xa with
          | true =>
            rw [hs] at hcall
            have HX := Lib.hid (HG0.out hs)
            clear hs HG0 HG1
            go_wp2_with (go_at_call 36; refine hcall.mono ?_; rintro e w3 ⟨rfl, hc3⟩; clear hcall)
            go_roundw
            case rel => exact ⟨k + 1, by omega, by go_num, hB.trans hc3, HX⟩
            case measure => simp [intOf]; omega
          | false =>
            rw [hs] at hcall
            have HX := Lib.hid (HG1.out hs)
            clear hs HG0 HG1
            go_wp2_with (go_at_call 36; refine hcall.mono ?_; rintro e w3 ⟨rfl, hc3⟩; clear hcall)
            go_ret
            exact ⟨by rw [HX.out]; rfl, (hC1.trans hB).trans hc3⟩
        · have HX : Hid (R = true) := by
            unfold Hid
            rw [HF3.out, List.all_eq_true]
            intro x hx
            obtain ⟨j, hj, rfl⟩ := List.getElem_of_mem hx
            exact HN.out j hj (by omega)
          have j1 : decide (k < body.length) = false := decide_eq_false hlt
          go_wp2
          go_ret
          exact ⟨by rw [HX.out]; rfl, hC1.trans hB⟩

set_option maxRecDepth 100000 in
set_option maxHeartbeats 4000000 in
theorem fewRules_ (p : Nat → Prop) (v : Value) (l : List Ru) (most : Nat) (w : World) (h : SlR p w v l) :
    Calls Tryz.prog 4 #[v, .int .i64 (most : Int)] w fun e w' => e = .returned (.bool (decide (l.length ≤ most) && l.all fewB)) ∧ Ch [] w w' := by
  have HF := Lib.hid (show (decide (l.length ≤ most) && l.all fewB) = (decide (l.length ≤ most) && l.all fewB) from rfl)
  generalize hR : (decide (l.length ≤ most) && l.all fewB) = R at *
  have HF : Hid (R = (decide (l.length ≤ most) && l.all fewB)) := hR.symm
  clear hR
  obtain ⟨a, c, rfl, hlc, hm⟩ := h.form
  unfold maxLen at hm
  by_cases hbig : most < l.length
  · have d1 : decide (most < l.length) = true := decide_eq_true hbig
    have HX : Hid (R = false) := by unfold Hid; rw [HF.out, decide_eq_false (by omega)]; rfl
    clear hbig
    go_enter Tryz.func4, Tryz.ntmps4
    go_wp2
    go_ret
    exact ⟨by rw [HX.out]; rfl, Ch.refl _ _⟩
  · have d1 : decide (most < l.length) = false := decide_eq_false hbig
    have HF3 : Hid (R = l.all fewB) := by unfold Hid; rw [HF.out, decide_eq_true (by omega)]; rfl
    clear hbig HF
    go_enter Tryz.func4, Tryz.ntmps4
    go_wp2
    go_loopw [5] (fun i wr => ∃ k : Nat, k ≤ l.length ∧ i = .int .i64 k ∧ Ch [] w wr ∧ Hid (∀ j (hj : j < l.length), j < k → fewB l[j] = true)) (fun i _ => l.length - (intOf i).toNat)
    case atStart => exact ⟨0, Nat.zero_le _, rfl, Ch.refl _ _, fun j _ h => absurd h (Nat.not_lt_zero _)⟩
    case round =>
      obtain ⟨k, hk, rfl, hB, HN⟩ := hrel
      by_cases hlt : k < l.length
      · obtain ⟨bb, o, a', c', a'', c'', rfl, hp, c0, c1, c2, hT, hL⟩ := (h.ch0 hB).at_ hlt
        have hcall := few_ l[k] _ _ _ wr hT hL
        have j1 : decide (k < l.length) = true := decide_eq_true hlt
        have HG0 := Lib.hid (show fewB l[k] = true → ∀ j (hj : j < l.length), j < k + 1 → fewB l[j] = true from fun h0 j hj h1 => by
          rcases Nat.lt_succ_iff_lt_or_eq.1 h1 with h2 | h2
          · exact HN.out j hj h2
          · subst h2; exact h0)
        have HG1 := Lib.hid (show fewB l[k] = false → R = false from fun h0 => by
          rw [HF3.out, List.all_eq_false]
          exact ⟨_, List.getElem_mem hlt, by rw [h0]; simp⟩)
        clear hT hL
        generalize l[k] = x at *
        cases hs : fewB x with
        | true =>
          rw [hs] at hcall
          have HX := Lib.hid (HG0.out hs)
          clear hs HG0 HG1
          go_wp2_with (go_at_call 11; refine hcall.mono ?_; rintro e w3 ⟨rfl, hc3⟩; clear hcall)
          go_roundw
          case rel => exact ⟨k + 1, by omega, by go_num, hB.trans hc3, HX⟩
          case measure => simp [intOf]; omega
        | false =>
          rw [hs] at hcall
          have HX := Lib.hid (HG1.out hs)
          clear hs HG0 HG1
          go_wp2_with (go_at_call 11; refine hcall.mono ?_; rintro e w3 ⟨rfl, hc3⟩; clear hcall)
          go_ret
          exact ⟨by rw [HX.out]; rfl, hB.trans hc3⟩
      · have HX : Hid (R = true) := by
          unfold Hid
          rw [HF3.out, List.all_eq_true]
          intro x hx
          obtain ⟨j, hj, rfl⟩ := List.getElem_of_mem hx
          exact HN.out j hj (by omega)
        have j1 : decide (k < l.length) = false := decide_eq_false hlt
        go_wp2
        go_ret
        exact ⟨by rw [HX.out]; rfl, hB⟩

section
variable {H : Type} {enc : TypeId × Value → H} {W : World}
set_option maxRecDepth 100000 in
theorem open_r {base : Nat} {v : Value} {d : DataW H} {ps : List MemPlace} (hval : Value.okWide Tryz.prog W .any base 31 v) (h : DataW.Trod enc Tryz.prog W 0 (fun _ => true) true 31 v d ps) (hw : WOk 31 d) :
    ∃ (r : Ru) (va vb : Value), v = .agg #[.string r.head.name, va, vb] ∧ SlT (fun _ => True) W va r.head.args ∧ SlLi (fun _ => True) W vb r.body ∧ NiceR reachBytes maxLen r := by
  obtain ⟨cs, rfl, hsz⟩ := okWide_struct Tryz.underlying31 hval
  obtain ⟨fuel, hf⟩ := h
  obtain ⟨r, ⟨va, vb, e, h1, h2⟩, h3⟩ := trod_Ru (show DataW.trod enc Tryz.prog W 0 (fun _ => true) true fuel 31 cs.toList = some (d, ps) from hf) hw
  refine ⟨r, va, vb, ?_, h1, h2, h3⟩
  obtain ⟨l⟩ := cs
  simp only at e
  rw [e]
end

end
end Go.Proofs.YtgljjapglgcpdaaGreatDoor
