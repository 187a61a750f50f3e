
/-
  The contracts of ref07.decimal, Lookup, Apply.
-/
import Derived.Test.YtaaomocodkpmfaaGreatDoorChRen
import Derived.Test.YtaaomocodkpmfaaGreatDoorChRef2
import Derived.Test.YtaaomocodkpmfaaGreatDoorFacts
import Derived.Laws.IdiomStrings
import Derived.Test.YtaaomocodkpmfaaGreatDoorChRoles
import Derived.Test.YtaaomocodkpmfaaGreatDoorChFew
import Derived.Deep.RegionHeld3
import Derived.Test.YtaaomocodkpmfaaGreatDoorChLaid
namespace Go.Proofs.YtaaomocodkpmfaaGreatDoor

section
section
open Go.RowKit

theorem decB_size : ∀ n : Nat, (decB n).size ≤ n + 1 := by
  intro n
  induction n using Nat.strongRecOn with
  | _ n ih =>
    rw [decB.eq_def n]
    split
    · show 1 ≤ n + 1; omega
    · have := ih (n / 10) (by omega)
      rw [ByteArray.size_append]
      have h1 : (⟨#[(48 + n % 10).toUInt8]⟩ : ByteArray).size = 1 := rfl
      omega
theorem byte_dig (n : Nat) (h : n < 10) : ((48 : Int) + (n : Int)) = (((48 + n).toUInt8.toNat : Nat) : Int) := by
  have : (48 + n).toUInt8.toNat = 48 + n := by
    show (48 + n) % 256 = 48 + n
    omega
  rw [this]; simp

theorem dig_at (n : Nat) (h : n < 10) {w : World} {B : Nat} (hb : Blk w B 5 #[.int .u8 (48 + (n : Int))]) : (convert 69 9 (.slice (some ⟨B, 0, none⟩) 1 1)).run Tryz.prog w = .ok (.string ⟨#[(48 + n).toUInt8]⟩) w := by
  refine run_convert_bytes_back (P := Tryz.prog) w 69 9 5 ⟨B, 0, none⟩ 1 [(48 + n).toUInt8] Tryz.underlying69 Tryz.underlying5 Tryz.underlying9 (fun j hj => ?_)
  have h0 : j = 0 := by simp at hj; omega
  subst h0
  simp only [List.getElem_cons_zero]
  rw [← byte_dig n h]
  exact hb.cell 0
theorem dig_conv (n : Nat) (h : n < 10) (w : World) : (convert 69 9 (.slice (some ⟨w.heap.size, 0, none⟩) 1 1)).run Tryz.prog (w.alloc (.cells #[.int .u8 (48 + (n : Int))] 5)) = .ok (.string ⟨#[(48 + n).toUInt8]⟩) (w.alloc (.cells #[.int .u8 (48 + (n : Int))] 5)) :=
  dig_at n h (Blk.new w 5 #[.int .u8 (48 + (n : Int))])
def lkV : Option ByteArray → Value | none => .agg #[.string ⟨#[]⟩, .slice none 0 0] | some u => .agg #[.string u, .slice none 0 0]
theorem lkO_at (s : List Bd) (n : ByteArray) (k : Nat) (h : k < s.length) (hn : ∀ j (hj : j < k), (s[j]'(by omega)).1 ≠ n) (he : s[k].1 = n) : lkO s n = some s[k].2 := by
  unfold lkO
  have : s.find? (fun b => decide (b.1 = n)) = some s[k] := by
    rw [List.find?_eq_some_iff_getElem]
    exact ⟨by simpa using he, k, h, rfl, fun j hj => by simpa using hn j hj⟩
  rw [this]; rfl
theorem lkO_none (s : List Bd) (n : ByteArray) (hn : ∀ j (hj : j < s.length), s[j].1 ≠ n) : lkO s n = none := by
  unfold lkO
  have : s.find? (fun b => decide (b.1 = n)) = none := by
    rw [List.find?_eq_none]
    intro x hx
    obtain ⟨j, hj, rfl⟩ := List.getElem_of_mem hx
    simpa using hn j hj
  rw [this]; rfl

theorem lookup_fin {w wz : World} {z0 z1 : Value} {u : ByteArray} {q : Bool} (hr : Blk wz w.heap.size 24 #[z0, z1]) (hB : Ch [] w wz)
    (a : Act) (h2 : a.tmps.getD 4 undef = .pointer (some ⟨w.heap.size, 0, none⟩)) (h3 : a.tmps.getD 5 undef = .bool q) (h5 : a.defers = []) :
    bodyPost Tryz.prog Tryz.f95 (fun e w' => e = .returned (.tuple #[.agg #[.string u, .slice none 0 0], .bool q]) ∧ Ch [] w w') .ret a
      ((wz.setCell ⟨w.heap.size, 0, none⟩ (.string u)).setCell ⟨w.heap.size, 1, none⟩ (.slice none 0 0)) := by
  have hbF : Blk ((wz.setCell ⟨w.heap.size, 0, none⟩ (.string u)).setCell ⟨w.heap.size, 1, none⟩ (.slice none 0 0)) w.heap.size 24 #[.string u, .slice none 0 0] := (hr.set_ 0 _).set_ 1 _
  have hcF : Ch [w.heap.size] wz ((wz.setCell ⟨w.heap.size, 0, none⟩ (.string u)).setCell ⟨w.heap.size, 1, none⟩ (.slice none 0 0)) := ((Ch.refl _ _).set (by simp) _).set (by simp) _
  generalize ((wz.setCell ⟨w.heap.size, 0, none⟩ (.string u)).setCell ⟨w.heap.size, 1, none⟩ (.slice none 0 0)) = wF at *
  have hrun : (results Tryz.f95 a.tmps).run Tryz.prog wF = .ok (.tuple #[.agg #[.string u, .slice none 0 0], .bool q]) wF := by
    rw [results_cell_tmp (p := 4) (u := 5) (ty := 24) (by kernel_rfl), h2, h3]
    have := run_loadVar_row (P := Tryz.prog) _ w.heap.size 24 24 _ _ _ hbF Tryz.underlying24 rfl (by kernel_rfl)
    simp [asAddr, this]
  exact bodyPost_ret hrun h5 ⟨rfl, hB.step hcF (by simp)⟩

set_option maxRecDepth 100000 in
set_option maxHeartbeats 2000000 in
theorem lookup_ (s : List Bd) (q : Nat → Prop) (vs : Value) (n : ByteArray) (w : World) (h : Sl q w 3 vs (s.map enB)) :
    Calls Tryz.prog 95 #[vs, .string n] w fun e w' => e = .returned (.tuple #[lkV (lkO s n), .bool (lkO s n).isSome]) ∧ Ch [] w w' := by
  obtain ⟨a, c, rfl, hlc, hmx⟩ := h.form'
  simp only [List.length_map] at hlc h ⊢
  unfold maxLen at hmx
  have HAt := Lib.hid (fun k hk hn he => lkO_at s n k hk hn he)
  have HNo := Lib.hid (fun hn => lkO_none s n hn)
  generalize lkO s n = R at *
  have hcA : Ch [] w (w.alloc (.cells #[.string ⟨#[]⟩, .slice none 0 0] 24)) := (Ch.refl _ _).alloc _
  have hby := Blk.new w 24 #[.string ⟨#[]⟩, .slice none 0 0]
  go_enter Tryz.func95, Tryz.ntmps95
  go_wp2
  generalize (w.alloc (.cells #[.string ⟨#[]⟩, .slice none 0 0] 24)) = wA at *
  go_loopw [6] (fun i wr => ∃ k : Nat, k ≤ s.length ∧ i = .int .i64 k ∧ Ch [] w wr ∧ Blk wr w.heap.size 24 #[.string ⟨#[]⟩, .slice none 0 0] ∧ Hid (∀ j (hj : j < s.length), j < k → s[j].1 ≠ n)) (fun i _ => s.length - (intOf i).toNat)
  case atStart => exact ⟨0, Nat.zero_le _, rfl, hcA, hby, fun j _ h => absurd h (Nat.not_lt_zero _)⟩
  case round =>
    obtain ⟨k, hk, rfl, hB, hbr, HN⟩ := hrel
    have z0 := hbr.cell 0
    have z1 := hbr.cell 1
    have f0 := hbr.frozen 0
    have f1 := hbr.frozen 1
    by_cases hlt : k < s.length
    · obtain ⟨b, o, rfl, hp, hc⟩ := Sl.at_ (h.ch0 hB) (i := k) (cs := enB s[k]) (by simp [hlt])
      have c0 := hc 0 _ rfl
      have c1 := hc 1 _ rfl
      have c2 := hc 2 _ rfl
      simp only [Nat.add_zero, ← Nat.add_assoc] at c0 c1 c2
      have hbs := beqS s[k].1 n
      have j1 : decide (k < s.length) = true := decide_eq_true hlt
      by_cases he : s[k].1 = n
      · have HX : R = some s[k].2 := HAt.out k hlt (fun j hj => HN.out j _ hj) he
        rw [decide_eq_true he] at hbs
        clear he hc HAt HNo
        generalize s[k] = x at *
        subst HX
        go_wp2
        exact lookup_fin hbr hB _ (by rfl) (by rfl) (by rfl)
      · have HX : Hid (∀ j (hj : j < s.length), j < k + 1 → s[j].1 ≠ n) := fun j hj h1 => by
          rcases Nat.lt_succ_iff_lt_or_eq.1 h1 with h2 | h2
          · exact HN.out j hj h2
          · subst h2; exact he
        rw [decide_eq_false he] at hbs
        clear he hc
        generalize s[k] = x at *
        go_wp2
        go_roundw
        case rel => exact ⟨k + 1, by omega, by go_num, hB, hbr, HX⟩
        case measure => simp [intOf]; omega
    · have HX : R = none := HNo.out (fun j hj => HN.out j hj (by omega))
      have j1 : decide (k < s.length) = false := decide_eq_false hlt
      clear HAt HNo
      subst HX
      go_wp2
      exact lookup_fin hbr hB _ (by rfl) (by rfl) (by rfl)

set_option maxRecDepth 100000 in
set_option maxHeartbeats 2000000 in
theorem decimal_ : ∀ n : Nat, n ≤ 1000000 → ∀ w : World, Calls Tryz.prog 21 #[.int .i64 (n : Int)] w fun e w' => e = .returned (.string (decB n)) ∧ Ch [] w w' := by
  intro n
  induction n using Nat.strongRecOn with
  | _ n ih =>
    intro hn w
    have HIH := Lib.hid ih; clear ih
    by_cases h10 : n < 10
    · have HD := Lib.hid (show decB n = ⟨#[(48 + n).toUInt8]⟩ by rw [decB.eq_def n, if_pos h10])
      have hcv := dig_conv n h10 w
      generalize (48 + n).toUInt8 = d at *
      generalize decB n = R at *
      go_enter Tryz.func21, Tryz.ntmps21
      go_wp2
      go_ret
      exact ⟨by rw [HD.out]; rfl, (Ch.refl _ _).alloc _⟩
    · have HD := Lib.hid (show decB n = decB (n / 10) ++ ⟨#[(48 + n % 10).toUInt8]⟩ by rw [decB.eq_def n, if_neg h10])
      obtain ⟨m, hm⟩ : ∃ m : Nat, m = n / 10 := ⟨_, rfl⟩
      obtain ⟨r, hr⟩ : ∃ r : Nat, r = n % 10 := ⟨_, rfl⟩
      have hm0 : ((n : Int) / 10) = (m : Int) := by omega
      have hr0 : ((n : Int) % 10) = (r : Int) := by omega
      have hw : IntKind.i64.wrap ((n : Int) / 10) = (m : Int) := by rw [hm0]; have : m ≤ 1000000 := (by omega); simp [IntKind.wrap, IntKind.signed, IntKind.bits]; omega
      have hrt : Int.tmod (n : Int) 10 = (r : Int) := by rw [Int.tmod_eq_emod_of_nonneg (by omega)]; exact hr0
      have hr1 : r < 10 := by omega
      have hw1 : IntKind.i64.wrap (48 + (r : Int)) = 48 + (r : Int) := by simp [IntKind.wrap, IntKind.signed, IntKind.bits]; omega
      have hw2 : IntKind.u8.wrap (48 + (r : Int)) = 48 + (r : Int) := by simp [IntKind.wrap, IntKind.signed, IntKind.bits]; omega
      have hcall := HIH.out m (by omega) (by omega) w.drew
      have hcall2 := HIH.out m (by omega) (by omega) (w.alloc (.cells #[.int .u8 (48 + (r : Int))] 5)).drew
      have hcv := fun wz => dig_conv r hr1 wz
      have HCV := Lib.hid (fun wz B hb => dig_at r hr1 (w := wz) (B := B) hb)
      have hcv3 := dig_at r hr1 (w := (w.alloc (.cells #[.int .u8 (48 + (r : Int))] 5)).drew) (B := w.heap.size) ((Blk.new w 5 #[.int .u8 (48 + (r : Int))]).drew)
      have hsz : ¬ 9223372036854775807 < (decB m).size + 1 := by have := decB_size m; omega
      rw [← hm, ← hr] at HD
      generalize (48 + r).toUInt8 = d at hcv hcv3 HCV HD
      generalize decB n = R at *
      generalize decB m = M at *
      clear hm hr hm0 HIH
      go_enter Tryz.func21, Tryz.ntmps21
      go_wp2
      go_region_law (first
        | (go_simp; go_at_call 21; with_reducible refine hcall.mono ?_; rintro e w1 ⟨rfl, hc1⟩; have hz : Ch [] w w1 := (Ch.refl [] w).drew.trans hc1)
        | (go_simp; go_at_call 21; with_reducible refine hcall2.mono ?_; rintro e w1 ⟨rfl, hc1⟩; have hz : Ch [] w w1 := (((Ch.refl [] w).alloc (.cells #[.int .u8 (48 + (r : Int))] 5)).drew).trans hc1; have hcv2 := HCV.out w1 w.heap.size (((Blk.new w 5 #[.int .u8 (48 + (r : Int))]).drew).ch hc1 (by simp))))
      all_goals
        go_wp2
        go_ret
        exact ⟨by rw [HD.out]; rfl, by first | exact hz | exact hz.alloc _⟩
end
end

section
section
open Go.RowKit

theorem SlT.nil_ {q : Nat → Prop} {w' : World} {a : Option Addr} {c : Nat} (hc : c ≤ maxLen) : SlT q w' (.slice a 0 c) [] := ⟨[], ⟨a, c, rfl, Nat.zero_le _, hc, by simp⟩, by simp [TmsR]⟩

theorem apply_fin {w wz : World} {B1 : Nat} {nm : ByteArray} {va : Value} {ags : List Tm} {z0 z1 : Value} (hr : Blk wz B1 24 #[z0, z1]) (hB : Ch [] w wz) (hl : w.heap.size ≤ B1)
    (a : Act) (h4 : a.tmps.getD 4 undef = .pointer (some ⟨B1, 0, none⟩)) (h5 : a.defers = [])
    (hin : SlT (fun b => w.heap.size ≤ b ∧ b ≠ B1) wz va ags) :
    bodyPost Tryz.prog Tryz.f59 (fun e w' => ∃ v', e = .returned (.agg #[.string nm, v']) ∧ SlT (fun b => w.heap.size ≤ b) w' v' ags ∧ Ch [] w w') .ret a
      ((wz.setCell ⟨B1, 0, none⟩ (.string nm)).setCell ⟨B1, 1, none⟩ va) := by
  have hbF : Blk ((wz.setCell ⟨B1, 0, none⟩ (.string nm)).setCell ⟨B1, 1, none⟩ va) B1 24 #[.string nm, va] := (hr.set_ 0 _).set_ 1 _
  have hcF : Ch [B1] wz ((wz.setCell ⟨B1, 0, none⟩ (.string nm)).setCell ⟨B1, 1, none⟩ va) := ((Ch.refl _ _).set (by simp) _).set (by simp) _
  refine bodyPost_ret (results_cell_row (p := 4) (ty := 24) (by kernel_rfl) _ _ B1 24 _ _ _ h4 hbF Tryz.underlying24 rfl (by kernel_rfl)) h5 ?_
  exact ⟨va, rfl, (hin.ch hcF (by intro b _ hb; simp; omega)).weak (fun b _ hb => by omega), hB.step hcF (by simp; omega)⟩

set_option maxRecDepth 100000 in
set_option maxHeartbeats 8000000 in
theorem apply_ (s : List Bd) : ∀ (n : Nat) (t : Tm), t.sz ≤ n → t.sz ≤ 1000000 → ∀ (B b : Nat), Nice B b t → B ≤ maxLen → ∀ (p q : Nat → Prop) (v vs : Value) (w : World), SlT p w v t.args → Sl q w 3 vs (s.map enB) →
    Calls Tryz.prog 59 #[vs, .agg #[.string t.name, v]] w fun e w' => ∃ v', e = .returned (.agg #[.string (subT (lkF s) t).name, v']) ∧ SlT (fun b => w.heap.size ≤ b) w' v' (subT (lkF s) t).args ∧ Ch [] w w' := by
  intro n
  induction n with
  | zero => intro t ht; cases t; simp [Tm.sz] at ht
  | succ n ih =>
    intro t ht hbig B b hN hBm p q v vs w h hs
    obtain ⟨nm, ags⟩ := t
    obtain ⟨a, c, rfl, hlc, hmx⟩ := h.form
    simp only [Tm.args, Tm.name, Tm.sz] at h hlc ht hbig ⊢
    simp only [Nice] at hN
    have hsl := szs_len ags
    have HIH := Lib.hid ih; clear ih
    have HNI := Lib.hid (niceL_mem.1 hN.2.2)
    have HBM := Lib.hid hBm
    obtain ⟨av, cv, rfl, _, _⟩ := hs.form'
    simp only [List.length_map] at hs ⊢
    have hvar := fun wz => variable7_ nm a ags.length c wz (Nat.le_trans hN.1 hBm)
    have hlk := fun wz hz => lookup_ s q (.slice av s.length cv) nm wz hz
    have HCM := Lib.hid hmx
    unfold maxLen at hmx
    clear hN hBm
    obtain ⟨wA, hwA⟩ : ∃ wA, (w.alloc (.cells #[.string nm, .slice a ags.length c] 24)).alloc (.cells #[.string ⟨#[]⟩, .slice none 0 0] 24) = wA := ⟨_, rfl⟩
    have g0 : Blk wA w.heap.size 24 #[.string nm, .slice a ags.length c] := by rw [← hwA]; exact (Blk.new _ _ _).alloc _
    have g1 : Blk wA (w.heap.size + 1) 24 #[.string ⟨#[]⟩, .slice none 0 0] := by
      rw [← hwA]
      have := Blk.new (w.alloc (.cells #[.string nm, .slice a ags.length c] 24)) 24 #[.string ⟨#[]⟩, .slice none 0 0]
      simpa using this
    have hcA : Ch [] w wA := by rw [← hwA]; exact ((Ch.refl _ _).alloc _).alloc _
    have b0 := g0.cell 0
    have b1 := g0.cell 1
    cases hV : (decide (ags.length = 0) && varB nm) with
    | true =>
      rw [hV] at hvar
      simp only [Bool.and_eq_true, decide_eq_true_eq] at hV
      obtain ⟨h0, hv⟩ := hV
      have h0' : ags = [] := List.eq_nil_of_length_eq_zero h0
      subst h0'
      simp only [List.length_nil] at *
      cases hL : lkO s nm with
      | some u =>
        have HS : subT (lkF s) (.mk nm []) = .mk u [] := by simp only [subT, hv, if_true, lkF, hL, Option.getD_some]
        rw [hL] at hlk
        rw [HS]
        simp only [lkV, Option.isSome] at hlk ⊢
        clear HS hL hv h0
        go_enter Tryz.func59, Tryz.ntmps59
        go_wp2_with (first
          | (go_at_call 94; refine (hvar _).mono ?_; rintro e w3 ⟨rfl, hc3⟩; clear hvar; have x0 := (g0.ch hc3 (by simp)).cell 0; have x1 := (g0.ch hc3 (by simp)).cell 1)
          | (go_at_call 95; refine (hlk _ (hs.ch0 (hcA.trans hc3))).mono ?_; rintro e w4 ⟨rfl, hc4⟩; clear hlk; have k1 := ((g1.ch hc3 (by simp)).ch hc4 (by simp)).alloc (.cells #[.string u, .slice none 0 0] 24); have y0 := k1.cell 0; have y1 := k1.cell 1; have f0 := k1.frozen 0; have f1 := k1.frozen 1; have k2 := Blk.new w4 24 #[.string u, .slice none 0 0]; have q0 := k2.cell 0; have q1 := k2.cell 1; have hC4 := ((hcA.trans hc3).trans hc4).alloc (.cells #[.string u, .slice none 0 0] 24)))
        exact apply_fin k1 hC4 (by omega) _ (by rfl) (by rfl) (SlT.nil_ (by decide))
      | none =>
        have HS : subT (lkF s) (.mk nm []) = .mk nm [] := by simp only [subT, hv, if_true, lkF, hL, Option.getD_none]
        rw [hL] at hlk
        rw [HS]
        simp only [lkV, Option.isSome] at hlk ⊢
        clear HS hL hv h0
        go_enter Tryz.func59, Tryz.ntmps59
        go_wp2_with (first
          | (go_at_call 94; refine (hvar _).mono ?_; rintro e w3 ⟨rfl, hc3⟩; clear hvar; have x0 := (g0.ch hc3 (by simp)).cell 0; have x1 := (g0.ch hc3 (by simp)).cell 1)
          | (go_at_call 95; refine (hlk _ (hs.ch0 (hcA.trans hc3))).mono ?_; rintro e w4 ⟨rfl, hc4⟩; clear hlk; have k1 := ((g1.ch hc3 (by simp)).ch hc4 (by simp)).alloc (.cells #[.string ⟨#[]⟩, .slice none 0 0] 24); have y0 := k1.cell 0; have y1 := k1.cell 1; have f0 := k1.frozen 0; have f1 := k1.frozen 1; have k2 := ((g0.ch hc3 (by simp)).ch hc4 (by simp)).alloc (.cells #[.string ⟨#[]⟩, .slice none 0 0] 24); have q0 := k2.cell 0; have q1 := k2.cell 1; have hC4 := ((hcA.trans hc3).trans hc4).alloc (.cells #[.string ⟨#[]⟩, .slice none 0 0] 24)))
        exact apply_fin k1 hC4 (by omega) _ (by rfl) (by rfl) (SlT.nil_ HCM.out)
    | false =>
      have HS : subT (lkF s) (.mk nm ags) = .mk nm (ags.map (subT (lkF s))) := by
        cases ags with
        | nil =>
          have hv : varB nm = false := by simpa using hV
          simp only [subT, hv, List.map_nil]; simp
        | cons x r => simp only [subT, subL_map]
      rw [hV] at hvar
      rw [HS]
      show Calls _ _ _ _ (fun e w' => ∃ v', e = .returned (.agg #[.string nm, v']) ∧ SlT (fun b => w.heap.size ≤ b) w' v' (ags.map (subT (lkF s))) ∧ Ch [] w w')
      have hml : (ags.map (subT (lkF s))).length = ags.length := by simp
      have HLE := Lib.hid hml; clear hml
      have HGE : Hid (∀ k (hk : k < ags.length), (ags.map (subT (lkF s)))[k]'(by rw [HLE.out]; exact hk) = subT (lkF s) ags[k]) := fun k hk => by simp
      clear HS hV hlk
      generalize hags' : ags.map (subT (lkF s)) = ags' at *
      clear hags'
      go_enter Tryz.func59, Tryz.ntmps59
      go_wp2_with (go_at_call 94; refine (hvar _).mono ?_; rintro e w3 ⟨rfl, hc3⟩; clear hvar; have x0 := (g0.ch hc3 (by simp)).cell 0; have x1 := (g0.ch hc3 (by simp)).cell 1)
      have hC3 := hcA.trans hc3
      have i0 := (g0.ch hc3 (by simp)).alloc (.cells #[.string nm, .slice none 0 0] 24)
      have i1 := (g1.ch hc3 (by simp)).alloc (.cells #[.string nm, .slice none 0 0] 24)
      have i2 := Blk.new w3 24 #[.string nm, .slice none 0 0]
      have hCN := hC3.alloc (.cells #[.string nm, .slice none 0 0] 24)
      have h23 : w.heap.size + 1 < w3.heap.size := (g1.ch hc3 (by simp)).lt
      have hsN : w3.heap.size + 1 ≤ (w3.alloc (.cells #[.string nm, .slice none 0 0] 24)).heap.size := by simp
      generalize w3.alloc (.cells #[.string nm, .slice none 0 0] 24) = wN at *
      obtain ⟨B2, hB2⟩ : ∃ B2, B2 = w3.heap.size := ⟨_, rfl⟩
      rw [← hB2] at i2 h23 hsN
      have HB2 := Lib.hid hB2
      rw [← hB2]
      clear hB2 x0 x1 b0 b1 g0 g1 hwA hcA
      go_loopw [8] (fun i wr => ∃ (k : Nat) (v : Value), k ≤ ags.length ∧ i = .int .i64 k ∧ Ch [] w wr ∧ B2 + 1 ≤ wr.heap.size ∧ Blk wr w.heap.size 24 #[.string nm, .slice a ags.length c] ∧ Blk wr (w.heap.size + 1) 24 #[.string ⟨#[]⟩, .slice none 0 0] ∧ Blk wr B2 24 #[.string nm, v] ∧ OwnT wr (B2 + 1) v (ags'.take k)) (fun i _ => ags.length - (intOf i).toNat)
      case atStart => exact ⟨0, _, Nat.zero_le _, rfl, hCN, hsN, i0, i1, i2, OwnT.nil _ _⟩
      case round =>
        obtain ⟨k, v, hk, rfl, hB, hszB, hr0, hr1, hr2, ho⟩ := hrel
        have z0 := hr0.cell 0
        have z1 := hr0.cell 1
        by_cases hlt : k < ags.length
        · obtain ⟨b', o, a', c', rfl, hp, c0, c1, hT⟩ := (h.ch0 hB).at_ hlt
          have HTS := Lib.hid (take_snoc ags' k (by rw [HLE.out]; exact hlt))
          rw [HGE.out k hlt] at HTS
          have hxz := szs_mem (List.getElem_mem hlt)
          have hnx := HNI.out _ (List.getElem_mem hlt)
          have j1 : decide (k < ags.length) = true := decide_eq_true hlt
          generalize ags[k] = x at *
          have hcall := HIH.out x (by omega) (by omega) B b hnx HBM.out _ _ _ _ wr.drew (hT.ch0 ((Ch.refl [] wr).drew)) ((hs.ch0 hB).ch0 ((Ch.refl [] wr).drew))
          generalize subT (lkF s) x = y at *
          obtain ⟨css, hown, htms⟩ := ho
          have hcl : css.length = k := by rw [htms.len]; simp; have := HLE.out; omega
          have HCL := Lib.hid hcl; clear hcl
          have HLV := Lib.hid (show ∀ b, v.ownBlock = some b → B2 + 1 ≤ b ∧ b < wr.heap.size from fun b hb => hown.lt hb)
          have x1 := hr2.cell 1
          go_wp2
          go_region_law (first
            | (go_simp; go_at_call 59; with_reducible refine hcall.mono ?_; rintro e w4 ⟨va, rfl, hva, hc4⟩; obtain ⟨a5, c5, rfl, hl5, hm5⟩ := hva.form; have hr54 := (Blk.drew hr2).ch hc4 (by simp); have x4 := hr54.cell 1; have x5 := (hr54.alloc (.cells #[.string y.name, .slice a5 y.args.length c5] 24)).cell 1)
            | (refine step_append_sl rfl _ _ _ rfl elT (base := B2 + 1) (v := v) rfl ((((Own.ch hown ((Ch.refl [] wr).drew) (by simp)).ch0' hc4)).ch ((Ch.refl [] w4).alloc _) (by simp)) rfl (Sl.one w4 2 24 [.string y.name, .slice a5 y.args.length c5] rfl (by simp [Value.oneCell'])) (by have := HCL.out; simp; omega) (by have := hc4.size; simp at this; simp; omega) ?_; intro v6 w6 ho6 hc6 hat6 hn6; clear hn6; obtain ⟨a7, c7, rfl⟩ := ho6.form'; have hr56 := (hr54.alloc (.cells #[.string y.name, .slice a5 y.args.length c5] 24)).ch hc6 (by intro hm; cases hvo : v.ownBlock with | none => rw [hvo] at hm; cases hm | some g6 => rw [hvo] at hm; have := (HLV.out g6 hvo).1; simp at hm; omega); have x6 := hr56.cell 1; have y6 := hr56.frozen 1))
          all_goals
            have hcA4 : Ch [] wr (w4.alloc (.cells #[.string y.name, .slice a5 y.args.length c5] 24)) := (((Ch.refl [] wr).drew).trans hc4).alloc _
            have hownA : Own (w4.alloc (.cells #[.string y.name, .slice a5 y.args.length c5] 24)) (B2 + 1) 24 2 v css := hown.ch0' hcA4
            have hsz4 : wr.heap.size ≤ w4.heap.size := hc4.size
            have htmsA := TmsR.imp (q := fun b => B2 + 1 ≤ b ∧ v.ownBlock ≠ some b) hcA4.size (fun b hb hp => ⟨hp, hcA4.block b hb (by simp)⟩) htms
            have hvaA : SlT (fun b => B2 + 1 ≤ b ∧ v.ownBlock ≠ some b) (w4.alloc (.cells #[.string y.name, .slice a5 y.args.length c5] 24)) (.slice a5 y.args.length c5) y.args :=
              (hva.ch0 ((Ch.refl _ _).alloc _)).weak fun b _ hb => ⟨by have : wr.heap.size ≤ b := hb; omega, fun e => by have := (HLV.out b e).2; have : wr.heap.size ≤ b := hb; omega⟩
            have hoT := OwnT.add hownA htmsA hvaA hc6 hat6 ho6
            have hlv6 : ∀ b, b ∈ v.ownBlock.toList → B2 + 1 ≤ b := by
              intro b hb
              cases hvo : v.ownBlock with
              | none => rw [hvo] at hb; cases hb
              | some g6 => rw [hvo] at hb; simp at hb; subst hb; exact (HLV.out b hvo).1
            have hr06 := ((((Blk.drew hr0)).ch hc4 (by simp)).alloc (.cells #[.string y.name, .slice a5 y.args.length c5] 24)).ch hc6 (fun hm => by have := hlv6 _ hm; omega)
            have hr16 := ((((Blk.drew hr1)).ch hc4 (by simp)).alloc (.cells #[.string y.name, .slice a5 y.args.length c5] 24)).ch hc6 (fun hm => by have := hlv6 _ hm; omega)
            have hB6 : Ch [] w w6 := (hB.trans hcA4).step hc6 (fun x hx => .inr (by have := hlv6 _ hx; omega))
            have hcS : Ch [B2] w6 (w6.setCell ⟨B2, 1, none⟩ (.slice a7 (css.length + 1) c7)) := (Ch.refl _ _).set (by simp) _
            have hlv7 : (css ++ [[Value.string y.name, Value.slice a5 y.args.length c5]]).length = css.length + 1 := by simp
            rw [hlv7] at hoT
            have hoF := hoT.ch hcS (by simp)
            have hxx : (Tm.mk y.name y.args) = y := by cases y; rfl
            rw [hxx, ← HTS.out] at hoF
            have hr0F := hr06.far (p := ⟨B2, 1, none⟩) (by simp; omega) (.slice a7 (css.length + 1) c7)
            have hr1F := hr16.far (p := ⟨B2, 1, none⟩) (by simp; omega) (.slice a7 (css.length + 1) c7)
            have hr2F : Blk (w6.setCell ⟨B2, 1, none⟩ (.slice a7 (css.length + 1) c7)) B2 24 #[.string nm, .slice a7 (css.length + 1) c7] := hr56.set_ 1 _
            have hBF : Ch [] w (w6.setCell ⟨B2, 1, none⟩ (.slice a7 (css.length + 1) c7)) := hB6.set (.inr (by simp; omega)) _
            have hszF : B2 + 1 ≤ (w6.setCell ⟨B2, 1, none⟩ (.slice a7 (css.length + 1) c7)).heap.size := by have h1 := hcA4.size; have h2 := hc6.size; have h3 := hcS.size; omega
            generalize (w6.setCell ⟨B2, 1, none⟩ (.slice a7 (css.length + 1) c7)) = wF at *
            generalize css.length + 1 = nF at *
            clear hoT hr56 hr54 x1 x4 x5 x6 y6 hat6 ho6 hvaA htmsA hownA hcA4 hva htms hown hcall c0 c1 hcS hr16 hr06 hB6 hc4 hxx
            go_wp2
            go_roundw
            case rel => exact ⟨k + 1, _, by omega, by go_num, hBF, hszF, hr0F, hr1F, hr2F, hoF⟩
            case measure => simp [intOf]; omega
        · rw [List.take_of_length_le (by have := HLE.out; omega)] at ho
          have hfv : ∃ a n c, v = .slice a n c := by obtain ⟨css0, hw0, _⟩ := ho; obtain ⟨av, cv, e⟩ := hw0.form'; exact ⟨_, _, _, e⟩
          obtain ⟨av, nv, cv, rfl⟩ := hfv
          have y0 := hr2.cell 0
          have y1 := hr2.cell 1
          have q0 := hr1.cell 0
          have q1 := hr1.cell 1
          have f0 := hr1.frozen 0
          have f1 := hr1.frozen 1
          have j1 : decide (k < ags.length) = false := decide_eq_false hlt
          go_wp2
          exact apply_fin hr1 hB (by omega) _ (by rfl) (by rfl) (ho.slt.weak fun b _ hb => ⟨by omega, by omega⟩)
end
end
end Go.Proofs.YtaaomocodkpmfaaGreatDoor
