/- The walk of VaultPlays: it returns true, and what lay in memory before the call lies there as it lay. -/
import Derived.Test.YtnhkeenhaaeknaaBlk
import Derived.Test.YtnhkeenhaaeknaaOwn
import Derived.Test.YtnhkeenhaaeknaaPlay
import Derived.Deep.RegionHeld
namespace Go.Proofs.Ytnhkeenhaaeknaa
open Go.RowKit
set_option linter.unusedSimpArgs false
section
variable {w : World}

/-- Some draws on. -/
def Drew (w w' : World) : Prop := ∃ n, w' = w.drewN n

/-- Behind the law's own reckoning of a raise or a lock. -/
def Lw.mid (l : Lw) (o : Opn) : Int × Lw := if o.kind = 1 ∨ o.kind = 2 then l.act o else (0, l)

theorem OpAt.drewN {b : Nat} {o : Opn} (h : OpAt w b o) (n : Nat) : OpAt (w.drewN n) b o := ⟨h.k0, h.k1, h.k2, h.k3⟩
theorem Safe.drewN {base b g cap : Nat} {bs : List Int} {s : St} (h : Safe base w b g cap bs s) (n : Nat) : Safe base (w.drewN n) b g cap bs s := ⟨h.at_.drewN n, h.own, h.lt⟩
theorem below_drewN' {a : World} {B : Nat} (h : Below B a w) (n : Nat) : Below B a (w.drewN n) := ⟨h.os, h.tape, h.output, h.size, h.block⟩

theorem pre_zero {l : Lw} {o : Opn} (h : l.pre o = 0) : l.dw = false ∧ (o.kind = 1 → 0 ≤ o.a ∧ o.a ≤ 31 ∧ 0 ≤ o.b ∧ o.b ≤ 281474976710656) := by
  unfold Lw.pre at h
  split at h
  · simp at h
  · rename_i hd
    split at h
    · simp at h
    · rename_i hr
      exact ⟨by simpa using hd, fun hk => by have := fun x => hr ⟨hk, x⟩; omega⟩

theorem put_keeps (l : Lw) (o : Opn) : (Lw.put l o).ar = l.ar ∧ (Lw.put l o).dn = l.dn := by unfold Lw.put; split <;> exact ⟨rfl, rfl⟩

theorem act_keeps (l : Lw) (o : Opn) : (l.act o).2.ar = l.ar ∧ (l.act o).2.dn = l.dn := by
  unfold Lw.act
  split
  · split
    · split
      · split
        · exact put_keeps _ o
        · exact ⟨rfl, rfl⟩
      · exact put_keeps _ o
    · exact put_keeps _ o
  · exact ⟨rfl, rfl⟩

/-- At a raise or a lock the law's step is its own reckoning. -/
theorem step_act {l l1 : Lw} {o : Opn} {gg : Int} (h : o.kind = 1 ∨ o.kind = 2) (hm : l.mid o = (gg, l1)) : l.step o = (gg, l1) ∧ l1.ar = l.ar ∧ l1.dn = l.dn := by
  have h1 : l.mid o = l.act o := if_pos h
  have h2 : l.step o = l.act o := if_pos h
  rw [h1] at hm
  have hk := act_keeps l o
  rw [hm] at hk
  exact ⟨h2.trans hm, hk.1, hk.2⟩

/-- What is kept by the power's own steps. -/
theorem step_mid (l : Lw) (o : Opn) : (l.step o).1 = (l.mid o).1 ∧ (l.step o).2.lk = (l.mid o).2.lk ∧ (l.step o).2.ix = (l.mid o).2.ix ∧ (l.step o).2.ch = (l.mid o).2.ch := by
  unfold Lw.step Lw.mid
  split
  · exact ⟨rfl, rfl, rfl, rfl⟩
  · split
    · exact ⟨rfl, rfl, rfl, rfl⟩
    · split
      · exact ⟨rfl, rfl, rfl, rfl⟩
      · exact ⟨rfl, rfl, rfl, rfl⟩

/-- What stands in memory in the middle of a round. -/
structure Mid (w wc : World) (base b g cp : Nat) (bs : List Int) (s : St) (bo : Nat) (o : Opn) (bi : Nat) (f : Nat → Int) : Prop where
  safe : Safe base wc b g cp bs s
  op : OpAt wc bo o
  blk : BlkAt wc bi f
  bel : Below w.heap.size w wc

theorem Mid.drewN {w wc : World} {base b g cp : Nat} {bs : List Int} {s : St} {bo : Nat} {o : Opn} {bi : Nat} {f : Nat → Int} (h : Mid w wc base b g cp bs s bo o bi f) (n : Nat) : Mid w (wc.drewN n) base b g cp bs s bo o bi f :=
  ⟨h.safe.drewN n, h.op.drewN n, h.blk.drewN n, below_drewN' h.bel n⟩

theorem Mid.below {w wc : World} {base b g cp : Nat} {bs : List Int} {s : St} {bo : Nat} {o : Opn} {bi : Nat} {f : Nat → Int} (h : Mid w wc base b g cp bs s bo o bi f) {w5 : World} (hb : Below wc.heap.size wc w5) : Mid w w5 base b g cp bs s bo o bi f :=
  ⟨h.safe.below hb, h.op.kept (grown_of_below hb none) (by simp), h.blk.kept (grown_of_below hb none) (by simp), h.bel.trans (hb.mono h.bel.size)⟩

theorem Mid.put {w wc : World} {base b g cp : Nat} {bs : List Int} {s : St} {bo : Nat} {o : Opn} {bi : Nat} {f : Nat → Int} (h : Mid w wc base b g cp bs s bo o bi f) (h1 : b < bi) (h2 : bi < bo) (h3 : w.heap.size ≤ bi) (i : Nat) (x : Int) : Mid w (wc.setCell ⟨bi, i, none⟩ (.int .i64 x)) base b g cp bs s bo o bi (putIx f i x) := by
  have hg := Lib.grownBy_setB (World.grownBy.refl wc (some bi)) i (.int .i64 x)
  have hlt := h.safe.lt
  exact ⟨h.safe.kept hg (by simp; omega) (by simp; omega), h.op.kept hg (by simp; omega), h.blk.set i x, h.bel.setCell (p := ⟨bi, i, none⟩) h3 _⟩

set_option maxRecDepth 100000 in
set_option maxHeartbeats 16000000 in
theorem plays_walk {r : Addr} {rc : Nat} {bs : List Int} (hbs : bs.length = 32) (hr : BytesAt w r bs) {lk : Bool} {a : Option Addr} {len cap : Nat} (hlen : len ≤ 100) (os : Nat → Opn) (hos : OpsAt w a len os) {ask : Int} :
    Calls Try.prog 6 #[.slice (some r) 32 rc, .bool lk, .slice a len cap, .int .i64 ask] w fun e w' => e = .returned (.bool true) ∧ Below w.heap.size w w' := by
  have Hos := Lib.hid hos
  have Hr := Lib.hid hr
  have Hbs := Lib.hid hbs
  clear hos hr hbs
  go_enter Try.func6, Try.ntmps6
  go_wp2_with (fail)
  refine (anchor_calls _).mono ?_
  rintro e w1 ⟨rfl, hb⟩
  have HB := Lib.hid hb
  clear hb
  go_wp2_with (fail)
  refine (new_calls lk Hbs.out (Hr.out.below HB.out)).mono ?_
  rintro e w2 ⟨b, g, cp, rfl, hs, hb⟩
  have HB2 := Lib.hid (HB.out.trans (hb.mono HB.out.size))
  have hlt := hs.base_lt
  have hsz := HB.out.size
  have HL := Lib.hid (show w.heap.size ≤ b by omega)
  have HL2 := Lib.hid hs.at_.lt
  obtain ⟨base, hs1⟩ : ∃ base, Safe base w2 b g cp bs (St.new lk) := ⟨_, hs⟩
  have HS := Lib.hid hs1
  clear hb hs hs1 hlt hsz HB
  go_wp2_with (fail)
  have HA := Lib.hid (blk_new w2)
  have HS3 := Lib.hid (HS.out.alloc (.cells #[.int .i64 0, .int .i64 0, .int .i64 0, .int .i64 0, .int .i64 0, .int .i64 0, .int .i64 0, .int .i64 0, .int .i64 0, .int .i64 0, .int .i64 0, .int .i64 0, .int .i64 0, .int .i64 0, .int .i64 0, .int .i64 0, .int .i64 0, .int .i64 0, .int .i64 0, .int .i64 0, .int .i64 0, .int .i64 0, .int .i64 0, .int .i64 0, .int .i64 0, .int .i64 0, .int .i64 0, .int .i64 0, .int .i64 0, .int .i64 0, .int .i64 0, .int .i64 0] 31))
  have HB3 := Lib.hid (HB2.out.alloc HB2.out.size (.cells #[.int .i64 0, .int .i64 0, .int .i64 0, .int .i64 0, .int .i64 0, .int .i64 0, .int .i64 0, .int .i64 0, .int .i64 0, .int .i64 0, .int .i64 0, .int .i64 0, .int .i64 0, .int .i64 0, .int .i64 0, .int .i64 0, .int .i64 0, .int .i64 0, .int .i64 0, .int .i64 0, .int .i64 0, .int .i64 0, .int .i64 0, .int .i64 0, .int .i64 0, .int .i64 0, .int .i64 0, .int .i64 0, .int .i64 0, .int .i64 0, .int .i64 0, .int .i64 0] 31))
  have HW := Lib.hid (show w.heap.size ≤ w2.heap.size from HB2.out.size)
  clear HS HB2
  obtain ⟨bi, hbi⟩ : ∃ bi, bi = w2.heap.size := ⟨_, rfl⟩
  rw [← hbi] at HA HL2 HW ⊢
  clear hbi
  obtain ⟨w3, hw3⟩ : ∃ w3, w3 = w2.alloc (.cells #[.int .i64 0, .int .i64 0, .int .i64 0, .int .i64 0, .int .i64 0, .int .i64 0, .int .i64 0, .int .i64 0, .int .i64 0, .int .i64 0, .int .i64 0, .int .i64 0, .int .i64 0, .int .i64 0, .int .i64 0, .int .i64 0, .int .i64 0, .int .i64 0, .int .i64 0, .int .i64 0, .int .i64 0, .int .i64 0, .int .i64 0, .int .i64 0, .int .i64 0, .int .i64 0, .int .i64 0, .int .i64 0, .int .i64 0, .int .i64 0, .int .i64 0, .int .i64 0] 31) := ⟨_, rfl⟩
  rw [← hw3] at HA HS3 HB3 ⊢
  clear hw3
  go_loopg [1, 12, 13, 14, 15, 16, 61] len (fun q v1 v12 v13 v14 v15 v16 v wr => ∃ (k : Nat) (s : St) (l : Lw), q + k = len ∧ v = .int .i64 k ∧ v1 = .bool l.lk ∧ v12 = .int .i64 l.lf ∧ v13 = .bool l.ar ∧ v14 = .bool l.dn ∧ v15 = .bool l.dw ∧ v16 = .int .i64 l.ch ∧ Sim s l ∧ Safe base wr b g cp bs s ∧ s.OkAt k ∧ BlkAt wr bi l.ix ∧ Below w.heap.size w wr)
  case atStart => exact ⟨0, St.new lk, ⟨lk, fun _ => 0, 0, false, false, false, 0⟩, by omega, rfl, rfl, rfl, rfl, rfl, rfl, rfl, sim_new lk, HS3.out, ⟨by simp [St.new], by simp [St.new], by simp [St.new], by simp [St.new]⟩, HA.out, HB3.out⟩
  case round =>
    obtain ⟨k, s, l, hk, rfl, rfl, rfl, rfl, rfl, rfl, rfl, hsim, hs, hok, har, hb⟩ := hrel
    have Hs := Lib.hid hs
    have Hok := Lib.hid hok
    have Har := Lib.hid har
    have Hb := Lib.hid hb
    have Hk := Lib.hid hk
    have Hsim := Lib.hid hsim
    clear hs hok har hb hsim HS3 HB3 HA
    by_cases hlt : k < len
    · obtain ⟨ha, bx, off, rfl, hbx, h0, h1, h2, h3⟩ := (Hos.out.below Hb.out) k hlt
      have Ho := Lib.hid ha
      clear hk ha
      have Hbx := Lib.hid hbx
      clear hbx
      go_upto_region 15 with (fail)
      obtain ⟨o, hoo⟩ : ∃ o, o = os k := ⟨_, rfl⟩
      rw [← hoo] at Ho ⊢
      have HM4 := Lib.hid (show Mid w (wr.alloc (.cells #[.int .i64 o.kind, .int .i64 o.a, .int .i64 o.b, .bool o.on] 33)) base b g cp bs s wr.heap.size o bi l.ix from ⟨Hs.out.alloc _, op_new wr o, Har.out.alloc _, Hb.out.alloc Hb.out.size _⟩)
      have HBO := Lib.hid (show bi < wr.heap.size from Har.out.arr.lt)
      clear hoo Hs Har Hb h0 h1 h2 h3 Hbx
      obtain ⟨bo, hbo⟩ : ∃ bo, bo = wr.heap.size := ⟨_, rfl⟩
      rw [← hbo] at HM4 HBO ⊢
      clear hbo
      obtain ⟨w4, hw4⟩ : ∃ w4, w4 = wr.alloc (.cells #[.int .i64 o.kind, .int .i64 o.a, .int .i64 o.b, .bool o.on] 33) := ⟨_, rfl⟩
      rw [← hw4] at HM4 ⊢
      clear hw4
      go_upto_region 16 with (fail)
      go_cut [72] (fun v wc => v = .bool (decide (o.kind = 1 ∨ o.kind = 2)) ∧ wc = w4)
      case first =>
        as_aux_lemma =>
          have hop0 := HM4.out.op.k0
          by_cases c1 : o.kind = 1
          · have hd : decide (o.kind = 1 ∨ o.kind = 2) = true := decide_eq_true (.inl c1)
            have Hd := Lib.hid hd
            clear hd
            have c1b := beq_iff_eq.2 c1
            clear c1
            go_wp2_with (fail)
            go_meet
            case rel => exact ⟨by rw [Hd.out], rfl⟩
          · by_cases c2 : o.kind = 2
            · have hd : decide (o.kind = 1 ∨ o.kind = 2) = true := decide_eq_true (.inr c2)
              have Hd := Lib.hid hd
              clear hd
              have c1b := beq_eq_false_iff_ne.2 c1
              have c2b := beq_iff_eq.2 c2
              clear c1 c2
              go_wp2_with (fail)
              go_meet
              case rel => exact ⟨by rw [Hd.out], rfl⟩
            · have hd : decide (o.kind = 1 ∨ o.kind = 2) = false := decide_eq_false (by omega)
              have Hd := Lib.hid hd
              clear hd
              have c1b := beq_eq_false_iff_ne.2 c1
              have c2b := beq_eq_false_iff_ne.2 c2
              clear c1 c2
              go_wp2_with (fail)
              go_meet
              case rel => exact ⟨by rw [Hd.out], rfl⟩
      case rest =>
      obtain ⟨rfl, hwc⟩ := hcut
      obtain rfl : w4 = wc := hwc.symm
      clear hwc
      obtain ⟨bk, hbk⟩ : ∃ bk, decide (o.kind = 1 ∨ o.kind = 2) = bk := ⟨_, rfl⟩
      rw [hbk]
      have Hbk := Lib.hid hbk
      clear hbk
      go_upto_if 72 with (fail)
      go_cut [1, 12, 13, 14, 15, 16, 19] (fun v1 v12 v13 v14 v15 v16 v19 wc => v1 = .bool (l.mid o).2.lk ∧ v12 = .int .i64 (l.mid o).2.lf ∧ v13 = .bool l.ar ∧ v14 = .bool l.dn ∧ v15 = .bool (l.mid o).2.dw ∧ v16 = .int .i64 (l.mid o).2.ch ∧ v19 = .int .i64 (l.mid o).1 ∧ Mid w wc base b g cp bs s bo o bi (l.mid o).2.ix)
      case first =>
        have Hne := Lib.hid (show some bi ≠ some b by have := HL2.out; simp; omega)
        by_cases c1 : o.kind = 1
        · have C := Lib.hid c1
          have c1b := beq_iff_eq.2 c1
          obtain rfl : bk = true := by have := Hbk.out; rw [← this]; exact decide_eq_true (.inl c1)
          clear c1
          go_upto_block 2 with (fail)
          go_cut [15, 19] (fun v15 v wc => v15 = .bool l.dw ∧ v = .int .i64 (l.pre o) ∧ Drew w4 wc)
          case first =>
            as_aux_lemma =>
              have hop0 := HM4.out.op.k0
              have hop1 := HM4.out.op.k1
              have hop2 := HM4.out.op.k2
              by_cases hd : l.dw = true
              · have Hd := Lib.hid hd
                have Hp := Lib.hid (show l.pre o = 42 from by simp [Lw.pre, hd])
                rw [hd]
                clear hd
                go_wp2_with (fail)
                go_meet
                case rel => exact ⟨by rw [Hd.out], by rw [Hp.out], 0, rfl⟩
              · have hd0 : l.dw = false := by simpa using hd
                clear hd
                have Hd := Lib.hid hd0
                by_cases hr : o.a < 0 ∨ 31 < o.a ∨ o.b < 0 ∨ 281474976710656 < o.b
                · have hrb : (decide (o.a < 0) || decide (31 < o.a) || decide (o.b < 0) || decide (281474976710656 < o.b)) = true := by simp; omega
                  have Hp := Lib.hid (show l.pre o = 13 from by simp [Lw.pre, hd0, C.out, hr])
                  rw [hd0]
                  clear hr hd0
                  go_wp2_with (fail)
                  all_goals
                    go_meet
                    case rel => exact ⟨by rw [Hd.out], by rw [Hp.out], 0, rfl⟩
                · have r1 : 0 ≤ o.a := by omega
                  have r2 : o.a ≤ 31 := by omega
                  have r3 : 0 ≤ o.b := by omega
                  have r4 : o.b ≤ 281474976710656 := by omega
                  have hcell := HM4.out.blk.arr.cell o.a.toNat (by omega)
                  by_cases hb : o.b < l.ix o.a.toNat
                  · have Hp := Lib.hid (show l.pre o = 52 from by simp only [Lw.pre, hd0, C.out]; simp only [Bool.false_eq_true, if_false, true_and]; rw [if_neg hr, if_pos hb])
                    rw [hd0]
                    clear hr hd0
                    go_wp2_with (fail)
                    go_quiet (fail)
                    go_wp2_with (fail)
                    go_meet
                    case rel => exact ⟨by rw [Hd.out], by rw [Hp.out], _, rfl⟩
                  · have Hp := Lib.hid (show l.pre o = 0 from by simp only [Lw.pre, hd0, C.out]; simp only [Bool.false_eq_true, if_false, true_and]; rw [if_neg hr, if_neg hb])
                    rw [hd0]
                    clear hr hd0
                    have hb2 : l.ix o.a.toNat ≤ o.b := by omega
                    go_wp2_with (fail)
                    go_quiet (fail)
                    go_wp2_with (fail)
                    go_meet
                    case rel => exact ⟨by rw [Hd.out], by rw [Hp.out], _, rfl⟩
          case rest =>
          obtain ⟨rfl, rfl, hdrew⟩ := hcut
          have HM5 := Lib.hid (show Mid w wc base b g cp bs s bo o bi l.ix from by obtain ⟨n, rfl⟩ := hdrew; exact HM4.out.drewN n)
          clear hdrew HM4
          have hop0 := HM5.out.op.k0
          have hop1 := HM5.out.op.k1
          have hop2 := HM5.out.op.k2
          have hop3 := HM5.out.op.k3
          by_cases hp : l.pre o = 0
          · obtain ⟨hdw, hrg⟩ := pre_zero hp
            have Hp := Lib.hid hp
            have Hdw := Lib.hid hdw
            have hch0 : 0 ≤ l.ch := by rw [← Hsim.out.ch]; exact Hok.out.ch0
            have hch1 : l.ch ≤ 1000 := by have := Hok.out.ch1; rw [← Hsim.out.ch]; omega
            have Hlf := Lib.hid (Hsim.out.lf hdw)
            have Har := Lib.hid Hsim.out.ar
            have hnb1 : ¬ bi = bo := by have := HBO.out; omega
            have hnb2 : ¬ bo = bi := by have := HBO.out; omega
            have hfz := HM5.out.blk.arr.free o.a.toNat
            obtain ⟨r1, r2, r3, r4⟩ := hrg C.out
            have hcell := HM5.out.blk.arr.cell o.a.toNat (by omega)
            clear hrg hp hdw
            rw [Hp.out, Hdw.out]
            by_cases har : l.ar = true
            · have Ha := Lib.hid har
              have hlf0 : 0 ≤ l.lf := Har.out har
              have hlf1 : l.lf ≤ 9223372036854775807 := by have h1 := Hlf.out; rw [if_pos har] at h1; rw [← h1]; exact Hok.out.hi
              clear har
              rw [Ha.out]
              by_cases hz : l.lf = 0
              · have Hz := Lib.hid hz
                clear hz hlf0 hlf1
                rw [Hz.out]
                by_cases hdn : l.dn = true
                · have Hn := Lib.hid hdn
                  clear hdn
                  rw [Hn.out]
                  as_aux_lemma =>
                    have HM := Lib.hid (show l.mid o = (42, ⟨l.lk, putIx l.ix o.a.toNat o.b, l.lf, l.ar, l.dn, true, l.ch + 1⟩) from by simp [Lw.mid, Lw.act, Lw.put, Hp.out, Hdw.out, Ha.out, Hz.out, Hn.out, C.out])
                    go_wp2_with (fail)
                    go_meet
                    case rel =>
                      rw [HM.out]
                      exact ⟨(by first | rfl | (simp only [Hp.out, Hdw.out, Ha.out, Hz.out, Hn.out])), (by first | rfl | (simp only [Hp.out, Hdw.out, Ha.out, Hz.out, Hn.out])), (by first | rfl | (simp only [Hp.out, Hdw.out, Ha.out, Hz.out, Hn.out])), (by first | rfl | (simp only [Hp.out, Hdw.out, Ha.out, Hz.out, Hn.out])), (by first | rfl | (simp only [Hp.out, Hdw.out, Ha.out, Hz.out, Hn.out])), (by first | rfl | (simp only [Hp.out, Hdw.out, Ha.out, Hz.out, Hn.out])), (by first | rfl | (simp only [Hp.out, Hdw.out, Ha.out, Hz.out, Hn.out])), HM5.out.put HL2.out HBO.out HW.out o.a.toNat o.b⟩
                · have hdn0 : l.dn = false := by simpa using hdn
                  have Hn := Lib.hid hdn0
                  clear hdn hdn0
                  rw [Hn.out]
                  as_aux_lemma =>
                    have HM := Lib.hid (show l.mid o = (42, ⟨l.lk, l.ix, l.lf, l.ar, l.dn, true, l.ch⟩) from by simp [Lw.mid, Lw.act, Lw.put, Hp.out, Hdw.out, Ha.out, Hz.out, Hn.out, C.out])
                    go_wp2_with (fail)
                    go_meet
                    case rel =>
                      rw [HM.out]
                      exact ⟨(by first | rfl | (simp only [Hp.out, Hdw.out, Ha.out, Hz.out, Hn.out])), (by first | rfl | (simp only [Hp.out, Hdw.out, Ha.out, Hz.out, Hn.out])), (by first | rfl | (simp only [Hp.out, Hdw.out, Ha.out, Hz.out, Hn.out])), (by first | rfl | (simp only [Hp.out, Hdw.out, Ha.out, Hz.out, Hn.out])), (by first | rfl | (simp only [Hp.out, Hdw.out, Ha.out, Hz.out, Hn.out])), (by first | rfl | (simp only [Hp.out, Hdw.out, Ha.out, Hz.out, Hn.out])), (by first | rfl | (simp only [Hp.out, Hdw.out, Ha.out, Hz.out, Hn.out])), HM5.out⟩
              · have hzb := beq_eq_false_iff_ne.2 hz
                have Hz := Lib.hid hz
                clear hz
                as_aux_lemma =>
                  have HM := Lib.hid (show l.mid o = (0, ⟨l.lk, putIx l.ix o.a.toNat o.b, l.lf - 1, l.ar, l.dn, l.dw, l.ch + 1⟩) from by simp [Lw.mid, Lw.act, Lw.put, Hp.out, Hdw.out, Ha.out, Hz.out, C.out])
                  go_wp2_with (fail)
                  go_meet
                  case rel =>
                    rw [HM.out]
                    exact ⟨(by first | rfl | (simp only [Hp.out, Hdw.out, Ha.out, Hz.out])), (by first | rfl | (simp only [Hp.out, Hdw.out, Ha.out, Hz.out])), (by first | rfl | (simp only [Hp.out, Hdw.out, Ha.out, Hz.out])), (by first | rfl | (simp only [Hp.out, Hdw.out, Ha.out, Hz.out])), (by first | rfl | (simp only [Hp.out, Hdw.out, Ha.out, Hz.out])), (by first | rfl | (simp only [Hp.out, Hdw.out, Ha.out, Hz.out])), (by first | rfl | (simp only [Hp.out, Hdw.out, Ha.out, Hz.out])), HM5.out.put HL2.out HBO.out HW.out o.a.toNat o.b⟩
            · have har0 : l.ar = false := by simpa using har
              have Ha := Lib.hid har0
              clear har har0
              rw [Ha.out]
              as_aux_lemma =>
                have HM := Lib.hid (show l.mid o = (0, ⟨l.lk, putIx l.ix o.a.toNat o.b, l.lf, l.ar, l.dn, l.dw, l.ch + 1⟩) from by simp [Lw.mid, Lw.act, Lw.put, Hp.out, Hdw.out, Ha.out, C.out])
                go_wp2_with (fail)
                go_meet
                case rel =>
                  rw [HM.out]
                  exact ⟨(by first | rfl | (simp only [Hp.out, Hdw.out, Ha.out])), (by first | rfl | (simp only [Hp.out, Hdw.out, Ha.out])), (by first | rfl | (simp only [Hp.out, Hdw.out, Ha.out])), (by first | rfl | (simp only [Hp.out, Hdw.out, Ha.out])), (by first | rfl | (simp only [Hp.out, Hdw.out, Ha.out])), (by first | rfl | (simp only [Hp.out, Hdw.out, Ha.out])), (by first | rfl | (simp only [Hp.out, Hdw.out, Ha.out])), HM5.out.put HL2.out HBO.out HW.out o.a.toNat o.b⟩
          · as_aux_lemma =>
            have hpb := beq_eq_false_iff_ne.2 hp
            have HM := Lib.hid (show l.mid o = (l.pre o, l) from by simp [Lw.mid, Lw.act, C.out, hp])
            clear hp
            go_wp2_with (fail)
            go_meet
            case rel =>
              rw [HM.out]
              exact ⟨rfl, rfl, rfl, rfl, rfl, rfl, rfl, HM5.out⟩
        · have C := Lib.hid c1
          have c1b := beq_eq_false_iff_ne.2 c1
          by_cases c2 : o.kind = 2
          · have C2 := Lib.hid c2
            have c2b := beq_iff_eq.2 c2
            obtain rfl : bk = true := by have := Hbk.out; rw [← this]; exact decide_eq_true (.inr c2)
            clear c1 c2
            go_upto_block 2 with (fail)
            go_cut [15, 19] (fun v15 v wc => v15 = .bool l.dw ∧ v = .int .i64 (l.pre o) ∧ Drew w4 wc)
            case first =>
              as_aux_lemma =>
                have hop0 := HM4.out.op.k0
                have hop1 := HM4.out.op.k1
                have hop2 := HM4.out.op.k2
                by_cases hd : l.dw = true
                · have Hd := Lib.hid hd
                  have Hp := Lib.hid (show l.pre o = 42 from by simp [Lw.pre, hd])
                  rw [hd]
                  clear hd
                  go_wp2_with (fail)
                  go_meet
                  case rel => exact ⟨by rw [Hd.out], by rw [Hp.out], 0, rfl⟩
                · have hd0 : l.dw = false := by simpa using hd
                  clear hd
                  have Hd := Lib.hid hd0
                  have Hp := Lib.hid (show l.pre o = 0 from by simp [Lw.pre, hd0, C.out])
                  rw [hd0]
                  clear hd0
                  go_wp2_with (fail)
                  go_quiet (fail)
                  go_wp2_with (fail)
                  go_meet
                  case rel => exact ⟨by rw [Hd.out], by rw [Hp.out], _, rfl⟩
            case rest =>
            obtain ⟨rfl, rfl, hdrew⟩ := hcut
            have HM5 := Lib.hid (show Mid w wc base b g cp bs s bo o bi l.ix from by obtain ⟨n, rfl⟩ := hdrew; exact HM4.out.drewN n)
            clear hdrew HM4
            have hop0 := HM5.out.op.k0
            have hop1 := HM5.out.op.k1
            have hop2 := HM5.out.op.k2
            have hop3 := HM5.out.op.k3
            by_cases hp : l.pre o = 0
            · obtain ⟨hdw, hrg⟩ := pre_zero hp
              have Hp := Lib.hid hp
              have Hdw := Lib.hid hdw
              have hch0 : 0 ≤ l.ch := by rw [← Hsim.out.ch]; exact Hok.out.ch0
              have hch1 : l.ch ≤ 1000 := by have := Hok.out.ch1; rw [← Hsim.out.ch]; omega
              have Hlf := Lib.hid (Hsim.out.lf hdw)
              have Har := Lib.hid Hsim.out.ar
              clear hrg hp hdw
              rw [Hp.out, Hdw.out]
              by_cases har : l.ar = true
              · have Ha := Lib.hid har
                have hlf0 : 0 ≤ l.lf := Har.out har
                have hlf1 : l.lf ≤ 9223372036854775807 := by have h1 := Hlf.out; rw [if_pos har] at h1; rw [← h1]; exact Hok.out.hi
                clear har
                rw [Ha.out]
                by_cases hz : l.lf = 0
                · have Hz := Lib.hid hz
                  clear hz hlf0 hlf1
                  rw [Hz.out]
                  by_cases hdn : l.dn = true
                  · have Hn := Lib.hid hdn
                    clear hdn
                    rw [Hn.out]
                    as_aux_lemma =>
                      have HM := Lib.hid (show l.mid o = (42, ⟨o.on, l.ix, l.lf, l.ar, l.dn, true, l.ch + 1⟩) from by simp [Lw.mid, Lw.act, Lw.put, Hp.out, Hdw.out, Ha.out, Hz.out, Hn.out, C.out, C2.out])
                      go_wp2_with (fail)
                      go_meet
                      case rel =>
                        rw [HM.out]
                        exact ⟨(by first | rfl | (simp only [Hp.out, Hdw.out, Ha.out, Hz.out, Hn.out])), (by first | rfl | (simp only [Hp.out, Hdw.out, Ha.out, Hz.out, Hn.out])), (by first | rfl | (simp only [Hp.out, Hdw.out, Ha.out, Hz.out, Hn.out])), (by first | rfl | (simp only [Hp.out, Hdw.out, Ha.out, Hz.out, Hn.out])), (by first | rfl | (simp only [Hp.out, Hdw.out, Ha.out, Hz.out, Hn.out])), (by first | rfl | (simp only [Hp.out, Hdw.out, Ha.out, Hz.out, Hn.out])), (by first | rfl | (simp only [Hp.out, Hdw.out, Ha.out, Hz.out, Hn.out])), HM5.out⟩
                  · have hdn0 : l.dn = false := by simpa using hdn
                    have Hn := Lib.hid hdn0
                    clear hdn hdn0
                    rw [Hn.out]
                    as_aux_lemma =>
                      have HM := Lib.hid (show l.mid o = (42, ⟨l.lk, l.ix, l.lf, l.ar, l.dn, true, l.ch⟩) from by simp [Lw.mid, Lw.act, Lw.put, Hp.out, Hdw.out, Ha.out, Hz.out, Hn.out, C.out, C2.out])
                      go_wp2_with (fail)
                      go_meet
                      case rel =>
                        rw [HM.out]
                        exact ⟨(by first | rfl | (simp only [Hp.out, Hdw.out, Ha.out, Hz.out, Hn.out])), (by first | rfl | (simp only [Hp.out, Hdw.out, Ha.out, Hz.out, Hn.out])), (by first | rfl | (simp only [Hp.out, Hdw.out, Ha.out, Hz.out, Hn.out])), (by first | rfl | (simp only [Hp.out, Hdw.out, Ha.out, Hz.out, Hn.out])), (by first | rfl | (simp only [Hp.out, Hdw.out, Ha.out, Hz.out, Hn.out])), (by first | rfl | (simp only [Hp.out, Hdw.out, Ha.out, Hz.out, Hn.out])), (by first | rfl | (simp only [Hp.out, Hdw.out, Ha.out, Hz.out, Hn.out])), HM5.out⟩
                · have hzb := beq_eq_false_iff_ne.2 hz
                  have Hz := Lib.hid hz
                  clear hz
                  as_aux_lemma =>
                    have HM := Lib.hid (show l.mid o = (0, ⟨o.on, l.ix, l.lf - 1, l.ar, l.dn, l.dw, l.ch + 1⟩) from by simp [Lw.mid, Lw.act, Lw.put, Hp.out, Hdw.out, Ha.out, Hz.out, C.out, C2.out])
                    go_wp2_with (fail)
                    go_meet
                    case rel =>
                      rw [HM.out]
                      exact ⟨(by first | rfl | (simp only [Hp.out, Hdw.out, Ha.out, Hz.out])), (by first | rfl | (simp only [Hp.out, Hdw.out, Ha.out, Hz.out])), (by first | rfl | (simp only [Hp.out, Hdw.out, Ha.out, Hz.out])), (by first | rfl | (simp only [Hp.out, Hdw.out, Ha.out, Hz.out])), (by first | rfl | (simp only [Hp.out, Hdw.out, Ha.out, Hz.out])), (by first | rfl | (simp only [Hp.out, Hdw.out, Ha.out, Hz.out])), (by first | rfl | (simp only [Hp.out, Hdw.out, Ha.out, Hz.out])), HM5.out⟩
              · have har0 : l.ar = false := by simpa using har
                have Ha := Lib.hid har0
                clear har har0
                rw [Ha.out]
                as_aux_lemma =>
                  have HM := Lib.hid (show l.mid o = (0, ⟨o.on, l.ix, l.lf, l.ar, l.dn, l.dw, l.ch + 1⟩) from by simp [Lw.mid, Lw.act, Lw.put, Hp.out, Hdw.out, Ha.out, C.out, C2.out])
                  go_wp2_with (fail)
                  go_meet
                  case rel =>
                    rw [HM.out]
                    exact ⟨(by first | rfl | (simp only [Hp.out, Hdw.out, Ha.out])), (by first | rfl | (simp only [Hp.out, Hdw.out, Ha.out])), (by first | rfl | (simp only [Hp.out, Hdw.out, Ha.out])), (by first | rfl | (simp only [Hp.out, Hdw.out, Ha.out])), (by first | rfl | (simp only [Hp.out, Hdw.out, Ha.out])), (by first | rfl | (simp only [Hp.out, Hdw.out, Ha.out])), (by first | rfl | (simp only [Hp.out, Hdw.out, Ha.out])), HM5.out⟩
            · as_aux_lemma =>
              have hpb := beq_eq_false_iff_ne.2 hp
              have HM := Lib.hid (show l.mid o = (l.pre o, l) from by simp [Lw.mid, Lw.act, C.out, C2.out, hp])
              clear hp
              go_wp2_with (fail)
              go_meet
              case rel =>
                rw [HM.out]
                exact ⟨rfl, rfl, rfl, rfl, rfl, rfl, rfl, HM5.out⟩
          · have C2 := Lib.hid c2
            have c2b := beq_eq_false_iff_ne.2 c2
            have HM := Lib.hid (show l.mid o = (0, l) from if_neg (by omega))
            obtain rfl : bk = false := by have := Hbk.out; rw [← this]; exact decide_eq_false (by omega)
            clear c1 c2
            go_wp2_with (fail)
            go_meet
            case rel =>
              rw [HM.out]
              exact ⟨rfl, rfl, rfl, rfl, rfl, rfl, rfl, HM4.out⟩
      case rest =>
      obtain ⟨gg, l1, hm⟩ : ∃ gg l1, l.mid o = (gg, l1) := ⟨_, _, rfl⟩
      rw [hm] at hcut
      obtain ⟨rfl, rfl, rfl, rfl, rfl, rfl, rfl, hmid⟩ := hcut
      have HM5 := Lib.hid hmid
      have Hm := Lib.hid hm
      clear hmid hm HM4
      dsimp only at HM5 ⊢
      have hop0 := HM5.out.op.k0
      go_upto_block 3 with (fail)
      clear hop0
      go_cut [12, 13, 14, 15, 21] (fun v12 v13 v14 v15 v21 wd => v12 = .int .i64 (l.step o).2.lf ∧ v13 = .bool (l.step o).2.ar ∧ v14 = .bool (l.step o).2.dn ∧ v15 = .bool (l.step o).2.dw ∧ v21 = .int .i64 (s.got o) ∧ Mid w wd base b g cp bs (s.step o) bo o bi l1.ix)
      case first =>
        as_aux_lemma =>
          have Hne : Hid (some bi ≠ some b) := by have := HL2.out; unfold Hid; simp; omega
          have Hne2 : Hid (some bo ≠ some b) := by have := HL2.out; have := HBO.out; unfold Hid; simp; omega
          have hop0 := HM5.out.op.k0
          have hop1 := HM5.out.op.k1
          have hop2 := HM5.out.op.k2
          have hop3 := HM5.out.op.k3
          by_cases c1 : o.kind = 1
          · have C := Lib.hid c1
            have c1b := beq_iff_eq.2 c1
            have HE := Lib.hid (step_act (l := l) (o := o) (.inl c1) Hm.out)
            clear c1
            go_wp2_with (fail)
            refine (raise_calls HM5.out.safe (Hok.out.ok (by omega)) o.a o.b).mono ?_
            rintro e w5 ⟨rfl, hs, hg⟩
            have HR := Lib.hid (show Mid w w5 base b g cp bs (s.step o) bo o bi l1.ix from
              ⟨by simp only [St.step, if_pos C.out]; exact hs, HM5.out.op.kept hg Hne2.out, HM5.out.blk.kept hg Hne.out, HM5.out.bel.grown hg HM5.out.bel.size (fun k e => by cases e; exact HL.out)⟩)
            have HG := Lib.hid (show s.got o = (s.raise o.a o.b).1 from by simp only [St.got, if_pos C.out])
            clear hs hg
            go_wp2_with (fail)
            go_meet
            case rel =>
              obtain ⟨h1, h2, h3⟩ := HE.out
              rw [h1, h2, h3, HG.out]
              exact ⟨rfl, rfl, rfl, rfl, rfl, HR.out⟩
          · have C := Lib.hid c1
            have c1b := beq_eq_false_iff_ne.2 c1
            by_cases c2 : o.kind = 2
            · have C2 := Lib.hid c2
              have c2b := beq_iff_eq.2 c2
              have HE := Lib.hid (step_act (l := l) (o := o) (.inr c2) Hm.out)
              clear c1 c2
              go_wp2_with (fail)
              refine (lock_calls HM5.out.safe (Hok.out.ok (by omega)) o.on).mono ?_
              rintro e w5 ⟨rfl, hs, hg⟩
              have HR := Lib.hid (show Mid w w5 base b g cp bs (s.step o) bo o bi l1.ix from
                ⟨by simp only [St.step, if_neg C.out, if_pos C2.out]; exact hs, HM5.out.op.kept hg Hne2.out, HM5.out.blk.kept hg Hne.out, HM5.out.bel.grown hg HM5.out.bel.size (fun k e => by cases e; exact HL.out)⟩)
              have HG := Lib.hid (show s.got o = (s.lock o.on).1 from by simp only [St.got, if_neg C.out, if_pos C2.out])
              clear hs hg
              go_wp2_with (fail)
              go_meet
              case rel =>
                obtain ⟨h1, h2, h3⟩ := HE.out
                rw [h1, h2, h3, HG.out]
                exact ⟨rfl, rfl, rfl, rfl, rfl, HR.out⟩
            · have C2 := Lib.hid c2
              have c2b := beq_eq_false_iff_ne.2 c2
              obtain ⟨rfl, rfl⟩ : gg = 0 ∧ l1 = l := by
                have h := Hm.out
                rw [show l.mid o = (0, l) from if_neg (by omega)] at h
                injection h with h1 h2
                exact ⟨h1.symm, h2.symm⟩
              have HG := Lib.hid (show s.got o = 0 from by simp only [St.got, if_neg C.out, if_neg C2.out])
              have C12 := Lib.hid (show ¬ (o.kind = 1 ∨ o.kind = 2) by omega)
              clear c1 c2
              by_cases c3 : o.kind = 3
              · have C3 := Lib.hid c3
                have c3b := beq_iff_eq.2 c3
                clear c3
                go_wp2_with (fail)
                refine (armed_calls HM5.out.safe o.a o.on).mono ?_
                rintro e w5 ⟨rfl, hs, hg⟩
                have HR := Lib.hid (show Mid w w5 base b g cp bs (s.step o) bo o bi l1.ix from
                  ⟨by simp only [St.step, if_neg C.out, if_neg C2.out, if_pos C3.out]; exact hs, HM5.out.op.kept hg Hne2.out, HM5.out.blk.kept hg Hne.out, HM5.out.bel.grown hg HM5.out.bel.size (fun k e => by cases e; exact HL.out)⟩)
                clear hs hg hop0 hop1 hop2 hop3
                have hop1 := HR.out.op.k1
                have hop3 := HR.out.op.k3
                go_wp2_with (fail)
                go_quiet (fail)
                go_wp2_with (fail)
                go_meet
                case rel =>
                  rw [show (l1.step o) = (0, { l1 with ar := decide (0 ≤ o.a), lf := o.a, dn := o.on }) from by simp only [Lw.step, if_neg C12.out, if_pos C3.out], HG.out]
                  exact ⟨rfl, rfl, rfl, rfl, rfl, HR.out.drewN _⟩
              · have C3 := Lib.hid c3
                have c3b := beq_eq_false_iff_ne.2 c3
                clear c3
                by_cases c4 : o.kind = 4
                · have C4 := Lib.hid c4
                  have c4b := beq_iff_eq.2 c4
                  clear c4
                  go_wp2_with (fail)
                  refine (booted_calls HM5.out.safe).mono ?_
                  rintro e w5 ⟨rfl, hs, hg⟩
                  have HR := Lib.hid (show Mid w w5 base b g cp bs (s.step o) bo o bi l1.ix from
                    ⟨by simp only [St.step, if_neg C.out, if_neg C2.out, if_neg C3.out, if_pos C4.out]; exact hs, HM5.out.op.kept hg Hne2.out, HM5.out.blk.kept hg Hne.out, HM5.out.bel.grown hg HM5.out.bel.size (fun k e => by cases e; exact HL.out)⟩)
                  clear hs hg
                  go_wp2_with (fail)
                  go_meet
                  case rel =>
                    rw [show (l1.step o) = (0, { l1 with ar := false, dw := false }) from by simp only [Lw.step, if_neg C12.out, if_neg C3.out, if_pos C4.out], HG.out]
                    exact ⟨rfl, rfl, rfl, rfl, rfl, HR.out⟩
                · have C4 := Lib.hid c4
                  have c4b := beq_eq_false_iff_ne.2 c4
                  clear c4
                  go_wp2_with (fail)
                  go_meet
                  case rel =>
                    rw [show (l1.step o) = (0, l1) from by simp only [Lw.step, if_neg C12.out, if_neg C3.out, if_neg C4.out], HG.out]
                    exact ⟨rfl, rfl, rfl, rfl, rfl, ⟨by simp only [St.step, if_neg C.out, if_neg C2.out, if_neg C3.out, if_neg C4.out]; exact HM5.out.safe, HM5.out.op, HM5.out.blk, HM5.out.bel⟩⟩
      case rest =>
      obtain ⟨rfl, rfl, rfl, rfl, rfl, hmid⟩ := hcut
      have HM6 := Lib.hid hmid
      clear hmid HM5
      obtain ⟨hsim2, hgot⟩ := sim_step Hsim.out o
      have hsm := step_mid l o
      rw [Hm.out] at hsm
      obtain ⟨e1, e2, e3, e4⟩ := hsm
      dsimp only at e1 e2 e3 e4
      rw [hgot, ← e1, ← e2, ← e4]
      rw [← e3] at HM6
      have Hok2 := Lib.hid (step_ok Hok.out Ho.out)
      have Hsim2 := Lib.hid hsim2
      clear hsim2 hgot e1 e2 e3 e4 Hm Hok Ho Hsim
      obtain ⟨l2, hl2⟩ : ∃ l2, l2 = (l.step o).2 := ⟨_, rfl⟩
      obtain ⟨g2, hg2⟩ : ∃ g2, g2 = (l.step o).1 := ⟨_, rfl⟩
      obtain ⟨s2, hs2⟩ : ∃ s2, s2 = s.step o := ⟨_, rfl⟩
      rw [← hl2] at HM6 Hsim2 ⊢
      rw [← hg2]
      rw [← hs2] at HM6 Hsim2 Hok2
      clear hl2 hg2 hs2
      go_upto_region 46 with (fail)
      go_cut [214] (fun v wx => v = .bool false ∧ Mid w wx base b g cp bs s2 bo o bi l2.ix)
      case first =>
        as_aux_lemma =>
          have HMd := Lib.hid (show Mid w wc.drew base b g cp bs s2 bo o bi l2.ix from HM6.out.drewN 1)
          have HAd := Lib.hid (show BytesAt wc.drew r bs from Hr.out.below HMd.out.bel)
          have hcv := string_of_bytes (c := rc) Hbs.out HAd.out
          clear HM6
          go_region_held (fun w' => Mid w w' base b g cp bs s2 bo o bi l2.ix) (first | exact HMd.out | exact HM8.out | assumption) (first | (go_at_call 16; refine (locked_calls HMd.out.safe.at_).mono ?_; rw [Hsim2.out.lk]; rintro e w5 ⟨rfl, rfl⟩) | (go_at_call 15; refine (down_calls HMd.out.safe.at_).mono ?_; rw [Hsim2.out.dw]; rintro e w5 ⟨rfl, rfl⟩) | (go_at_call 17; refine (changes_calls HMd.out.safe.at_).mono ?_; rw [Hsim2.out.ch]; rintro e w5 ⟨rfl, rfl⟩) | (go_at_call 9; refine (root_calls HMd.out.safe Hbs.out).mono ?_; rintro e w5 ⟨g5, cap5, rfl, hown, hb⟩; have HM8 := Lib.hid (HMd.out.below hb); have hcv5 := string_of_bytes (c := rc) Hbs.out (HAd.out.below hb); have hbo := ownsBytes Hbs.out hown; have hcr := string_of_bytes (c := cap5) Hbs.out hbo; clear hbo hown hb))
          all_goals go_wp2_with (fail)
          all_goals go_meet
          all_goals (case rel => exact ⟨rfl, HM8.out⟩)
      case rest =>
        as_aux_lemma =>
          obtain ⟨rfl, hmid⟩ := hcut
          have HM7 := Lib.hid hmid
          clear hmid HM6
          obtain ⟨cs, hcs, hsz, hc⟩ := HM7.out.blk
          have Hc := Lib.hid hc
          have Hsz := Lib.hid hsz
          have Hcs := Lib.hid hcs
          clear hc hsz hcs
          go_wp2_with (refine wpList_load_row rfl 31 _ rfl bi rfl 31 cs (0, 0) _ Hcs.out Try.underlying31 rfl (by rw [Hsz.out]; kernel_rfl) ?_)
          go_loop [216] (fun v => ∃ j : Nat, j ≤ 32 ∧ v = .int .i64 j) (fun v => 32 - (intOf v).toNat)
          case atStart => exact ⟨0, by omega, rfl⟩
          case round =>
            obtain ⟨j, hj, rfl⟩ := hrel
            by_cases hlj : j < 32
            · have hidx := run_index_arr (w := wc) Hc.out j hlj
              go_wp2_with (fail)
              refine (index_good HM7.out.safe.at_ j hlj).mono ?_
              rw [Hsim2.out.ix]
              rintro e w5 ⟨rfl, rfl⟩
              go_wp2_with (fail)
              go_round
              case rel => exact ⟨j + 1, by omega, by go_num⟩
              case measure => simp [intOf]; omega
            · go_wp2_with (fail)
              go_roundg (gk - 1)
              case measure => have := Hk.out; omega
              case rel => exact ⟨k + 1, s2, l2, by have := Hk.out; omega, by go_num, rfl, rfl, rfl, rfl, rfl, rfl, Hsim2.out, HM7.out.safe, Hok2.out, HM7.out.blk, HM7.out.bel⟩
    · clear hk
      as_aux_lemma =>
        by_cases hask : 0 ≤ ask ∧ ask < 32
        · obtain ⟨j, rfl⟩ : ∃ j : Nat, ask = j := ⟨ask.toNat, by omega⟩
          have hj : j < 32 := by omega
          have t1 : (0 : Int) ≤ (j : Int) := by omega
          have t2 : (j : Int) < 32 := by omega
          clear hask
          go_wp2_with (fail)
          refine (index_good Hs.out.at_ j hj).mono ?_
          rintro e w5 ⟨rfl, rfl⟩
          go_wp2_with (fail)
          go_ret
          exact ⟨rfl, Hb.out⟩
        · by_cases h1 : ask < 0
          · clear hask
            go_wp2_with (fail)
            refine (index_bad (.inl h1)).mono ?_
            rintro e w5 ⟨rfl, rfl⟩
            go_wp2_with (fail)
            go_ret
            exact ⟨rfl, Hb.out⟩
          · have h2 : 32 ≤ ask := by omega
            have t2 : decide (ask < 32) = false := decide_eq_false (by omega)
            have t1 : 0 ≤ ask := by omega
            clear hask h1
            go_wp2_with (fail)
            refine (index_bad (.inr (by omega))).mono ?_
            rintro e w5 ⟨rfl, rfl⟩
            go_wp2_with (fail)
            go_ret
            exact ⟨rfl, Hb.out⟩
end
end Go.Proofs.Ytnhkeenhaaeknaa
