/- A message is read as it was written; torn, or with a byte more, it is none. -/
import Derived.Test.YtohfplomliampaaDoorHfWireBack
namespace Go.Hf
open Go.RowKit Go.Proofs Go.V

theorem tv1 {full : List Int} {w c : Nat} {n : Int} (h : (full.drop c).take 1 = be 1 n) (hw : c + 1 ≤ w) (h0 : 0 ≤ n) (h1 : n < 256) : tv full w c 1 = n := tv_be h hw (.inl rfl) h0 (by rw [show (256 : Int) ^ 1 = 256 by decide]; exact h1)
theorem tv3 {full : List Int} {w c : Nat} {n : Int} (h : (full.drop c).take 3 = be 3 n) (hw : c + 3 ≤ w) (h0 : 0 ≤ n) (h1 : n < 16777216) : tv full w c 3 = n := tv_be h hw (.inr (.inl rfl)) h0 (by rw [show (256 : Int) ^ 3 = 16777216 by decide]; exact h1)
theorem tv4 {full : List Int} {w c : Nat} {n : Int} (h : (full.drop c).take 4 = be 4 n) (hw : c + 4 ≤ w) (h0 : 0 ≤ n) (h1 : n < 4294967296) : tv full w c 4 = n := tv_be h hw (.inr (.inr rfl)) h0 (by rw [show (256 : Int) ^ 4 = 4294967296 by decide]; exact h1)
theorem tvB {full : List Int} {w c : Nat} {v : Bool} (h : (full.drop c).take 1 = be 1 (bitN v)) (hw : c + 1 ≤ w) : decide (tv full w c 1 = 1) = v := by
  rw [tv1 h hw (by cases v <;> decide) (by cases v <;> decide)]
  cases v <;> rfl

theorem form_zero {p : Parts} {m : Msg} (h : formBad p m = false) : (p.1 = false → m.2.2.2.2.1 = 0) ∧ (p.2.1 = false → m.2.2.2.2.2.1 = 0) ∧ (p.2.2.1 = false → m.2.2.2.2.2.2.1 = 0) ∧ (p.2.2.2.1 = false → m.2.2.2.2.2.2.2.1 = 0) ∧
    (p.2.2.2.2.1 = false → m.2.2.2.2.2.2.2.2.1 = 0) ∧ (p.2.2.2.2.2.1 = false → m.2.2.2.2.2.2.2.2.2.1 = false) ∧ (p.2.2.2.2.2.2.1 = false → m.2.2.2.2.2.2.2.2.2.2 = 0) := by
  unfold formBad at h
  simp only [Bool.or_eq_false_iff, Bool.and_eq_false_iff, Bool.not_eq_false', decide_eq_true_eq] at h
  obtain ⟨⟨⟨⟨⟨⟨⟨g1, g2⟩, g3⟩, g4⟩, g5⟩, g6⟩, g7⟩, -⟩ := h
  refine ⟨fun e => ?_, fun e => ?_, fun e => ?_, fun e => ?_, fun e => ?_, fun e => ?_, fun e => ?_⟩
  · rcases g1 with g | g
    · rw [e] at g; cases g
    · exact g
  · rcases g2 with g | g
    · rw [e] at g; cases g
    · exact g
  · rcases g3 with g | g
    · rw [e] at g; cases g
    · exact g
  · rcases g4 with g | g
    · rw [e] at g; cases g
    · exact g
  · rcases g5 with g | g
    · rw [e] at g; cases g
    · exact g
  · rcases g6 with g | g
    · rw [e] at g; cases g
    · exact g
  · rcases g7 with g | g
    · rw [e] at g; cases g
    · exact g

theorem kinds {m : Msg} {c : Cfg} (hm : MsgOk c m) : m.1 = 1 ∨ m.1 = 2 ∨ m.1 = 3 ∨ m.1 = 4 ∨ m.1 = 5 ∨ m.1 = 6 ∨ m.1 = 7 ∨ m.1 = 8 ∨ m.1 = 9 := by
  have k0 := hm.k0
  have k1 := hm.k1
  omega

theorem kind_at {c : Cfg} {m : Msg} (hm : MsgOk c m) (p : Parts) (ext : List Int) {w : Nat} (hw : 1 ≤ w) : tv (encM p m ++ ext) w 0 1 = m.1 := by
  have k0 := hm.k0
  have k1 := hm.k1
  exact tv1 rfl hw (by omega) (by omega)

theorem bit_at {c : Cfg} {m : Msg} (hm : MsgOk c m) {p : Parts} (hp : idxI tab1 m.1 = some p) (ext : List Int) (w : Nat) (h : p.2.2.2.2.2.1 = true) : tv (encM p m ++ ext) w (cbit p) 1 ≤ 1 := by
  have hle : ∀ v, bitN v ≤ 1 := fun v => by cases v <;> decide
  have hge : ∀ v, 0 ≤ bitN v := fun v => by cases v <;> decide
  have hk := kinds hm
  obtain ⟨k, fr, to, ⟨s, n⟩, la, ke, va, ve, ak, ye, co⟩ := m
  simp only at hk hp
  refine Int.le_trans (tv_le (n := bitN ye) ?_ (.inl rfl) (hge ye) (by rw [show (256 : Int) ^ 1 = 256 by decide]; have := hle ye; omega)) (hle ye)
  rcases hk with rfl | rfl | rfl | rfl | rfl | rfl | rfl | rfl | rfl
  all_goals
    have hp := Option.some.inj hp
    subst hp
    first
    | exact absurd h (by decide)
    | rfl

set_option maxHeartbeats 4000000 in
theorem fields {c : Cfg} {m : Msg} (hm : MsgOk c m) {p : Parts} (hp : idxI tab1 m.1 = some p) (hf : formBad p m = false) (ext : List Int) {w : Nat} (hw : tot p ≤ w) (hl : c.1 ≤ 3) (hn : c.2.1.length ≤ 4) :
    msgD p (encM p m ++ ext) w m.1 = (m.1, m.2.1, m.2.2.1, m.2.2.2.1.1, m.2.2.2.1.2, m.2.2.2.2) := by
  have hk := kinds hm
  obtain ⟨z1, z2, z3, z4, z5, z6, z7⟩ := form_zero hf
  obtain ⟨-, -, f0, f1, t0, t1, x0, x1, n0, n1, l0, l1, y0, y1, v0, v1, r0, r1, a0, a1, cd, -⟩ := hm
  obtain ⟨k, fr, to, ⟨s, n⟩, la, ke, va, ve, ak, ye, co⟩ := m
  simp only at hk hp f0 f1 t0 t1 x0 x1 n0 n1 l0 l1 y0 y1 v0 v1 r0 r1 a0 a1 cd z1 z2 z3 z4 z5 z6 z7 ⊢
  rcases hk with rfl | rfl | rfl | rfl | rfl | rfl | rfl | rfl | rfl
  all_goals
    have hp := Option.some.inj hp
    subst hp
    refine Prod.ext rfl (Prod.ext (tv1 rfl (Nat.le_trans (by decide) hw) f0 (by simp only; omega)) (Prod.ext (tv1 rfl (Nat.le_trans (by decide) hw) t0 (by simp only; omega)) (Prod.ext (tv1 rfl (Nat.le_trans (by decide) hw) x0 (by simp only; omega))
      (Prod.ext (tv3 rfl (Nat.le_trans (by decide) hw) (by simp only; omega) (by simp only; omega)) (Prod.ext ?_ (Prod.ext ?_ (Prod.ext ?_ (Prod.ext ?_ (Prod.ext ?_ (Prod.ext ?_ ?_))))))))))
    · first | exact (z1 rfl).symm | exact tv1 rfl (Nat.le_trans (by decide) hw) l0 (by simp only; omega)
    · first | exact (z2 rfl).symm | exact tv1 rfl (Nat.le_trans (by decide) hw) y0 (by simp only; omega)
    · first | exact (z3 rfl).symm | exact tv4 rfl (Nat.le_trans (by decide) hw) v0 (by simp only; omega)
    · first | exact (z4 rfl).symm | exact tv3 rfl (Nat.le_trans (by decide) hw) r0 (by simp only; omega)
    · first | exact (z5 rfl).symm | exact tv3 rfl (Nat.le_trans (by decide) hw) a0 (by simp only; omega)
    · first | exact (z6 rfl).symm | exact tvB rfl (Nat.le_trans (by decide) hw)
    · first | exact (z7 rfl).symm | exact tv1 rfl (Nat.le_trans (by decide) hw) (by simp only; omega) (by simp only; omega)

theorem dec_full {c : Cfg} (hc : CfgOk c) {m : Msg} (hm : MsgOk c m) {p : Parts} (hp : idxI tab1 m.1 = some p) (hf : formBad p m = false) : r32 (c, encM p m) = some (m, 0) := by
  have hlen := enc_len p m
  have htl := tot_le p
  have ht7 : 7 ≤ tot p := by unfold tot; omega
  have h := dec_gen hc (full := encM p m ++ []) (w := tot p) (byt_app (enc_byt p m) (fun x hx => by simp at hx)) (by simp [hlen]) (by simp [hlen]; omega) (by omega) (kind_at hm p [] (by omega)) hm.k0 hm.k1 hp (bit_at hm hp [] _)
  rw [fields hm hp hf [] (Nat.le_refl _) hc.s1 hc.l1] at h
  have hs : sta (encM p m ++ []) (tot p) (tot p) = ([], 0) := by
    unfold sta
    rw [if_pos (Nat.le_refl _), List.append_nil, ← hlen, List.take_length, List.drop_length]
  rw [hs, fin_ok (msg_ok hc hm), List.append_nil, ← hlen, List.take_length] at h
  exact h

theorem dec_more {c : Cfg} (hc : CfgOk c) {m : Msg} (hm : MsgOk c m) {p : Parts} (hp : idxI tab1 m.1 = some p) {t : Int} (h0 : 0 ≤ t) (h1 : t < 256) : r32 (c, encM p m ++ [t]) = some (zeroM, 4) := by
  have hlen := enc_len p m
  have htl := tot_le p
  have ht7 : 7 ≤ tot p := by unfold tot; omega
  have h := dec_gen hc (full := encM p m ++ [t]) (w := tot p + 1) (byt_app (enc_byt p m) (fun x hx => by simp only [List.mem_singleton] at hx; rw [hx]; exact ⟨h0, h1⟩)) (by simp [hlen]) (by simp [hlen]; omega) (by omega) (kind_at hm p [t] (by omega)) hm.k0 hm.k1 hp (bit_at hm hp [t] _)
  have htk : (encM p m ++ [t]).take (tot p + 1) = encM p m ++ [t] := List.take_of_length_le (by simp [hlen])
  have hs : sta (encM p m ++ [t]) (tot p + 1) (tot p) = ([t], 0) := by
    unfold sta
    rw [if_pos (by omega), htk, ← hlen, List.drop_left]
  rw [hs, fin_more, htk] at h
  exact h

theorem dec_torn {c : Cfg} (hc : CfgOk c) {m : Msg} (hm : MsgOk c m) {p : Parts} (hp : idxI tab1 m.1 = some p) {w : Nat} (hw : w < tot p) : r32 (c, (encM p m).take w) = some (zeroM, 5) := by
  have hlen := enc_len p m
  have htl := tot_le p
  by_cases h0 : w = 0
  · subst h0
    rw [List.take_zero]
    unfold r32
    simp only [check_ok hc, Option.bind_some, clone_is (show ([] : List Int).length ≤ 1000 by simp)]
    rfl
  · have h := dec_gen hc (full := encM p m ++ []) (w := w) (byt_app (enc_byt p m) (fun x hx => by simp at hx)) (by simp [hlen]; omega) (by simp [hlen]; omega) (by omega) (kind_at hm p [] (by omega)) hm.k0 hm.k1 hp (bit_at hm hp [] _)
    have hs : sta (encM p m ++ []) w (tot p) = ([], 5) := by
      unfold sta
      rw [if_neg (by omega)]
    rw [hs, fin_bad, List.append_nil] at h
    exact h

theorem messageBack {a : Int × (List Int × (Raw × Int))} (h1 : i64 a.1) (h2 : ∀ n ∈ a.2.1, i64 n) (hl : a.2.1.length ≤ 9223372036854775807) (hr : RawOk a.2.2.1) (h3 : 0 ≤ a.2.2.2) (h4 : a.2.2.2 < 256) : r8 a = some true := by
  obtain ⟨c, e1, hc⟩ := cfg_is (a := (a.1, a.2.1, 1)) h1 h2 hl (by unfold i64; simp only; omega)
  obtain ⟨m, e2, hm⟩ := msg_is hc hr
  obtain ⟨p, hp, hf⟩ := hm.form
  have hlen := enc_len p m
  have htl := tot_le p
  unfold r8
  simp only [e1, e2, Option.bind_some, enc_is hc hm hp, dec_full hc hm hp hf, hlen]
  rw [roomOk_true (by omega), roomOk_true (by omega), app_eq, dec_more hc hm hp h3 h4]
  simp [msg_ok hc hm]

theorem messageTorn {a : Int × (List Int × (Raw × Int))} (h1 : i64 a.1) (h2 : ∀ n ∈ a.2.1, i64 n) (hl : a.2.1.length ≤ 9223372036854775807) (hr : RawOk a.2.2.1) (h3 : i64 a.2.2.2) : r10 a = some true := by
  obtain ⟨c, e1, hc⟩ := cfg_is (a := (a.1, a.2.1, 1)) h1 h2 hl (by unfold i64; simp only; omega)
  obtain ⟨m, e2, hm⟩ := msg_is hc hr
  obtain ⟨p, hp, hf⟩ := hm.form
  have hlen := enc_len p m
  have htl := tot_le p
  have ht7 : 7 ≤ tot p := by unfold tot; omega
  obtain ⟨w, e3, f3, g3⟩ := picked_is (n := a.2.2.2) (m := max ((encM p m).length : Int) 1) h3 (by omega)
  have hwl : w < tot p := by rw [hlen] at g3; omega
  unfold r10
  simp only [e1, e2, Option.bind_some, enc_is hc hm hp, e3]
  have ok : okB none (some w) none (encM p m).length = true := by
    simp only [okB, Bool.and_eq_true]
    exact ⟨decide_eq_true f3, decide_eq_true (by omega)⟩
  have hd : r32 (c, midL (encM p m) 0 (Int.toNat w)) = some (zeroM, 5) := by
    unfold midL
    rw [List.drop_zero]
    exact dec_torn hc hm hp (by omega)
  rw [ok, hd]
  rfl

end Go.Hf
