/- NodeOnly: the plain law. Written by gen_n37.py. -/
import Derived.Test.YtpjaopcgoaannaaN34
namespace Go.Proofs.Ytpjaopcgoaannaa
open Go.RowKit Go.Lib
open Hb

theorem only_law {p : Preds} {n : PNode} {x : PEdit} (hc : (doN p n x).2 = 0) :
    ((x.kind = 0 ∨ x.kind = 1 ∨ x.kind = 2) → (doN p n x).1 = { n with subs := (doN p n x).1.subs }) ∧
    (x.kind = 3 → (doN p n x).1 = { n with affs := (doN p n x).1.affs, subs := (doN p n x).1.subs }) ∧
    ((x.kind = 4 ∨ x.kind = 5 ∨ x.kind = 6) → (doN p n x).1 = { n with items := (doN p n x).1.items }) ∧
    ((x.kind < 0 ∨ 6 < x.kind) → (doN p n x).1 = { n with access := (doN p n x).1.access, max := (doN p n x).1.max, items := (doN p n x).1.items }) := by
  obtain ⟨xk, xb, xw, xd, xm, xy, xr, xa, xi, xt⟩ := x
  refine ⟨?_, ?_, ?_, ?_⟩
  · rintro (h | h | h) <;> (simp only at h; subst h)
    · change (subscribeN p n xw xd).2 = 0 at hc
      rw [show doN p n _ = subscribeN p n xw xd from rfl]
      generalize hr : subscribeN p n xw xd = r at hc ⊢
      unfold subscribeN at hr
      repeat' split at hr
      all_goals (subst hr; first | rfl | (exact absurd hc (by decide)) | (simp_all; done))
    · change (unsubscribeN p n xw).2 = 0 at hc
      rw [show doN p n _ = unsubscribeN p n xw from rfl]
      generalize hr : unsubscribeN p n xw = r at hc ⊢
      unfold unsubscribeN at hr
      repeat' split at hr
      all_goals (subst hr; first | rfl | (exact absurd hc (by decide)) | (simp_all; done))
    · change (decideN p n xb xw xy).2 = 0 at hc
      rw [show doN p n _ = decideN p n xb xw xy from rfl]
      generalize hr : decideN p n xb xw xy = r at hc ⊢
      unfold decideN at hr
      repeat' split at hr
      all_goals (subst hr; first | rfl | (exact absurd hc (by decide)) | (simp_all; done))
  · intro h
    simp only at h
    subst h
    change (affiliateN p n xb xw xr).2 = 0 at hc
    rw [show doN p n _ = affiliateN p n xb xw xr from rfl]
    generalize hr : affiliateN p n xb xw xr = r at hc ⊢
    unfold affiliateN at hr
    repeat' split at hr
    all_goals (subst hr; first | rfl | (exact absurd hc (by decide)) | (simp_all; done))
  · rintro (h | h | h) <;> (simp only at h; subst h)
    · change (publishN p n xb xi xt).2 = 0 at hc
      rw [show doN p n _ = publishN p n xb xi xt from rfl]
      generalize hr : publishN p n xb xi xt = r at hc ⊢
      unfold publishN at hr
      repeat' split at hr
      all_goals (subst hr; first | rfl | (exact absurd hc (by decide)) | (simp_all; done))
    · change (retractN p n xb xi).2 = 0 at hc
      rw [show doN p n _ = retractN p n xb xi from rfl]
      generalize hr : retractN p n xb xi = r at hc ⊢
      unfold retractN at hr
      repeat' split at hr
      all_goals (subst hr; first | rfl | (exact absurd hc (by decide)) | (simp_all; done))
    · change (purgeN p n xb).2 = 0 at hc
      rw [show doN p n _ = purgeN p n xb from rfl]
      generalize hr : purgeN p n xb = r at hc ⊢
      unfold purgeN at hr
      repeat' split at hr
      all_goals (subst hr; first | rfl | (exact absurd hc (by decide)) | (simp_all; done))
  · intro h
    simp only at h
    have e : doN p n ⟨xk, xb, xw, xd, xm, xy, xr, xa, xi, xt⟩ = configureN p n xb xa xm := by
      unfold doN
      rw [if_neg (by show ¬ ((xk == 0) = true); rw [beq_iff_eq]; omega), if_neg (by show ¬ ((xk == 1) = true); rw [beq_iff_eq]; omega), if_neg (by show ¬ ((xk == 2) = true); rw [beq_iff_eq]; omega), if_neg (by show ¬ ((xk == 3) = true); rw [beq_iff_eq]; omega), if_neg (by show ¬ ((xk == 4) = true); rw [beq_iff_eq]; omega), if_neg (by show ¬ ((xk == 5) = true); rw [beq_iff_eq]; omega), if_neg (by show ¬ ((xk == 6) = true); rw [beq_iff_eq]; omega)]
    rw [e] at hc ⊢
    generalize hr : configureN p n xb xa xm = r at hc ⊢
    unfold configureN at hr
    repeat' split at hr
    all_goals (subst hr; first | rfl | (exact absurd hc (by decide)) | (simp_all; done))
end Go.Proofs.Ytpjaopcgoaannaa
