/-
  A part of the proof: rules and plain facts. No condition.
-/
import Derived.Test.YtnokcmkfkfeaiaaGreatIlP61
import Derived.Test.YtnokcmkfkfeaiaaGreatIlA25bD
import Derived.Test.YtnokcmkfkfeaiaaGreatIlEq
import Derived.ProofKit
import Derived.OpenShut
set_option linter.all false
open Go Go.IL
namespace Go.Fn
section
variable {w : Int} {n m : Nat} {l : Ln} {I : List Iv} {k : Int}
theorem deed2b (h : LI w n m l I k) (hn : n ≤ 500) (hm : m ≤ 1000000) {d : D25} (hd : dOk d) (hk : d.Kind % 8 = 2) (hN : d.N = 30) : ∃ l1 q data is,iF d l = some (outL true l1) ∧ LI w n (m + 1) l1 I k ∧ l1.b = l.b ∧ l1.wrote = l.wrote ∧ l1.given = l.given ∧ l1.end_ = l.end_ ∧ l1.a.Out.Limit = l.a.Out.Limit ∧
    l1.went = (if is = true then l.went ++ [(⟨q.From,data,q.Fin⟩ : Pe)] else l.went) ∧ (is = false → l1.a.Send = l.a.Send) ∧ (is = true → (eV l.a.Send 30 l.a.Out.Limit).2 = true ∧ q = pieceS l.a.Send (d.Path % 4) 30 l.a.Out.Limit ∧ data = sl l.wrote q.From q.To ∧ ∃ A B,l.a.Send.Pieces = A ++ B ∧ l1.a.Send = iO l.a.Send q (jX l.a.Send q) A B) ∧ ((eV l.a.Send 30 l.a.Out.Limit).2 = true → is = true):=by
  obtain ⟨s,q,data,is,e1,e2⟩:=deed2 h hn hm hd hk
  obtain ⟨⟨k1,k2⟩,⟨k3,k4⟩,⟨k5,k6⟩,k7⟩:=hd
  obtain ⟨s',q',data',is',e3,e4,e5,e6,e7⟩:=uV h (p:=d.Path % 4) (most:=d.N) (by omega) (by omega)
  rw [e1] at e3
  have e3:=Option.some.inj e3
  simp only [Prod.mk.injEq,aR.mk.injEq] at e3
  obtain ⟨⟨_,hs,_⟩,hq,hdt,his⟩:=e3
  subst hs hq hdt his
  rw [hN] at e6 e7
  refine ⟨_,q,data,is,e2,e5,rfl,rfl,rfl,rfl,rfl,rfl,e4,fun hi=>?_,fun hi=>e7 (by decide) hi⟩
  obtain ⟨_,f1,f2,f3,f4⟩:=e6 hi
  exact ⟨f1,f2,f3,f4⟩
theorem deed4b (h : LI w n m l I k) (hn : n ≤ 500) {d : D25} (hd : dOk d) (hk : d.Kind % 8 = 4) (hN : 1 ≤ d.N) : ∃ l',iF d l = some (outL true l') ∧ LI w n m l' I k ∧ l'.a = l.a ∧ l'.went = l.went ∧ l'.wrote = l.wrote ∧ l'.b.Recv.Recv.Base = l.b.Recv.Recv.Base ∧ l'.b.Recv.End = l.b.Recv.End ∧ l.given ≤ l'.given ∧ l'.b.In.Read = l.b.In.Read + min d.N l.b.Recv.Recv.Ready.length ∧
    (0 ≤ l.b.Recv.End → l'.b.In.Read = l.b.Recv.Recv.Base → l.b.Recv.Recv.Base = l.b.Recv.End → l'.end_ = true) ∧ (l.b.Recv.End < 0 → max 1 (l.b.In.Window / 2) ≤ l'.b.In.Read + l.b.In.Window - l.b.In.Limit → l.given + 1 ≤ l'.given):=by
  obtain ⟨s',m',e,g,a1,a2,a3,a4,a5,a6,a7,a8⟩:=deed4 h hn hd hk
  refine ⟨_,a3,a4,rfl,rfl,rfl,a5,rfl,?_,?_,?_,?_⟩
  · show l.given ≤ l.given + g; omega
  · show l.b.In.Read + m' = _; rw [a6 hN]
  · intro b1 b2 b3
    show (l.end_ || e) = true
    rw [a7 b1 b2 b3]; simp
  · intro b1 b2
    have:=a8 b1 b2
    show l.given + 1 ≤ l.given + g; omega
theorem deed5b (h : LI w n m l I k) (hn : n ≤ 500) {d : D25} (hd : dOk d) (hk : d.Kind % 8 = 5) : ∃ l',iF d l = some (outL true l') ∧ LI w n m l' I k ∧ l'.a.Send = l.a.Send ∧ l'.a.Out.Limit = l.a.Out.Limit + l.given ∧ l'.b = l.b ∧ l'.went = l.went ∧ l'.wrote = l.wrote ∧ l'.end_ = l.end_:=by
  obtain ⟨a1,a2⟩:=deed5 h hn hd hk
  exact ⟨_,a1,a2,rfl,rfl,rfl,rfl,rfl,rfl⟩
theorem aCF (h : LI w n m l I k) {d : D25} (hd : dOk d) (hk : d.Kind % 8 = 6) : ∃ l',iF d l = some (outL true l') ∧ LI w n m l' I k ∧ l'.a.Send = (if nE l.a.Send l.b.Recv.Recv.Base (decide (l.b.Recv.End = l.b.Recv.Recv.Base)) then tN l.a.Send l.b.Recv.Recv.Base (decide (l.b.Recv.End = l.b.Recv.Recv.Base)) else l.a.Send) ∧ l'.a.Out = l.a.Out ∧ l'.b = l.b ∧ l'.went = l.went ∧ l'.wrote = l.wrote ∧ l'.read = l.read ∧ l'.end_ = l.end_:=by
  obtain ⟨s,a1,a2,a3⟩:=deed6 h hd hk
  exact ⟨_,a1,a2,a3,rfl,rfl,rfl,rfl,rfl,rfl⟩
structure EI (l : Ln) (I : List Iv) : Prop where
  cl : l.a.Send.Closed = true
  cov : ∀ n,0 ≤ n → n < l.a.Send.Next → ¬ mem n l.a.Send.Lost → n < l.b.Recv.Recv.Base ∨ mem n I
  fin : l.a.Send.Sent = true → l.a.Send.Again = false → l.b.Recv.End = (l.wrote.length : Int)
def Ph (l : Ln) : Int:=left l.a.Send l.a.Out.Limit + if 255 < (l.wrote.length : Int) - l.b.In.Read then 2 else 1
def Same5 (l l4 l5 : Ln) : Prop:=(l.went.length < l4.went.length ∧ ∃ q st' x,gix l4.went (l.went.length : Int) = some q ∧ l4.went[l.went.length]? = some q ∧ fD l4.b q.at_ q.s q.fin = some (st',x,0) ∧ l5 = ⟨l4.a,st',l4.went,l4.wrote,l4.read,l4.given,l4.end_⟩) ∨ (¬ l.went.length < l4.went.length ∧ l5 = l4)
theorem round25 (h : LI w n m l I k) (he : EI l I) (hn : n ≤ 500) (hm : m ≤ 1000000) (hw : w ≤ 256) :
    ∃ l1 l2 l3 l4 l5 I' k',iF ⟨2,30,0,[]⟩ l = some (outL true l1) ∧ iF ⟨4,255,0,[]⟩ l1 = some (outL true l2) ∧ iF ⟨5,0,0,[]⟩ l2 = some (outL true l3) ∧ iF ⟨6,0,0,[]⟩ l3 = some (outL true l4) ∧ Same5 l l4 l5 ∧ LI w n (m + 1) l5 I' k' ∧ EI l5 I' ∧ l5.wrote = l.wrote ∧ (l5.end_ = true ∨ Ph l5 + 1 ≤ Ph l):=by
  have dk : ∀ a b : Int,0 ≤ a → a ≤ 255 → 0 ≤ b → b ≤ 255 → dOk ⟨a,b,0,[]⟩:=fun a b x1 x2 y1 y2=>⟨⟨x1,x2⟩,⟨y1,y2⟩,⟨by show (0:Int) ≤ 0; decide,by show (0:Int) ≤ 255; decide⟩,by show 0 ≤ 100; decide⟩
  obtain ⟨l1,q,data,is,e1,h1,b1,b2,b3,b4,b5,b6,b7,b8,b9⟩:=deed2b h hn hm (d:=⟨2,30,0,[]⟩) (dk 2 30 (by decide) (by decide) (by decide) (by decide)) (by show (2 : Int) % 8 = 2; decide) rfl
  obtain ⟨l2,e2,h2,c1,c2,c3,c4,c5,c6,c7,c8,c9⟩:=deed4b h1 hn (d:=⟨4,255,0,[]⟩) (dk 4 255 (by decide) (by decide) (by decide) (by decide)) (by show (4 : Int) % 8 = 4; decide) (by show (1 : Int) ≤ 255; decide)
  obtain ⟨l3,e3,h3,d1,d2,d3,d4,d5,d6⟩:=deed5b h2 hn (d:=⟨5,0,0,[]⟩) (dk 5 0 (by decide) (by decide) (by decide) (by decide)) (by show (5 : Int) % 8 = 5; decide)
  obtain ⟨l4,e4,h4,f1,f2,f3,f4,f5,f6,f7⟩:=aCF h3 (d:=⟨6,0,0,[]⟩) (dk 6 0 (by decide) (by decide) (by decide) (by decide)) (by show (6 : Int) % 8 = 6; decide)
  have c7 : l2.b.In.Read = l1.b.In.Read + min 255 (l1.b.Recv.Recv.Ready.length : Int):=c7
  rw [b1] at c4 c5 c7 c8 c9
  -- the state behind the pick
  have hS1 : l3.a.Send = l1.a.Send:=by rw [d1,c1]
  have hab1 : l1.a.Send.Base ≤ l3.b.Recv.Recv.Base:=by have:=h1.ab; rw [b1] at this; rw [d3,c4]; exact this
  have hB3 : l3.b.Recv.Recv.Base = l.b.Recv.Recv.Base:=by rw [d3,c4]
  have hE3 : l3.b.Recv.End = l.b.Recv.End:=by rw [d3,c5]
  rw [hS1] at f1
  obtain ⟨g1,g2,g3,g4,g5,g6,g7⟩:=aA8 h1.sa.g hab1 f1
  have hlen:=h.al.len
  have hlen1:=h1.al.len
  rw [b2] at hlen1
  have hlim4 : l4.a.Out.Limit = l.a.Out.Limit + l2.given:=by rw [f2,d2,c1,b5]
  have hgiv : 0 ≤ l2.given:=h2.gi.2
  have hread4 : l4.b.In.Read = l.b.In.Read + min 255 (l.b.Recv.Recv.Ready.length : Int):=by rw [f3,d3,c7]
  have hW4 : l4.wrote = l.wrote:=by rw [f5,d5,c3,b2]
  have hwent4 : l4.went = l1.went:=by rw [f4,d4,c2]
  have hrp : 0 ≤ l.b.Recv.Recv.Ready.length:=Nat.zero_le _
  -- what remains
  have hleft4 : left l4.a.Send l4.a.Out.Limit ≤ left l1.a.Send l.a.Out.Limit:=by
    have x1:=vO (s:=l1.a.Send) (s':=l4.a.Send) (lim:=l.a.Out.Limit) (lim':=l4.a.Out.Limit) g1 g3 (by omega)
    have x2:=vI g5
    unfold left
    rw [g1,g3]
    omega
  have key : ∀ l5 : Ln,l5.a = l4.a → l5.wrote = l4.wrote → l5.b.In.Read = l4.b.In.Read → left l1.a.Send l.a.Out.Limit + 1 ≤ left l.a.Send l.a.Out.Limit → Ph l5 + 1 ≤ Ph l:=fun l5 y1 y2 y3 y4=>by
    unfold Ph
    rw [y1,y2,y3,hW4,hread4]
    have x3 : (if 255 < (l.wrote.length : Int) - (l.b.In.Read + min 255 (l.b.Recv.Recv.Ready.length : Int)) then (2 : Int) else 1) ≤ (if 255 < (l.wrote.length : Int) - l.b.In.Read then 2 else 1):=by split <;> split <;> omega
    omega
  have hcl4 : l4.a.Send.Closed = true:=by
    rw [g2]
    cases his : is
    · rw [b7 his]; exact he.cl
    · obtain ⟨_, _, _, A, B, _, z⟩ := b8 his
      rw [z]; exact he.cl
  have hbk:=h.sb.hi.1
  have hkn:=h.kn
  cases his : is
  · -- nothing goes
    have hs1:=b7 his
    have hwent : l4.went = l.went:=by rw [hwent4,b6,his]; rfl
    rw [hs1] at g1 g2 g3 g4 g5 g6 g7
    have hnn : (eV l.a.Send 30 l.a.Out.Limit).2 = false:=by
      cases hx : (eV l.a.Send 30 l.a.Out.Limit).2
      · rfl
      · have:=b9 hx; rw [his] at this; cases this
    obtain ⟨n1,n2⟩:=no_next h.sa.g hnn
    have hb0:=h.sb.rq.b0
    have hbase : l.b.Recv.Recv.Base = l.a.Send.Next:=by
      by_cases hlt : l.b.Recv.Recv.Base < l.a.Send.Next
      · rcases he.cov l.b.Recv.Recv.Base hb0 hlt (by rw [n1]; rintro ⟨x, hx, _⟩; exact (List.not_mem_nil hx).elim) with hh | ⟨x, hx, hx1, _⟩
        · omega
        · have:=(h.sb.rq.ib x hx).1; omega
      · omega
    have hir:=h.sb.ir
    have hiu:=h.sb.iu
    have hil:=h.sb.il
    have hio:=h.sb.io
    have hbw:=h.bw
    have hou:=h.sa.ou
    have hoo:=h.sa.oo
    have hgi:=h.gi
    have hgi2:=h2.gi
    obtain ⟨i1,i2,i3,i4,i5,i6⟩:=hio
    obtain ⟨o1,o2,o3,o4,o5,o6⟩:=hoo
    have hready : (l.b.Recv.Recv.Ready.length : Int) ≤ w:=by omega
    refine ⟨l1,l2,l3,l4,l4,I,k,e1,e2,e3,e4,.inr ⟨by rw [hwent]; omega,rfl⟩,h4,⟨hcl4,fun x x0 x1 x2=>?_,fun x1 x2=>?_⟩,hW4,?_⟩
    · rw [f3, hB3]
      rcases g6 x x2 with hh | hh
      · exact he.cov x x0 (by omega) hh
      · rw [hB3] at hh; exact .inl hh
    · rw [hW4, f3, hE3]
      rcases g7 x1 x2 with hh | ⟨hh1,hh2⟩
      · exact he.fin hh.1 hh.2
      · have := of_decide_eq_true hh1
        rw [hE3] at this
        rw [this,hh2,hlen]
    · rcases n2 with ⟨n2, n3⟩ | ⟨n2, n3⟩
      · -- the limit stands in the way
        have hEnd : l.b.Recv.End < 0:=by
          rcases h.en with z | ⟨_,_,z,_⟩
          · omega
          · omega
        have hb9 : 1 ≤ l2.given:=by
          by_cases hg : 1 ≤ l.given
          · omega
          · have := c9 hEnd (by omega)
            omega
        right
        have x2:=vI g5
        have y0 : blkS l.a.Send l.a.Out.Limit = 1:=by unfold blkS; rw [if_pos ⟨n2,n3⟩]
        have y1 : blkS l4.a.Send l4.a.Out.Limit = 0:=by unfold blkS; rw [if_neg (by rw [g1]; have:=h1.gi.2; omega)]
        unfold Ph
        rw [hW4,hread4]
        have x3 : (if 255 < (l.wrote.length : Int) - (l.b.In.Read + min 255 (l.b.Recv.Recv.Ready.length : Int)) then (2 : Int) else 1) ≤ (if 255 < (l.wrote.length : Int) - l.b.In.Read then 2 else 1):=by split <;> split <;> omega
        unfold left
        rw [g1,g3,y0,y1]
        omega
      · -- all went
        have hEnd : l.b.Recv.End = (l.wrote.length : Int):=by
          have hcl:=he.cl
          cases hD : l.a.Send.Done
          · unfold dueS at n3
            rw [hcl,hD] at n3
            simp only [Bool.not_true,Bool.or_self,Bool.false_eq_true,if_false,Bool.or_eq_false_iff,Bool.not_eq_false'] at n3
            exact he.fin n3.2 n3.1
          · exact h.dn hD
        by_cases hR : (l.b.Recv.Recv.Ready.length : Int) ≤ 255
        · left
          rw [f7,d6]
          exact c8 (by omega) (by omega) (by omega)
        · right
          have:=hleft4
          rw [hs1] at this
          unfold Ph
          rw [hW4,hread4,if_neg (by omega),if_pos (by omega)]
          omega
  · obtain ⟨p1, p2, p3, A, B, p4, p5⟩ := b8 his
    have hoo:=h.sa.oo
    obtain ⟨o1,o2,o3,o4,o5,o6⟩:=hoo
    have hpk:=pk_of h.sa.g (by_:=(0 : Int) % 4) (most:=30) (limit:=l.a.Out.Limit) (by decide) (by decide) (by omega) p1
    have p2 : q = pieceS l.a.Send ((0 : Int) % 4) 30 l.a.Out.Limit:=p2
    have hpl:=aAQ h.sa.g (by_:=(0 : Int) % 4) (lim:=l.a.Out.Limit) (A:=A) (B:=B) p1
    rw [← p2] at hpk hpl
    rw [← p5] at hpl
    have hwent : l4.went = l.went ++ [(⟨q.From,data,q.Fin⟩ : Pe)]:=by rw [hwent4,b6,his]; rfl
    have hget : l4.went[l.went.length]? = some ⟨q.From,data,q.Fin⟩:=by rw [hwent]; simp
    have hgix : gix l4.went (l.went.length : Int) = some ⟨q.From,data,q.Fin⟩:=iP (r:=[]) hwent
    obtain ⟨st',I',k',x,r1,r2,r3,r4,r5,r6,r7,to,r8,r9,r10⟩:=yZ h4 hn (q:=⟨q.From,data,q.Fin⟩) (by rw [hwent]; simp)
    have hlt : l.went.length < l4.went.length:=by rw [hwent]; simp
    have hto : to = q.To:=by
      have r9 : (data.length : Int) = to - q.From:=r9
      have:=hpk.lo; have:=hpk.le; have:=hpk.hi; have:=h.sa.g.b0
      rw [p3,kF (by omega) (by omega) (by omega)] at r9
      omega
    rw [hto] at r10
    have hB4 : l4.b.Recv.Recv.Base = l.b.Recv.Recv.Base:=by rw [f3,hB3]
    have hE4 : l4.b.Recv.End = l.b.Recv.End:=by rw [f3,hE3]
    rw [hB4] at r10
    rw [hE4] at r5
    have hN1 : l1.a.Send.Next = max l.a.Send.Next q.To:=by rw [p5]; rfl
    have hL1 : ∀ j,mem j l1.a.Send.Lost ↔ mem j l.a.Send.Lost ∧ ¬ (q.From ≤ j ∧ j < q.To):=fun j=>by rw [p5]; exact hpk.lm j
    refine ⟨l1,l2,l3,l4,⟨l4.a,st',l4.went,l4.wrote,l4.read,l4.given,l4.end_⟩,I',k',e1,e2,e3,e4,.inl ⟨hlt,_,st',x,hgix,hget,r1,rfl⟩,r2,⟨hcl4,fun j j0 j1 j2=>?_,fun x1 x2=>?_⟩,hW4,.inr (key _ rfl rfl r6 hpl)⟩
    · show j < st'.Recv.Recv.Base ∨ mem j I'
      have j1 : j < l4.a.Send.Next:=j1
      have hnx:=hpk.nx
      rcases g6 j j2 with hh | hh
      · by_cases hin : q.From ≤ j ∧ j < q.To
        · exact r10 j (.inr (.inr hin))
        · have hl : ¬ mem j l.a.Send.Lost := fun hm => hh ((hL1 j).2 ⟨hm, hin⟩)
          rcases he.cov j j0 (by omega) hl with hh | hh
          · exact r10 j (.inl hh)
          · exact r10 j (.inr (.inl hh))
      · rw [hB3] at hh; exact r10 j (.inl hh)
    · show st'.Recv.End = (l4.wrote.length : Int)
      have r4 : q.Fin = true → st'.Recv.End = (l4.wrote.length : Int):=r4
      have r5 : q.Fin = false → st'.Recv.End = l.b.Recv.End:=r5
      cases hF : q.Fin
      · rw [r5 hF, hW4]
        rcases g7 x1 x2 with ⟨z1,z2⟩ | ⟨z1,z2⟩
        · rw [p5] at z1 z2
          have z1 : (if q.Fin = true then true else l.a.Send.Sent) = true:=z1
          have z2 : (if q.Fin = true then false else l.a.Send.Again) = false:=z2
          rw [hF] at z1 z2
          exact he.fin z1 z2
        · have := of_decide_eq_true z1
          rw [hE3] at this
          omega
      · exact r4 hF
end
end Go.Fn
open Go Go.IL
namespace Go.Fn
abbrev KT:=Int → Int → Int → (List UInt8) → Int → (List aJ) → (List aG) → Bool → Bool → Bool → Bool → Int → (List UInt8) → (List aN) → Int → Int → Int → Int → Int → Int → Int → Int → Int → Int → Int → Int → Int → (List UInt8) → Int → (List aJ) → (List aG) → Bool → Bool → Bool → Bool → Int → (List UInt8) → (List aN) → Int → Int → Int → Int → Int → Int → Int → Int → Int → Int → Int → (List bL) → (List UInt8) → (List UInt8) → Int → Bool → Option Bool
def kkL (kk : KT) (i : Int) (l : Ln) : Option Bool:=kk i l.a.ID l.a.Send.Base l.a.Send.Data l.a.Send.Next l.a.Send.Pieces l.a.Send.Lost l.a.Send.Closed l.a.Send.Sent l.a.Send.Again l.a.Send.Done l.a.Recv.Recv.Base l.a.Recv.Recv.Ready l.a.Recv.Recv.Parts l.a.Recv.End l.a.Out.Window l.a.Out.Limit l.a.Out.Used l.a.Out.Read l.a.In.Window l.a.In.Limit l.a.In.Used l.a.In.Read l.a.Mine l.a.Hers l.b.ID l.b.Send.Base l.b.Send.Data l.b.Send.Next l.b.Send.Pieces l.b.Send.Lost l.b.Send.Closed l.b.Send.Sent l.b.Send.Again l.b.Send.Done l.b.Recv.Recv.Base l.b.Recv.Recv.Ready l.b.Recv.Recv.Parts l.b.Recv.End l.b.Out.Window l.b.Out.Limit l.b.Out.Used l.b.Out.Read l.b.In.Window l.b.In.Limit l.b.In.Used l.b.In.Read l.b.Mine l.b.Hers l.went l.wrote l.read l.given l.end_
def wY (ds : List D25) (w : Int) (f : Nat) (i : Int) (l : Ln) : Option Bool:=dR ds w f i l.a.ID l.a.Send.Base l.a.Send.Data l.a.Send.Next l.a.Send.Pieces l.a.Send.Lost l.a.Send.Closed l.a.Send.Sent l.a.Send.Again l.a.Send.Done l.a.Recv.Recv.Base l.a.Recv.Recv.Ready l.a.Recv.Recv.Parts l.a.Recv.End l.a.Out.Window l.a.Out.Limit l.a.Out.Used l.a.Out.Read l.a.In.Window l.a.In.Limit l.a.In.Used l.a.In.Read l.a.Mine l.a.Hers l.b.ID l.b.Send.Base l.b.Send.Data l.b.Send.Next l.b.Send.Pieces l.b.Send.Lost l.b.Send.Closed l.b.Send.Sent l.b.Send.Again l.b.Send.Done l.b.Recv.Recv.Base l.b.Recv.Recv.Ready l.b.Recv.Recv.Parts l.b.Recv.End l.b.Out.Window l.b.Out.Limit l.b.Out.Used l.b.Out.Read l.b.In.Window l.b.In.Limit l.b.In.Used l.b.In.Read l.b.Mine l.b.Hers l.went l.wrote l.read l.given l.end_
def aAz (w : Int) (f : Nat) (i : Int) (l : Ln) : Option Bool:=dQ w f i l.a.ID l.a.Send.Base l.a.Send.Data l.a.Send.Next l.a.Send.Pieces l.a.Send.Lost l.a.Send.Closed l.a.Send.Sent l.a.Send.Again l.a.Send.Done l.a.Recv.Recv.Base l.a.Recv.Recv.Ready l.a.Recv.Recv.Parts l.a.Recv.End l.a.Out.Window l.a.Out.Limit l.a.Out.Used l.a.Out.Read l.a.In.Window l.a.In.Limit l.a.In.Used l.a.In.Read l.a.Mine l.a.Hers l.b.ID l.b.Send.Base l.b.Send.Data l.b.Send.Next l.b.Send.Pieces l.b.Send.Lost l.b.Send.Closed l.b.Send.Sent l.b.Send.Again l.b.Send.Done l.b.Recv.Recv.Base l.b.Recv.Recv.Ready l.b.Recv.Recv.Parts l.b.Recv.End l.b.Out.Window l.b.Out.Limit l.b.Out.Used l.b.Out.Read l.b.In.Window l.b.In.Limit l.b.In.Used l.b.In.Read l.b.Mine l.b.Hers l.went l.wrote l.read l.given l.end_
def tK (w lim : Int) (f : Nat) (i : Int) (l : Ln) : Option Bool:=kkL (cI w lim f) i l
def j3L (w i : Int) (g : List Pe) (kk : KT) (ok : Bool) (l : Ln) : Option Bool:=dK w i g kk ok l.a.ID l.a.Send.Base l.a.Send.Data l.a.Send.Next l.a.Send.Pieces l.a.Send.Lost l.a.Send.Closed l.a.Send.Sent l.a.Send.Again l.a.Send.Done l.a.Recv.Recv.Base l.a.Recv.Recv.Ready l.a.Recv.Recv.Parts l.a.Recv.End l.a.Out.Window l.a.Out.Limit l.a.Out.Used l.a.Out.Read l.a.In.Window l.a.In.Limit l.a.In.Used l.a.In.Read l.a.Mine l.a.Hers l.b.ID l.b.Send.Base l.b.Send.Data l.b.Send.Next l.b.Send.Pieces l.b.Send.Lost l.b.Send.Closed l.b.Send.Sent l.b.Send.Again l.b.Send.Done l.b.Recv.Recv.Base l.b.Recv.Recv.Ready l.b.Recv.Recv.Parts l.b.Recv.End l.b.Out.Window l.b.Out.Limit l.b.Out.Used l.b.Out.Read l.b.In.Window l.b.In.Limit l.b.In.Used l.b.In.Read l.b.Mine l.b.Hers l.went l.wrote l.read l.given l.end_
def j4L (w i : Int) (kk : KT) (ok : Bool) (l : Ln) : Option Bool:=eJ w i kk l.a.ID l.a.Send.Base l.a.Send.Data l.a.Send.Next l.a.Send.Pieces l.a.Send.Lost l.a.Send.Closed l.a.Send.Sent l.a.Send.Again l.a.Send.Done l.a.Recv.Recv.Base l.a.Recv.Recv.Ready l.a.Recv.Recv.Parts l.a.Recv.End l.a.Out.Window l.a.Out.Limit l.a.Out.Used l.a.Out.Read l.a.In.Window l.a.In.Limit l.a.In.Used l.a.In.Read l.a.Mine l.a.Hers l.went l.wrote l.read l.given l.end_ ok l.b.ID l.b.Send.Base l.b.Send.Data l.b.Send.Next l.b.Send.Pieces l.b.Send.Lost l.b.Send.Closed l.b.Send.Sent l.b.Send.Again l.b.Send.Done l.b.Recv.Recv.Base l.b.Recv.Recv.Ready l.b.Recv.Recv.Parts l.b.Recv.End l.b.Out.Window l.b.Out.Limit l.b.Out.Used l.b.Out.Read l.b.In.Window l.b.In.Limit l.b.In.Used l.b.In.Read l.b.Mine l.b.Hers
theorem j4_ok {w i : Int} {kk : KT} {l : Ln} (hr : dM l w = some true) (hi : 0 ≤ i ∧ i ≤ 1000000) : j4L w i kk true l = kkL kk (i + 1) l:=by
  unfold j4L eJ
  show bno (gd ((!true) == false) (dM l w) default) _ = _
  rw [show ((!true) == false) = true from rfl,gdtt,hr,bnoS,bndD]
  show (bif false then _ else _) = _
  rw [cA,bndD,w64 (by omega) (by omega)]
  rfl
theorem j3_no {w i : Int} {g : List Pe} {kk : KT} {l : Ln} (h : ¬ g.length < l.went.length) (hr : dM l w = some true) (hi : 0 ≤ i ∧ i ≤ 1000000) : j3L w i g kk true l = kkL kk (i + 1) l:=by
  unfold j3L dK
  rw [bndD,decide_eq_false (by omega),cA]
  exact j4_ok hr hi
theorem j3_yes {w i : Int} {g : List Pe} {kk : KT} {l : Ln} {q : Pe} {st' : St25} {x : Int} (h : g.length < l.went.length) (h1 : gix l.went (g.length : Int) = some q) (h2 : l.went[g.length]? = some q) (h3 : fD l.b q.at_ q.s q.fin = some (st',x,0)) (hr : dM ⟨l.a,st',l.went,l.wrote,l.read,l.given,l.end_⟩ w = some true) (hi : 0 ≤ i ∧ i ≤ 1000000) : j3L w i g kk true l = kkL kk (i + 1) ⟨l.a,st',l.went,l.wrote,l.read,l.given,l.end_⟩:=by
  unfold j3L dK
  rw [bndD,decide_eq_true (by omega),cR,h1,bnoS]
  show bno (l.went[g.length]?) _ = _
  rw [h2,bnoS]
  show bno (fD l.b q.at_ q.s q.fin) _ = _
  rw [h3,bnoS,bndD,bndD]
  exact j4_ok (l:=⟨l.a,st',l.went,l.wrote,l.read,l.given,l.end_⟩) hr hi
theorem aBo {w lim i : Int} {f : Nat} {l l1 l2 l3 l4 : Ln} (hi : i < lim) (he : l.end_ = false) (e1 : iF ⟨2,30,0,[]⟩ l = some (outL true l1)) (e2 : iF ⟨4,255,0,[]⟩ l1 = some (outL true l2)) (e3 : iF ⟨5,0,0,[]⟩ l2 = some (outL true l3)) (e4 : iF ⟨6,0,0,[]⟩ l3 = some (outL true l4)) : tK w lim (f + 1) i l = j3L w i l.went (cI w lim f) true l4:=by
  have hb : (decide (i < lim) && !l.end_) = true:=by rw [he,decide_eq_true hi]; rfl
  unfold tK kkL
  rw [cI,bndD,bndD,hb,cR]
  show bno (iF ⟨2,30,0,[]⟩ l) _ = _
  rw [e1,bnoS]
  show (bif true then _ else _) = _
  rw [cR]
  show bno (iF ⟨4,255,0,[]⟩ l1) _ = _
  rw [e2,bnoS,bndD]
  show (bif true then _ else _) = _
  rw [cR]
  show bno (iF ⟨5,0,0,[]⟩ l2) _ = _
  rw [e3,bnoS,bndD]
  show (bif true then _ else _) = _
  rw [cR]
  show bno (iF ⟨6,0,0,[]⟩ l3) _ = _
  rw [e4,bnoS,bndD]
  rfl
theorem aAy {w lim i : Int} {f : Nat} {l : Ln} {n m : Nat} {I : List Iv} {k : Int} (h : LI w n m l I k) (hE : l.end_ = true) : tK w lim (f + 1) i l = some true:=by
  have hb : (decide (i < lim) && !l.end_) = false:=by rw [hE]; simp
  obtain ⟨l4,e4,h4,f1,f2,f3,f4,f5,f6,f7⟩:=aCF h (d:=⟨6,0,0,[]⟩) ⟨⟨by show (0 : Int) ≤ 6; decide,by show (6 : Int) ≤ 255; decide⟩,⟨by show (0 : Int) ≤ 0; decide,by show (0 : Int) ≤ 255; decide⟩,⟨by show (0 : Int) ≤ 0; decide,by show (0 : Int) ≤ 255; decide⟩,by show 0 ≤ 100; decide⟩ (by show (6 : Int) % 8 = 6; decide)
  obtain ⟨z1,z2,z3⟩:=h.fi hE
  have hir:=h.sb.ir
  have hbw:=h.sb.rq.bw
  have hb0:=h.sb.rq.b0
  have hlen:=h.al.len
  have hrl : 0 ≤ l.b.Recv.Recv.Ready.length:=Nat.zero_le _
  have hB : l.b.Recv.Recv.Base = (l.wrote.length : Int):=by omega
  obtain ⟨y1,y2,y3⟩ : l.a.Send.Closed = true ∧ l.a.Send.Next = (l.wrote.length : Int) ∧ l.a.Send.Sent = true:=by
    rcases h.en with y | ⟨_,y⟩
    · omega
    · exact y
  have hok : nE l.a.Send l.b.Recv.Recv.Base (decide (l.b.Recv.End = l.b.Recv.Recv.Base)):=⟨hb0,by omega,fun _=>⟨by omega,y3⟩⟩
  rw [if_pos hok] at f1
  have hD : l4.a.Send.Done = true:=by
    rw [f1]
    show (if decide (l.b.Recv.End = l.b.Recv.Recv.Base) = true then true else l.a.Send.Done) = true
    rw [decide_eq_true (by omega),if_pos rfl]
  have hdata : l4.a.Send.Data = []:=by
    rw [f1]
    show l.a.Send.Data.drop _ = []
    apply List.drop_eq_nil_of_le
    unfold endS at hlen
    omega
  have hrw : l4.read = l4.wrote:=by rw [f6,f5,h.rd,z1,aB3]
  unfold tK kkL
  rw [cI,bndD,bndD,hb,cA]
  show bno (iF ⟨6,0,0,[]⟩ l) _ = _
  rw [e4,bnoS]
  show (bnd (decide (l4.read = l4.wrote)) fun x685=>bnd (l4.end_ && x685) fun x686=>bnd (x686 && l4.a.Send.Done) fun x687=>bnd (decide (l4.a.Send.Data = [])) fun x688=>bnd (x687 && x688) fun x689=>bno (gd (x689 == true) (fV) default) fun x690=>bnd (x689 && x690) fun x691=>some x691) = _
  rw [f7,hE,hD,decide_eq_true hrw,decide_eq_true hdata]
  simp only [bndD,Bool.and_self,beq_self_eq_true,gdtt,aBD,bnoS]
theorem aCD {w lim : Int} (hw : w ≤ 256) (hlim : lim ≤ 100000) {n : Nat} (hn : n ≤ 500) : ∀ (j f m : Nat) (i : Int) (l : Ln) (I : List Iv) (k : Int), LI w n m l I k → EI l I → (l.end_ = true ∨ Ph l + i ≤ lim) → 0 ≤ i → lim - i ≤ j → j < f → m + j ≤ 1000000 → tK w lim f i l = some true
  | j,0,_,_,_,_,_,_,_,_,_,_,hf,_=>absurd hf (by omega)
  | j, f + 1, m, i, l, I, k, h, he, hp, h0, hj, hf, hm => by
    cases hE : l.end_
    · have hp : Ph l + i ≤ lim := by
        rcases hp with hp | hp
        · rw [hE] at hp; cases hp
        · exact hp
      have hpos : 1 ≤ Ph l:=by
        have a1:=sz_nn h.sa.g.lv.ne
        have a2:=aBx l.a.Send l.a.Out.Limit
        have a3:=aBn l.a.Send
        have a4:=h.sa.g.nd
        unfold Ph left
        split <;> omega
      obtain ⟨l1,l2,l3,l4,l5,I',k',e1,e2,e3,e4,s5,h5,he5,hw5,hp5⟩:=round25 h he hn (by omega) hw
      have hr:=aBP h5 (by omega)
      obtain ⟨j,rfl⟩ : ∃ j',j = j' + 1:=⟨j - 1,by omega⟩
      have hstep : tK w lim (f + 1) i l = tK w lim f (i + 1) l5:=by
        rw [aBo (by omega) hE e1 e2 e3 e4]
        rcases s5 with ⟨t1,q,st',x,t2,t3,t4,t5⟩ | ⟨t1,t2⟩
        · rw [t5] at hr ⊢
          exact j3_yes t1 t2 t3 t4 hr (by omega)
        · rw [t2] at hr ⊢
          exact j3_no t1 hr (by omega)
      rw [hstep]
      exact aCD hw hlim hn j f (m + 1) (i + 1) l5 I' k' h5 he5 (hp5.imp id (fun hq=>by omega)) (by omega) (by omega) (by omega) (by omega)
    · exact aAy h hE
end Go.Fn
open Go Go.IL
namespace Go.Fn
theorem aCE {w : Int} (hw : w ≤ 256) {n : Nat} (hn : n ≤ 300) : ∀ (j f m : Nat) (i : Int) (l : Ln) (I : List Iv) (k : Int), LI w n m l I k → l.a.Send.Closed = true → i + j = 4 → 0 ≤ i → (∀ p ∈ l.a.Send.Pieces, i ≤ p.Path) → j < f → m ≤ 1000 → aAz w f i l = some true
  | j,0,_,_,_,_,_,_,_,_,_,_,hf,_=>absurd hf (by omega)
  | 0, f + 1, m, i, l, I, k, h, hcl, hij, h0, hp, hf, hm => by
    have hPc : l.a.Send.Pieces = []:=by
      cases hs : l.a.Send.Pieces with
      | nil=>rfl
      | cons p r =>
        have hx : p ∈ l.a.Send.Pieces:=by rw [hs]; simp
        have:=hp p hx
        have:=(h.sa.g.pb p hx).2.2
        omega
    have hab:=h.ab
    have hwb:=h.wb
    have hlen:=h.al.len
    have hEI : EI l I:=⟨hcl,fun x x0 x1 x2=>by
      left
      by_cases hx : x < l.a.Send.Base
      · omega
      · rcases h.sa.g.cov x (by omega) x1 with hh | ⟨p, hpp, _⟩
        · exact absurd hh x2
        · rw [hPc] at hpp; exact (List.not_mem_nil hpp).elim,fun x1 x2=>by
      cases hD : l.a.Send.Done
      · have := h.sa.g.fc
        rw [hPc,x1,x2,hD,if_pos ⟨rfl,rfl,rfl⟩] at this
        cases this
      · exact h.dn hD⟩
    have hPh : Ph l + 0 ≤ 3 * (l.wrote.length : Int) + 9:=by
      have a1:=sz_le h.sa.g.lv.pw h.sa.g.lv.ne h.sa.g.lb h.sa.g.bn
      have a2:=aBx l.a.Send l.a.Out.Limit
      have a3:=aBn l.a.Send
      have a4:=h.sa.g.nd
      have a5:=h.sa.g.b0
      have a6:=h.sa.g.bn
      unfold Ph left
      split <;> omega
    have:=aCD (w:=w) (lim:=3 * (l.wrote.length : Int) + 9) hw (by omega) (n:=n) (by omega) (3 * l.wrote.length + 9) fuel m 0 l I k h hEI (.inr hPh) (Int.le_refl _) (by omega) (gC (by omega)) (by omega)
    unfold aAz
    rw [dQ,bndD,decide_eq_false (by omega),cA,bndD,bndD,w64 (n:=3 * (l.wrote.length : Int)) (by omega) (by omega),w64 (by omega) (by omega)]
    exact this
  | j + 1, f + 1, m, i, l, I, k, h, hcl, hij, h0, hp, hf, hm => by
    have hu : IntKind.wrap .u8 i = i:=by
      rcases (by omega : i = 0 ∨ i = 1 ∨ i = 2 ∨ i = 3) with rfl | rfl | rfl | rfl <;> rfl
    obtain ⟨L,dl,e,hl⟩:=deed7 h (d:=⟨7,0,i,[]⟩) ⟨⟨by show (0 : Int) ≤ 7; decide,by show (7 : Int) ≤ 255; decide⟩,⟨by show (0 : Int) ≤ 0; decide,by show (0 : Int) ≤ 255; decide⟩,⟨h0,by show i ≤ 255; omega⟩,by show 0 ≤ 100; decide⟩ (by show (7 : Int) % 8 = 7; decide)
    have hrec:=fun hp'=>aCE hw hn j f m (i + 1) _ I k hl hcl (by omega) (by omega) hp' (by omega) hm
    unfold aAz
    rw [dQ,bndD,decide_eq_true (by omega),cR,bndD,hu]
    show bno (iF ⟨7,0,i,[]⟩ l) _ = _
    rw [e,bnoS,bndD,w64 (by omega) (by omega)]
    refine hrec (fun p hpp=>?_)
    have hpp : p ∈ l.a.Send.Pieces.filter (fun y=>!decide (y.Path = i % 4)):=hpp
    obtain ⟨q1,q2⟩:=List.mem_filter.1 hpp
    have q3:=hp p q1
    have q4 : ¬ p.Path = i % 4:=by simpa using q2
    omega
theorem aBp {w : Int} {ds p r : List D25} {d : D25} {f : Nat} {l l' : Ln} (hl : ds.length ≤ 100) (h : ds = p ++ d :: r) (e : iF d l = some (outL true l')) : wY ds w (f + 1) (p.length : Int) l = wY ds w f ((p ++ [d]).length : Int) l':=by
  unfold wY
  rw [dR,bndD,nT h,cR,iP h,bnoS]
  show bno (iF d l) _ = _
  rw [e,bnoS]
  show (bif false then _ else _) = _
  rw [cA,bndD,w_at h (show ds.length ≤ 1000000 by omega)]
  rfl
theorem e25_L0 {w : Int} (hw : w ≤ 256) {ds : List D25} (hl : ds.length ≤ 60) (hd : ∀ d ∈ ds,dOk d) (r : List D25) : ∀ (p : List D25) (f : Nat) (l : Ln) (I : List Iv) (k : Int),ds = p ++ r → r.length < f → LI w p.length p.length l I k → wY ds w f (p.length : Int) l = some true:=by
  induction r with
  | nil =>
    intro p f l I k h hf hi
    obtain ⟨f,rfl⟩ : ∃ g,f = g + 1:=⟨f - 1,by omega⟩
    rw [List.append_nil] at h
    have hpl : p.length ≤ 60:=by rw [← h]; exact hl
    obtain ⟨e,hi'⟩:=deed1 hi (d:=⟨1,0,0,[]⟩) ⟨⟨by show (0 : Int) ≤ 1; decide,by show (1 : Int) ≤ 255; decide⟩,⟨by show (0 : Int) ≤ 0; decide,by show (0 : Int) ≤ 255; decide⟩,⟨by show (0 : Int) ≤ 0; decide,by show (0 : Int) ≤ 255; decide⟩,by show 0 ≤ 100; decide⟩ (by show (1 : Int) % 8 = 1; decide)
    have hrec:=aCE hw (n:=p.length) (by omega) 4 fuel p.length 0 _ I k hi' rfl (by omega) (Int.le_refl _) (fun q hq=>(hi.sa.g.pb q hq).2.1) (gC (by omega)) (by omega)
    unfold wY
    rw [dR,bndD,← h,oY,cA]
    show bno (iF ⟨1,0,0,[]⟩ l) _ = _
    rw [e,bnoS]
    exact hrec
  | cons d r ih =>
    intro p f l I k h hf hi
    obtain ⟨f,rfl⟩ : ∃ g,f = g + 1:=⟨f - 1,by omega⟩
    have hpl : p.length ≤ 60:=by rw [h] at hl; simp at hl; omega
    obtain ⟨l',I',k',e,hi'⟩:=aBr hi (by omega) (by omega) (hd d (by rw [h]; simp))
    rw [aBp (by omega) h e]
    exact ih (p ++ [d]) f l' I' k' (iM h) (by simpa using hf) (by rw [List.length_append,List.length_singleton]; exact hi')
theorem aBJ (window : Int) (ds : List D25) (hw : 0 ≤ window ∧ window ≤ 255) (hd : ∀ d ∈ ds,(0 ≤ d.Kind ∧ d.Kind ≤ 255) ∧ (0 ≤ d.N ∧ d.N ≤ 255) ∧ (0 ≤ d.Path ∧ d.Path ≤ 255)) : fO window ds = some true:=by
  obtain ⟨b,h1,h2⟩:=few25 ds (most:=60) (by decide)
  have h1 : gY ds 60 = some b:=h1
  unfold fO
  rw [h1,bnoS]
  cases b
  · simp only [Bool.not_false,cR,aBD,bnoS]
  · obtain ⟨h3, h4⟩ := h2 rfl
    have hww : 1 ≤ 1 + window ∧ 1 + window ≤ 256:=by omega
    simp only [Bool.not_true,cA,bndD,w64 (show -9223372036854775808 ≤ window by omega) (by omega),w64 (show -9223372036854775808 ≤ 1 + window by omega) (by omega),new25 hww,bnoS,decide_true,Bool.and_self]
    have:=e25_L0 (w:=1 + window) hww.2 (ds:=ds) h3 (fun d hdd=>⟨(hd d hdd).1,(hd d hdd).2.1,(hd d hdd).2.2,h4 d hdd⟩) ds [] fuel (start (1 + window)) [] 0 rfl (gC (by omega)) (aBX hww)
    exact this
end Go.Fn
open Go.RowKit Go.WideShapes Go.ChangeShapes
namespace Go.IL

def sC (v : Value) : Prop:=∀ a n c,v = .slice (some a) n c → a.spot = none
theorem vV {P : Program} {w : World} {r : Reach} {b : Nat} {t : TypeId} {v : Value} (h : Cell.okWide P w r b t v) : sC v:=by
  intro a n c e
  subst e
  have h2 : Cell.ok P w r b t (.slice (some a) n c):=by
    unfold Cell.okWide at h
    split at h <;> first | exact h | (rename_i h3 _; cases h3) | (rename_i h3; cases h3) | skip
    all_goals first | exact h | simp_all
  unfold Cell.ok at h2
  split at h2 <;> simp_all [World.has]
theorem aBK {P : Program} {w : World} {r : Reach} {b : Nat} {t : TypeId} {v : Value} (h : Value.okWide P w r b t v) : ∀ u ∈ v.cells.toList,sC u:=by
  have agg : ∀ cs : Array Value,Row.okWide P w r b t cs → ∀ u ∈ cs.toList,sC u:=by
    intro cs ⟨ts,_,_,h3⟩ u hu
    obtain ⟨i,hi⟩:=List.getElem?_of_mem hu
    obtain ⟨q,_,hq⟩:=h3 i u (by simpa using hi)
    exact vV hq
  unfold Value.okWide at h
  split at h
  · obtain ⟨cs,rfl,_,h⟩:=h; simpa [Value.cells] using agg cs h
  · obtain ⟨cs,rfl,_,h⟩:=h; simpa [Value.cells] using agg cs h
  · have h2 := vV h
    intro u hu
    cases v with
    | agg cs =>
      exfalso
      unfold Cell.okWide at h
      split at h <;> simp_all [Cell.ok]
    | _=>simp [Value.cells] at hu; subst hu; exact h2

def Env.none (w : World) : Env:=⟨w,fun _ _=>False⟩
def OpD (P : Program) (sp : Bool) (t : TypeId) (Q : List D → Prop) : Prop :=
  ∀ {H : Type} {enc : TypeId × Value → H} {w : World} {base : Nat} {spare : Nat → Bool} {held : Bool} {fuel : Nat} {cs : List Value} {x : DataW H × List MemPlace},
    DataW.trod enc P w base spare held fuel t cs = some x → (sp = true → ∀ v ∈ cs,sC v) → ∃ ds,RdL (Env.none w) β0 cs ds ∧ Q ds
def qInt (k : IntKind) (ds : List D) : Prop:=∃ n : Int,ds = [.int k n] ∧ (k.min ≤ n ∧ n ≤ k.max)
def qStr (ds : List D) : Prop:=∃ l : List UInt8,ds = [.str l] ∧ l.length ≤ 9223372036854775807
def qSlice {α : Type} (f : Enc α) (wf : α → Prop) (ds : List D) : Prop:=∃ l : List α,ds = [.slice false (l.map f.d)] ∧ l.length ≤ 9223372036854775807 ∧ ∀ x ∈ l,wf x
def qList : List (List D → Prop) → List D → Prop
  | [],ds=>ds = []
  | Q :: Qs,ds=>∃ a b,ds = a ++ b ∧ Q a ∧ qList Qs b

section
variable {P : Program} {sp : Bool} {t : TypeId}
theorem uX {k : IntKind} (hu : P.underlying t = some (.int k)) : OpD P sp t (qInt k):=by
  intro H enc w base spare held fuel cs x h _
  obtain ⟨n,rfl,rfl,hw⟩:=DataW.trod_int hu h
  exact ⟨[.int k n],.cons (.int _ _ _) (.nil _),n,rfl,by simpa [Lit.wf] using hw⟩
theorem opd_str (hu : P.underlying t = some .string) : OpD P sp t qStr:=by
  intro H enc w base spare held fuel cs x h _
  obtain ⟨s,rfl,rfl,hs⟩:=DataW.trod_string hu h
  refine ⟨[.str s.data.toList],.cons ?_ (.nil _),s.data.toList,rfl,?_⟩
  · have:=Rd.str (E:=Env.none w) β0 s.data.toList; rwa [aBB] at this
  · have : s.data.toList.length = s.size := rfl
    rw [this]; unfold maxLen at hs; omega
theorem aAU {α : Type} {f : Enc α} {e : TypeId} {wf : α → Prop} (hu : P.underlying t = some (.slice e)) (hc : P.cellsOf e = f.sz) (he : OpD P false e (fun ds => ∃ a, ds = (f.d a).cells ∧ wf a)) : OpD P sp t (qSlice f wf) := by
  intro H enc w base spare held fuel cs x h hs
  rcases DataW.trod_slice hu h with ⟨rfl,_⟩ | ⟨a,len,cap,elems,rest,n,_,rfl,rfl,hb,hl,hm,hlen,hel,_,_⟩
  · exact ⟨[.slice false []],.cons (.nslice _ _) (.nil _),[],rfl,by simp,by simp⟩
  · by_cases hl0 : len = 0
    · subst hl0; exact ⟨[.slice false []],.cons (.eslice _ a cap false (fun h=>by cases h)) (.nil _),[],rfl,by simp,by simp⟩
    have hsp0 : a.spot = none:=by
      have h1:=hel 0 (by omega)
      have h2 : elems[0]? = some (elems[0]'(by omega)):=List.getElem?_eq_getElem _
      rw [h2,Option.bind_eq_some_iff] at h1
      obtain ⟨vs,h3,_⟩:=h1
      have h7:=World.cells?_some h3
      have hp:=f.pos
      have h8:=h7.2.2 0 (by rw [hc]; exact hp)
      rw [Nat.zero_mul] at h8
      have e0 : ((a.add 0).add 0) = a:=rfl
      rw [e0] at h8
      cases hsp : a.spot with
      | none=>rfl
      | some q =>
        exfalso
        unfold World.cell? at h8
        rw [hsp] at h8
        split at h8
        · simp at h8; have:=h7.1; simp_all
        · have:=h7.1; simp_all
    have ha : a = ⟨a.block,a.off,none⟩:=by cases a; simp_all
    have each : ∀ i,i < len → ∃ (vs : List Value) (y : α),(∀ k v,vs[k]? = some v → w.cell? ⟨a.block,a.off + (i * f.sz + k),none⟩ = some v) ∧ RdL (Env.none w) β0 vs (f.d y).cells ∧ wf y:=by
      intro i hi
      have h1:=hel i hi
      have h2 : elems[i]? = some (elems[i]'(by omega)):=List.getElem?_eq_getElem _
      rw [h2,Option.bind_eq_some_iff] at h1
      obtain ⟨vs,h3,h4⟩:=h1
      obtain ⟨ds,h5,y,rfl,h6⟩:=he h4 (by simp)
      refine ⟨vs,y,fun k v hk=>?_,h5,h6⟩
      have h7:=World.cells?_some h3
      have hk':=(List.getElem?_eq_some_iff.1 hk).1
      have h8:=h7.2.2 k (by omega)
      rw [hk,ha,hc] at h8
      rw [← h8]
      congr 1
      by_cases h9 : i * f.sz = 0
      · by_cases h10 : k = 0
        · simp [Addr.add,h9,h10]
        · simp [Addr.add,h9,h10]
      · by_cases h10 : k = 0
        · simp [Addr.add,h9,h10]
        · simp [Addr.add,h9,h10,Nat.add_assoc]
    have all : ∀ m,m ≤ len → ∃ (vs : List Value) (l : List α),l.length = m ∧ (∀ k v,vs[k]? = some v → w.cell? ⟨a.block,a.off + k,none⟩ = some v) ∧ RdL (Env.none w) β0 vs (D.flat (l.map f.d)) ∧ ∀ y ∈ l,wf y:=by
      intro m
      induction m with
      | zero=>intro _; exact ⟨[],[],rfl,by simp,.nil _,by simp⟩
      | succ m ih =>
        intro hm'
        obtain ⟨vs,l,h1,h2,h3,h4⟩:=ih (by omega)
        obtain ⟨us,y,h5,h6,h7⟩:=each m (by omega)
        have hvl : vs.length = m * f.sz:=by rw [h3.length,f.flat_len,h1]
        refine ⟨vs ++ us,l ++ [y],by simp [h1],fun k v hk=>?_,?_,?_⟩
        · by_cases hk' : k < vs.length
          · exact h2 k v (by rwa [List.getElem?_append_left hk'] at hk)
          · rw [List.getElem?_append_right (by omega)] at hk
            have:=h5 _ _ hk
            rwa [hvl,show m * f.sz + (k - m * f.sz) = k by omega] at this
        · rw [List.map_append]
          have e2 : D.flat (l.map f.d ++ [y].map f.d) = D.flat (l.map f.d) ++ (f.d y).cells:=by simp [D.flat]
          rw [e2]; exact h3.append h6
        · intro z hz
          rcases List.mem_append.1 hz with h | h
          · exact h4 z h
          · simp at h; subst h; exact h7
    obtain ⟨vs,l,h1,h2,h3,h4⟩:=all len (Nat.le_refl _)
    refine ⟨[.slice false (l.map f.d)],.cons ?_ (.nil _),l,rfl,by unfold maxLen at hm; omega,h4⟩
    rw [ha]
    exact .slice _ _ _ len cap f.sz false vs _ (by rw [List.length_map,h1]) hl (by simp) (f.len l) f.pos (fun k v hk=>⟨h2 k v hk,fun h=>h⟩) h3

def sA (P : Program) : Nat → List Field → Bool
  | _,[]=>true
  | k,f :: fs=>f.offset == k && sA P (k + P.cellsOf f.type) fs
inductive OpFs (P : Program) (sp : Bool) : List Field → List (List D → Prop) → Prop
  | nil : OpFs P sp [] []
  | cons {f fs Q Qs} (h : OpD P sp f.type Q) (t : OpFs P sp fs Qs) : OpFs P sp (f :: fs) (Q :: Qs)
theorem zN {fs : Array Field} {Qs : List (List D → Prop)} (hu : P.underlying t = some (.struct fs)) (hf : sA P 0 fs.toList = true) (hn : P.cellsOf t = (fs.toList.map fun f=>P.cellsOf f.type).sum) (h : OpFs P sp fs.toList Qs) : OpD P sp t (qList Qs):=by
  intro H enc w base spare held fuel cs x hx hs
  obtain ⟨xs,n,_,_,hlen,hxl,hfld⟩:=DataW.trod_struct hu hx
  have key : ∀ (l : List Field) (Qs : List (List D → Prop)) (k : Nat),OpFs P sp l Qs → sA P k l = true → k + (l.map fun f=>P.cellsOf f.type).sum = cs.length →
      (∀ f ∈ l,∃ y,DataW.trod enc P w base spare held n f.type ((cs.drop f.offset).take (P.cellsOf f.type)) = some y) → ∃ ds,RdL (Env.none w) β0 (cs.drop k) ds ∧ qList Qs ds:=by
    intro l Qs k ho
    induction ho generalizing k with
    | nil =>
      intro _ h1 _
      refine ⟨[],?_,rfl⟩
      rw [List.drop_of_length_le (by simp at h1; omega)]; exact .nil _
    | @cons f fs Q Qs h t ih =>
      intro h1 h2 h3
      simp only [sA,Bool.and_eq_true,beq_iff_eq] at h1
      simp only [List.map_cons,List.sum_cons] at h2
      obtain ⟨y,hy⟩:=h3 f (by simp)
      rw [h1.1] at hy
      obtain ⟨ds,h4,h5⟩:=h hy (fun hsp v hv=>hs hsp v (List.mem_of_mem_drop (List.mem_of_mem_take hv)))
      obtain ⟨es,h6,h7⟩:=ih (k + P.cellsOf f.type) h1.2 (by omega) (fun g hg=>h3 g (by simp [hg]))
      refine ⟨ds ++ es,?_,ds,es,rfl,h5,h7⟩
      have:=h4.append h6
      rwa [← List.drop_drop,List.take_append_drop] at this
  have:=key fs.toList Qs 0 h hf (by rw [Nat.zero_add,← hn,hlen]) (fun f hf=>by
    obtain ⟨i,hi⟩:=List.getElem?_of_mem hf
    have h1:=hfld i f (by simpa using hi)
    have h2 : i < xs.length:=by rw [hxl]; have:=(List.getElem?_eq_some_iff.1 hi).1; simpa using this
    exact ⟨xs[i],by rw [h1,List.getElem?_eq_getElem h2]⟩)
  rwa [List.drop_zero] at this
theorem OpD.to {Q R : List D → Prop} (h : OpD P sp t Q) (k : ∀ ds,Q ds → R ds) : OpD P sp t R:=by
  intro H enc w base spare held fuel cs x hx hs
  obtain ⟨ds,h1,h2⟩:=h hx hs
  exact ⟨ds,h1,k ds h2⟩
theorem aAT {Q : List D → Prop} (h : OpD P true t Q) {H : Type} {enc : TypeId × Value → H} {w : World} {base b0 : Nat} {spare : Nat → Bool} {held : Bool} {v : Value} {d : DataW H} {ps : List MemPlace} {r : Reach}
    (hv : Value.okWide P w r b0 t v) (hd : DataW.Trod enc P w base spare held t v d ps) : ∃ ds,RdL (Env.none w) β0 v.cells.toList ds ∧ Q ds:=by
  obtain ⟨fuel,hf⟩:=hd
  exact h hf (fun _=>aBK hv)
theorem aAI {E : Env} {v : Value} {d : D} (h : RdL E β0 v.cells.toList [d]) (hn : ∀ cs,v ≠ .agg cs) : Rd E β0 v d:=by
  cases v with
  | agg cs=>exact absurd rfl (hn cs)
  | _=>simp [Value.cells] at h; cases h with | cons h _=>exact h
section
variable {H : Type} {enc : TypeId × Value → H}
theorem pO (hl : laidOutB P = true) {W W' : World} (hb : Below W.heap.size W W') {sp : Nat → Bool} : ∀ {ts : List TypeId} {vs : List Value} {ds : List (DataW H)} {ps : List MemPlace},
    (∀ t ∈ ts,P.readableRec t = true ∧ t < P.types.size) → DataW.TrodAll enc P W 0 (fun _=>true) true ts vs ds ps → (∀ x ∈ ps,x.block < W.heap.size) → (∀ x ∈ ps,sp x.block = true) →
    DataW.TrodAll enc P W' 0 sp true ts vs ds ps
  | [], vs, ds, ps, _, h, _, _ => by
    obtain ⟨rfl,rfl,rfl⟩:=trodAll_nil h; exact rfl
  | t :: ts, vs, ds, ps, hr, h, hlt, hsp => by
    obtain ⟨v,vs',d,ds',p,q,rfl,rfl,rfl,h1,h2⟩:=trodAll_cons h
    refine ⟨p,q,?_,pO hl hb (fun t ht=>hr t (by simp [ht])) h2 (fun x hx=>hlt x (by simp [hx])) (fun x hx=>hsp x (by simp [hx])),rfl⟩
    have hx : ∀ x ∈ p,x ∈ p ++ q:=fun x hx=>by simp [hx]
    exact WideElems.Trod_stays hl (hr t (by simp)).1 (hr t (by simp)).2 h1 (fun x hxp=>hb.same (hlt x (hx x hxp))) (fun x hxp=>hsp x (hx x hxp))
theorem uU {f : Func} {s : ChangeSpec} {apart fresh handsOn again : Bool} {W W' : World} {args : Array Value} {v : Value} {ds gs : List (DataW H)} {before pa pv : List MemPlace}
    (hW : DataW.Whole enc P f.params.toList s.vars apart W args.toList ds gs before)
    (hres : ∀ (b : Nat) (sp : Nat → Bool) (hd : Bool),DataW.TrodAll enc P W' b sp hd f.resultTypes.toList (v.resultList f.resultTypes.size) (s.fn H (ds ++ gs)).results [])
    (hargs : ∀ sp : Nat → Bool,(∀ p ∈ before,sp p.block = true) → DataW.TrodAll enc P W' 0 sp true f.params.toList args.toList (s.fn H (ds ++ gs)).args pa)
    (hvars : ∀ sp : Nat → Bool,(∀ p ∈ before,sp p.block = true) → DataW.TrodVars enc P W' sp s.vars (s.fn H (ds ++ gs)).vars pv)
    (hps : before = pa ++ pv) (hb : Below W.heap.size W W')
    (hok : ∀ (j : Nat) (t : TypeId) (r : Value),f.resultTypes[j]? = some t → (v.resultList f.resultTypes.size)[j]? = some r → Value.okWide P W' .any 0 t r) :
    s.post enc P f apart fresh handsOn again W args v W':=by
  have hlt : ∀ p ∈ before,p.block < W.heap.size:=fun p hp=>hW.lt p hp
  have hold : ∀ p ∈ before,(fun b=>decide (b < W.heap.size)) p.block = true:=fun p hp=>by simpa using hlt p hp
  refine ⟨ds,gs,before,[],pa,pv,hW,hres _ _ _,hargs _ hold,hvars _ hold,World.keptBut_mono (fun p hp=>⟨hp,?_⟩) (hb.frame (· ∈ before)),fun _=>?_⟩
  · rw [hps, List.mem_append] at hp
    exact Or.inr hp
  · obtain ⟨_, _, _, _, _, hz, hn⟩ := hW
    refine ⟨hok,_,_,([] ++ pa) ++ pv,⟨[] ++ pa,pv,trodAll_append (hargs _ (fun _ _=>rfl)) (hres _ _ _),hvars _ (fun _ _=>rfl),rfl,?_,?_⟩,?_⟩
    · intro b off hp
      have hin : MemPlace.cell b off ∈ before:=by rw [hps]; simpa using hp
      rw [hb.frozen (hlt _ hin)]
      exact hz b off hin
    · intro ha
      have:=hn ha
      rw [hps] at this
      simpa using this
    · intro p hp _
      rw [hps]
      simpa using hp
theorem aBY {f : Func} {s : ChangeSpec} {apart fresh handsOn again : Bool} {W W' : World} {args : Array Value} {ds gs : List (DataW H)} {before : List MemPlace} {tb : TypeId}
    (hl : laidOutB P = true) (hr : ∀ t ∈ f.params.toList,P.readableRec t = true ∧ t < P.types.size) (hv : s.vars = []) (hres : f.resultTypes = #[tb]) (hbool : P.underlying tb = some .bool)
    (hfn : s.fn H (ds ++ gs) = { results:=[.lit (.bool true)],args:=ds })
    (hW : DataW.Whole enc P f.params.toList s.vars apart W args.toList ds gs before) (hb : Below W.heap.size W W') : s.post enc P f apart fresh handsOn again W args (.bool true) W':=by
  have hW':=hW
  obtain ⟨p,q,hA,hV,hbef,hfz,hnd⟩:=hW
  rw [hv] at hV
  obtain ⟨rfl,rfl⟩:=trodVars_none hV
  have hlt : ∀ x ∈ before,x.block < W.heap.size:=fun x hx=>hW'.lt x hx
  have hsub : ∀ x ∈ p,x ∈ before:=fun x hx=>by rw [hbef]; simp [hx]
  refine uU (pa:=p) (pv:=[]) hW' ?_ ?_ ?_ ?_ hb ?_
  · intro b sp hd
    rw [hfn,hres]
    exact trodAll_mk1 (shut_bool hbool true)
  · intro sp hsp
    rw [hfn]
    exact pO hl hb hr hA (fun x hx=>hlt x (hsub x hx)) (fun x hx=>hsp x (hsub x hx))
  · intro sp hsp
    rw [hfn,hv]; exact rfl
  · exact hbef
  · exact ok_one hres rfl (okWide_bool_mk hbool true)
end
end
end Go.IL
namespace Go.IL
theorem uC {P : Program} {w W : World} {r : Reach} {b : Nat} {t : TypeId} {v : Value} {d : D} (hv : Value.okWide P W r b t v) (hg : gP P t = false) (h : RdL (Env.none w) β0 v.cells.toList [d]) : Rd (Env.none w) β0 v d:=by
  refine aAI h fun cs e=>?_
  subst e
  unfold gP at hg
  unfold Value.okWide at hv
  split at hv
  · rename_i h1; rw [h1] at hg; cases hg
  · rename_i h1; rw [h1] at hg; cases hg
  · unfold Cell.okWide at hv
    split at hv <;> simp_all [Cell.ok]
end Go.IL
open Go.RowKit Go.WideShapes Go.ChangeShapes
namespace Go.IL
end Go.IL
