import Derived.Test.YtlboejdhmggjpaaGreatXbK
set_option linter.all false
namespace Go.Proofs.YtlboejdhmggjpaaGreat.Pp.Dr
set_option maxRecDepth 100000
set_option maxHeartbeats 1600000
open Go.RowKit Go.BigFrame Go.Proofs.YtlboejdhmggjpaaGreat
variable {L : List Ct}{XS : List Sx}{g : List Value}{n : Nat}{S : Nat→Prop}{s : Sx}
theorem M5 {gb:Nat}{vr:Value}(ih:Wd gb L vr n){w:World}{k:Nat}(hk:k≤100)(hx:Cx gb L vr S w s g)(h:vJ (aS L n) k s=some XS):Calls Tryz.prog 96 #[gP gb, .int .i64 (k:Nat), .agg g.toArray] w (Ps S w XS):=by
 obtain⟨T,hp,hbx,hst⟩:=hx.box
 obtain⟨aE,nE,cE,aK,nK,cK,aC,nC,cC,rfl, -⟩:=hx.st.aj
 unfold vJ at h
 by_cases hk0:k=0
 ·rw[ω hk0]at h
  subst hk0;have H:=π h;clear h;unfold Ps
  go_enter Tryz.func96,Tryz.ntmps96
  go_wp2_with fail
  refine(ih.call (hx.af hp hst) H.out).mono ?_;rintro e w2 h;obtain⟨v,rfl,hb,hr⟩:=Ps.up hp h;clear h
  go_wp2_with fail
  go_ret;exact⟨_,rfl,hb,hr⟩
 ·rw[χ hk0]at h
  have H:=π h
  have e0:((k:Int)==0)=false:=by rw[aat];omega
  clear h;unfold Ps
  go_enter Tryz.func96,Tryz.ntmps96
  go_wp2_with fail
  have e1:((k:Int)+1)=((k+1:Nat):Int):=by omega
  rw[e1];refine(ih.dB (hx.af hp hst) H.out).mono ?_;rintro e w2 h;obtain⟨v,rfl,hb,hr⟩:=Ps.up hp h;clear h;clear e1
  go_wp2_with fail
  go_ret;exact⟨_,rfl,hb,hr⟩
variable {T : Nat→Prop}
theorem kF.aj {w:World}{t:Tr}(h:kF T w t g):∃aK nK cK aD nD cD,g=[.int .i64 t.k, .int .i64 t.lo, .int .i64 t.hi, .slice aK nK cK, .slice aD nD cD]∧l5 T w (.slice aK nK cK) t.ah∧vg T w (.slice aD nD cD) t.mf:=by
 obtain⟨k,lo,hi,ks,ds⟩:=t
 obtain⟨vk,vd,gs,rfl,h1,h2,h3⟩:=h
 obtain⟨aK,nK,cK,rfl⟩:=h1.aj
 obtain⟨aD,nD,cD,rfl⟩:=h3.aj
 exact⟨_,_,_,_,_,_,rfl,⟨gs,h1,h2⟩,h3⟩
theorem jZ.get{S:Nat→Prop}{w:World}:∀{xs:List Tr} {gs:List (List Value)},jZ S w xs gs→∀i (h:i<xs.length),∃g,gs[i]? =some g∧kF S w xs[i] g
 |[],_,_,i,h=>by simp at h
 |d::r,_,⟨v,gr,h1,h2,h3⟩,i,h=>by
  subst h1
  cases i with
  |zero=>exact⟨v,rfl,h2⟩
  |succ i=>exact jZ.get h3 i (by simpa using h)
variable {c : Nat}
theorem l5.first {w:World}{a:Option Addr}{k : Nat}{ks:List Tr}(h:l5 T w (.slice a k c) ks)(hne:ks≠[]):0<k∧∃b off aK nK cK aD nD cD,a=some ⟨b,off,none⟩∧(∀u:df w,u.w.cell? ⟨b,off,none⟩=some (.int .i64 (ks.headD zT).k)∧u.w.cell? ⟨b,off+1,none⟩=some (.int .i64 (ks.headD zT).lo)∧u.w.cell? ⟨b,off+2,none⟩=some (.int .i64 (ks.headD zT).hi)∧u.w.cell? ⟨b,off+3,none⟩=some (.slice aK nK cK)∧u.w.cell? ⟨b,off+4,none⟩=some (.slice aD nD cD))∧kF T w (ks.headD zT) [.int .i64 (ks.headD zT).k, .int .i64 (ks.headD zT).lo, .int .i64 (ks.headD zT).hi, .slice aK nK cK, .slice aD nD cD]:=by
 obtain⟨gs,h1,h2⟩:=h
 obtain⟨t,r,rfl⟩:=afO hne
 obtain⟨g,g1,hg⟩:=h2.get 0 ν
 obtain⟨e,b,off,rfl,hS,hl,hc⟩:=h1.get g1
 obtain⟨aK,nK,cK,aD,nD,cD,rfl, -⟩:=kF.aj hg
 rw[Nat.zero_mul,Nat.add_zero]at hc
 exact⟨by rw[e,h2.len];simp,b,off,_,_,_,_,_,_,rfl,fun u=>⟨u.cell (hc 0 _ rfl),u.cell (hc 1 _ rfl),u.cell (hc 2 _ rfl),u.cell (hc 3 _ rfl),u.cell (hc 4 _ rfl)⟩,hg⟩
theorem fJ.lG{T:Nat→Prop}{w:World}{x:Sx}{a b c d e:Value}(h:fJ T w x [a,b,c,d,e]):nZ T w b x.env∧l5 T w c x.ah∧vg T w e x.cl:=by
 obtain⟨vE,vK,vC,h1,h2,h3,h4⟩:=h
 simp only[afM,and_true]at h1
 obtain⟨-,rfl,rfl,rfl,rfl⟩:=h1
 exact⟨h2,h3,h4⟩
theorem Dj.symm{u v:Value}(h:Dj u v):Dj v u:=fun b hb hb'=>h b hb' hb
variable {xs : List Sx}{m m' : Nat}
theorem dW.base {w:World}{v:Value}(o:dW T m w v xs)(h:m'≤m):dW T m' w v xs:=by
 obtain⟨gs,⟨⟨k1,k2⟩,k3,k4⟩,k5⟩:=o
 refine⟨gs,⟨⟨k1,k2.imp id ?_⟩,k3,k4⟩,k5⟩
 rintro⟨g,cap,cur,h1,h2,h3⟩
 exact⟨g,cap,cur,h1,aaT h h2,h3⟩
theorem Pw.trans {U : Nat→Prop}{w0 w w':World}(p:Pw S w0 T w)(q:Pw T w U w'):Pw S w0 U w':=⟨q.lt,fun b hb=>(q.up b hb).elim (p.up b) fun h=> .inr (aaT p.be.size h),p.be.trans (q.be.mono p.be.size),fun b hb hl=>q.sub b (p.sub b hb hl) (p.lt b (p.sub b hb hl))⟩
def alM(gb:Nat)(L:List Ct)(vr:Value)(n:Nat):Prop:=∀{S w x g f p},Cx gb L vr S w x g→pQ L x→x.ah≠[]→f≤L.length→ru L (aS L n) x=some p→Calls Tryz.prog 102 #[gP gb, .agg g.toArray, .int .i64 (f:Nat)] w (Ps S w (p.2.map fun y=>iA p.1 f y (x.ah.headD zT::y.ah)))
theorem Aj{T:Nat→Prop}{w:World}{x r:Sx}{t:Tr}{gx gr gt:List Value}(hS:∀b,T b→b<w.heap.size)(hx:fJ T w x gx)(hr:fJ T w r gr)(ht:kF T w t gt)(hk:x.ah.length≤1000):Calls Tryz.prog 94 #[.agg gx.toArray, .agg gr.toArray, .agg gt.toArray] w fun e w'=>∃g,e= .returned (.agg g.toArray)∧Below w.heap.size w w'∧fJ (Dr.gr T w w') w' (gU x r t) g:=
 (Uo hS hx hr ht η).mono fun e w' ⟨g,h1,h2,h3⟩=>⟨g,h1,h2,h3.to wS⟩
theorem JQ {wr W w2:World}(h:Below wr.heap.size wr W):To (gr T W w2) w2 (gr T wr w2) w2:= .mono fun b k _=>⟨k.1,k.2.imp id (aaT h.size)⟩
theorem aci (h:aS L n (.jT s)=some XS):∃m x y,n=m+1∧pQ L s∧aS L m (.call [112,114,105,109,97,114,121] (fresh s))=some x∧aS L m (.call [108,105,116,101,114,97,108] (fresh s))=some y∧(x++y).length≤1000∧aS L m (.iO s (x++y))=some XS:=by
 obtain⟨m,rfl,hs,h1, -⟩:=fB h
 obtain⟨x,h2,h3⟩:=Γ.1 h1
 obtain⟨y,h4,h5⟩:=Γ.1 h3
 obtain⟨z,h6,h7⟩:=Γ.1 h5
 obtain⟨rfl,hl⟩:=eU h6
 exact⟨m,x,y,rfl,hs,h2,h4,hl,h7⟩
variable {y : List Sx}
theorem ZP {fr : List Sx}(h:aS L n (.iO s fr)=some y):BJ L (.iO s fr)∧((fr=[]∧y=[])∨fr≠[]∧∃m Z y',n=m+1∧bu (jF L (aS L m) s) fr=some Z∧aS L m (.iO s Z)=some y'∧y=fr.map (dF s)++y'):=by
 obtain⟨m,rfl,h0,h1, -⟩:=fB h
 refine⟨h0,?_⟩
 have h1:(if fr.isEmpty then some []else(bu (jF L (aS L m) s) fr).bind fun x=>(aS L m (.iO s x)).bind fun y=>aG (fr.map (dF s)++y))=some y:=h1
 split at h1
 ·next h2=>exact .inl ⟨afP.1 h2,(aau h1).symm⟩
 ·next h2=>
  obtain⟨Z,h3,h4⟩:=Γ.1 h1;obtain⟨y',h5,h6⟩:=Γ.1 h4;exact .inr ⟨fun e=>h2 (by rw[e];rfl),m,Z,y',rfl,h3,h5,(eU h6).1.symm⟩
end Go.Proofs.YtlboejdhmggjpaaGreat.Pp.Dr
