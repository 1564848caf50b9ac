import Derived.Test.YtlboejdhmggjpaaGreatWkJ
set_option linter.all false
namespace Go.Proofs.YtlboejdhmggjpaaGreat.Pp
set_option maxRecDepth 100000
set_option maxHeartbeats 16000000
open Go.RowKit Go.BigFrame Go.Proofs.YtlboejdhmggjpaaGreat
theorem K7{E:En}(hE:E.ok)(s:Ps)(w:World)(h:PW E w s):Calls Tryz.prog 156 #[.pointer (some ⟨E.pb,0,none⟩)] w (fO E inV w (dB E.L s)):=by
 obtain⟨T,hT⟩:∃T,az E.L s 0=T:=⟨_,rfl⟩
 have pk:=qg hE 0 s w η h
 have hr:dB E.L s= .ok (if T.c=7 then Co T.t else 0) s:=by show Rs.ok _ s=_;rw[hT]
 rw[hr]
 rw[hT]at pk
 unfold AX at pk
 have H:=Hh h
 obtain⟨b0,h0⟩:∃b,((au T.t).toList==[124,124])=b:=⟨_,rfl⟩
 obtain⟨b1,h1⟩:∃b,((au T.t).toList==[38,38])=b:=⟨_,rfl⟩
 obtain⟨b2,h2⟩:∃b,((au T.t).toList==[124])=b:=⟨_,rfl⟩
 obtain⟨b3,h3⟩:∃b,((au T.t).toList==[94])=b:=⟨_,rfl⟩
 obtain⟨b4,h4⟩:∃b,((au T.t).toList==[38])=b:=⟨_,rfl⟩
 obtain⟨b5,h5⟩:∃b,((au T.t).toList==[61,61])=b:=⟨_,rfl⟩
 obtain⟨b6,h6⟩:∃b,((au T.t).toList==[33,61])=b:=⟨_,rfl⟩
 obtain⟨b7,h7⟩:∃b,((au T.t).toList==[60])=b:=⟨_,rfl⟩
 obtain⟨b8,h8⟩:∃b,((au T.t).toList==[62])=b:=⟨_,rfl⟩
 obtain⟨b9,h9⟩:∃b,((au T.t).toList==[60,61])=b:=⟨_,rfl⟩
 obtain⟨b10,h10⟩:∃b,((au T.t).toList==[62,61])=b:=⟨_,rfl⟩
 obtain⟨b11,h11⟩:∃b,((au T.t).toList==[60,60])=b:=⟨_,rfl⟩
 obtain⟨b12,h12⟩:∃b,((au T.t).toList==[62,62])=b:=⟨_,rfl⟩
 obtain⟨b13,h13⟩:∃b,((au T.t).toList==[43])=b:=⟨_,rfl⟩
 obtain⟨b14,AZ⟩:∃b,((au T.t).toList==[45])=b:=⟨_,rfl⟩
 obtain⟨b15,h15⟩:∃b,((au T.t).toList==[42])=b:=⟨_,rfl⟩
 obtain⟨b16,h16⟩:∃b,((au T.t).toList==[47])=b:=⟨_,rfl⟩
 obtain⟨b17,h17⟩:∃b,((au T.t).toList==[37])=b:=⟨_,rfl⟩
 have hk:Co T.t=if b0=true then 36 else if b1=true then 37 else if b2=true then 38 else if b3=true then 39 else if b4=true then 40 else if b5=true∨b6=true then 41 else if b7=true∨b8=true∨b9=true∨b10=true then 42 else if b11=true∨b12=true then 43 else if b13=true∨b14=true then 44 else if b15=true∨b16=true∨b17=true then 45 else 0:=by
  unfold Co;simp only[abf,abZ,acz,dw h0,dw h1,dw h2,dw h3,dw h4,dw h5,dw h6,dw h7,dw h8,dw h9,dw h10,dw h11,dw h12,dw h13,dw AZ,dw h15,dw h16,dw h17]
 obtain⟨v,hv⟩:∃v,Co T.t=v:=⟨_,rfl⟩
 obtain⟨st,hst⟩:∃st:ByteArray,au T.t=st:=⟨_,rfl⟩
 rw[hst]at pk
 rw[hv]at hk⊢
 simp only[hst]at h0 h1 h2 h3 h4 h5 h6 h7 h8 h9 h10 h11 h12 h13 AZ h15 h16 h17
 have HKK:=Hh hk
 have PK:=Hh pk
 clear hv hst pk h hr hT hk
 by_cases h1:T.c=7
 ·go_enter Tryz.func156,Tryz.ntmps156
  go_wp2_with fail
  refine PK.out.mono ?_;rintro e w1 ⟨rfl,hb1⟩;have HB:=Hh hb1;clear hb1
  go_wp2_with fail
  all_goals(have hk:=HKK.out;go_ret;exact⟨by unfold inV;simp_all,(fO.pure (val:=inV) (v:=(if T.c=7 then v else 0)) hE H.out (HB.out.trans ((ag _ _).mono HB.out.size))).2⟩)
 ·clear HKK
  have h1':((T.c:Int)!=7)=true:=by rw[acm];omega
  have hz:(if T.c=7 then v else 0)=0:=by rw[χ h1]
  rw[hz];clear hz
  go_enter Tryz.func156,Tryz.ntmps156
  go_wp2_with fail
  refine PK.out.mono ?_;rintro e w1 ⟨rfl,hb1⟩;have HB:=Hh hb1;clear hb1
  go_wp2_with fail
  refine abw (v:= .int .i64 0) (by simp[results,Tryz.results156,go_sem]) rfl ?_;exact fO.pure (val:=inV) (v:=0) hE H.out (HB.out.trans ((ag _ _).mono HB.out.size))
theorem YO{E:En}(hE:E.ok)(s:Ps)(w:World)(h:PW E w s):Calls Tryz.prog 163 #[.pointer (some ⟨E.pb,0,none⟩)] w (fO E .bool w (ny E.L s)):=by
 obtain⟨T,hT⟩:∃T,az E.L s 0=T:=⟨_,rfl⟩
 have pk:=qg hE 0 s w η h
 have hr:ny E.L s= .ok (T.c==7&&Hd T.t) s:=by show Rs.ok _ s=_;rw[hT]
 rw[hr]
 rw[hT]at pk
 unfold AX at pk
 have H:=Hh h
 obtain⟨b0,h0⟩:∃b,((au T.t).toList==[61])=b:=⟨_,rfl⟩
 obtain⟨b1,h1⟩:∃b,((au T.t).toList==[42,61])=b:=⟨_,rfl⟩
 obtain⟨b2,h2⟩:∃b,((au T.t).toList==[47,61])=b:=⟨_,rfl⟩
 obtain⟨b3,h3⟩:∃b,((au T.t).toList==[37,61])=b:=⟨_,rfl⟩
 obtain⟨b4,h4⟩:∃b,((au T.t).toList==[43,61])=b:=⟨_,rfl⟩
 obtain⟨b5,h5⟩:∃b,((au T.t).toList==[45,61])=b:=⟨_,rfl⟩
 obtain⟨b6,h6⟩:∃b,((au T.t).toList==[60,60,61])=b:=⟨_,rfl⟩
 obtain⟨b7,h7⟩:∃b,((au T.t).toList==[62,62,61])=b:=⟨_,rfl⟩
 obtain⟨b8,h8⟩:∃b,((au T.t).toList==[38,61])=b:=⟨_,rfl⟩
 obtain⟨b9,h9⟩:∃b,((au T.t).toList==[94,61])=b:=⟨_,rfl⟩
 obtain⟨b10,h10⟩:∃b,((au T.t).toList==[124,61])=b:=⟨_,rfl⟩
 have hk:Hd T.t=(b0||b1||b2||b3||b4||b5||b6||b7||b8||b9||b10):=by
  rw[ags];unfold Hd;simp only[abC,abf,abZ,acz,ack,or_assoc,dw h0,dw h1,dw h2,dw h3,dw h4,dw h5,dw h6,dw h7,dw h8,dw h9,dw h10]
 obtain⟨v,hv⟩:∃v,Hd T.t=v:=⟨_,rfl⟩
 obtain⟨st,hst⟩:∃st:ByteArray,au T.t=st:=⟨_,rfl⟩
 rw[hst]at pk
 rw[hv]at hk⊢
 simp only[hst]at h0 h1 h2 h3 h4 h5 h6 h7 h8 h9 h10
 have HKK:=Hh hk
 have PK:=Hh pk
 clear hv hst pk h hr hT hk
 by_cases h1:T.c=7
 ·go_enter Tryz.func163,Tryz.ntmps163
  go_wp2_with fail
  refine PK.out.mono ?_;rintro e w1 ⟨rfl,hb1⟩;have HB:=Hh hb1;clear hb1
  go_wp2_with fail
  all_goals(have hk:=HKK.out;go_ret;exact⟨by simp_all,(fO.pure (val:= .bool) (v:=(T.c==7&&v)) hE H.out (HB.out.trans ((ag _ _).mono HB.out.size))).2⟩)
 ·clear HKK
  have h1':((T.c:Int)!=7)=true:=by rw[acm];omega
  have hz:(T.c==7&&v)=false:=by rw[show(T.c==7)=false from aat.mpr h1];rfl
  rw[hz];clear hz
  go_enter Tryz.func163,Tryz.ntmps163
  go_wp2_with fail
  refine PK.out.mono ?_;rintro e w1 ⟨rfl,hb1⟩;have HB:=Hh hb1;clear hb1
  go_wp2_with fail
  refine abw (v:= .bool false) (by simp[results,Tryz.results163,go_sem]) rfl ?_;exact fO.pure (val:= .bool) (v:=false) hE H.out (HB.out.trans ((ag _ _).mono HB.out.size))
end Go.Proofs.YtlboejdhmggjpaaGreat.Pp
