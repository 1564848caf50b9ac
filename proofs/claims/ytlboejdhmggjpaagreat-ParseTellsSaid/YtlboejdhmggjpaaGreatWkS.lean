import Derived.Test.YtlboejdhmggjpaaGreatWkK
set_option linter.all false
namespace Go.Proofs.YtlboejdhmggjpaaGreat.Pp
open Go.RowKit Go.BigFrame Go.Proofs.YtlboejdhmggjpaaGreat
def DW(p:Bs×Bool):List Value:=[.string (au p.1), .bool p.2]
def uz(w:World)(y:Value)(p:List (Bs×Bool)):Prop:=∃a c,y= .slice a p.length c∧(p.length≤1000000∧∀q∈p,q.1.length≤maxLen)∧(p=[]∨∃b cur,a=some ⟨b,0,none⟩∧w.heap[b]? =some (.cells cur 95 (0,0))∧cur.toList.take (p.length*2)=p.flatMap DW)
variable {y : Value}{w' : World}
theorem uz.kp {w : World}{p:List (Bs×Bool)}(h:uz w y p)(hk:KP w w'):uz w' y p:=by
 obtain⟨a,c,h1,h0,h2⟩:=h
 refine⟨a,c,h1,h0,?_⟩
 rcases h2 with h2|⟨b,cur,h3,h4,h5⟩
 ·exact .inl h2
 ·exact .inr ⟨b,cur,h3,hk.2 _ _ _ _ rfl h4,h5⟩
def gq(_:World)(_:Va)(x:Value):Prop:=x= .tuple #[]
def GY(_:World)(v:Va)(x:Value):Prop:=x= .bool v.bool
def vaF(w:World)(v:Va)(x:Value):Prop:=∃y,x= .agg #[.bool v.fA.named, .string (au v.fA.name), .int .i64 v.fA.ek,y]∧uz w y v.fA.params∧v.fA.name.length≤maxLen
def vaP(w:World)(v:Va)(x:Value):Prop:=uz w x v.jm
variable {α : Type}
def eZ (E:En)(R:World→α→Value→Prop)(w:World)(r:Rs α)(e:Ending)(w':World):Prop:=
 match r with
 | .ok v s'=>∃y,e= .returned y∧R w' v y∧PW E w' s'∧KP w w'
 | .no=>(∃n:Int,e= .panicked (mV n))∧Below E.X E.w0 w'∧KP w w'
 | .out=>True
variable {E : En}{val : α→Value}
theorem fO.q {w : World}{r:Rs α}{e:Ending}(h:fO E val w r e w'):eZ E (fun _ v y=>y=val v) w r e w':=by
 cases r with
 |ok v s=>exact⟨_,h.1,rfl,h.2⟩
 |no=>exact h
 |out=>trivial
theorem JL{E:En}{α β:Type}{x:Pm α}{k:α→Pm β}{s:Ps}{r:Rs β}{R:World→α→Value→Prop}{w w1 w2:World}{e:Ending}(hr:(x>>=k) s=r)(hn:r≠ .out)(hk:KP w w1)(he:eZ E R w1 (x s) e w2):
 (∃v s2 y,k v s2=r∧x s= .ok v s2∧e= .returned y∧R w2 v y∧PW E w2 s2∧KP w1 w2∧KP w w2)∨(r= .no∧(∃n,e= .panicked (mV n))∧Below E.X E.w0 w2∧KP w w2):=by
 change Pm.bind x k s=r at hr
 unfold Pm.bind at hr
 cases hx:x s with
 |out=>rw[hx]at hr;exact absurd hr.symm hn
 |no=>rw[hx]at hr he;exact .inr ⟨hr.symm,he.1,he.2.1,hk.trans he.2.2⟩
 |ok v s2=>
  rw[hx]at hr he;obtain⟨y,h1,h2,h3,h4⟩:=he;exact .inl ⟨v,s2,y,hr,rfl,h1,h2,h3,h4,hk.trans h4⟩
theorem CQ{E:En}{α β:Type}{x:Pm α}{k:α→Pm β}{s:Ps}{r:Rs β}{val:α→Value}{w w1 w2:World}{e:Ending}(hr:(x>>=k) s=r)(hn:r≠ .out)(hk:KP w w1)(he:fO E val w1 (x s) e w2):
 (∃v s2,k v s2=r∧x s= .ok v s2∧e= .returned (val v)∧PW E w2 s2∧KP w1 w2∧KP w w2)∨(r= .no∧(∃n,e= .panicked (mV n))∧Below E.X E.w0 w2∧KP w w2):=by
 rcases JL hr hn hk he.q with⟨v,s2,y,h1,h2,h3,rfl,h5⟩|h
 ·exact .inl ⟨v,s2,h1,h2,h3,h5⟩
 ·exact .inr h
variable {s : Ps}{β : Type}{x : Pm α}{r : Rs β}
theorem fP {k:α→Pm β}(hr:(x>>=k) s=r)(hn:r≠ .out):x s≠ .out:=fun h=>by
 change Pm.bind x k s=r at hr
 unfold Pm.bind at hr
 rw[h]at hr
 exact hn hr.symm
variable {w1 w2 : World}
theorem qsR {k:α→Pm β}{w : World}{e:Ending}(hr:Hid ((x>>=k) s=r))(hn:Hid (r≠ .out))(hk:Hid (KP w w1))(he:fO E val w1 (x s) e w2):
 (∃v s2,Hid (k v s2=r)∧e= .returned (val v)∧Hid (PW E w2 s2)∧KP w1 w2∧Hid (KP w w2))∨∃n,e= .panicked (mV n)∧∀{R:World→β→Value→Prop},eZ E R w r (.panicked (mV n)) w2:=by
 rcases CQ hr hn hk he with⟨v,s2,h1, -,h3,h4,h5,h6⟩|⟨h1,⟨n,h2⟩,h3,h4⟩
 ·exact .inl ⟨v,s2,h1,h3,h4,h5,h6⟩
 ·exact .inr ⟨n,h2,fun{R}=>by rw[h1];exact⟨⟨n,rfl⟩,h3,h4⟩⟩
variable {R : World→α→Value→Prop}
theorem qsQ {k:α→Pm β}{w : World}{e:Ending}(hr:Hid ((x>>=k) s=r))(hn:Hid (r≠ .out))(hk:Hid (KP w w1))(he:eZ E R w1 (x s) e w2):
 (∃v s2 y,Hid (k v s2=r)∧e= .returned y∧R w2 v y∧Hid (PW E w2 s2)∧KP w1 w2∧Hid (KP w w2))∨∃n,e= .panicked (mV n)∧∀{R:World→β→Value→Prop},eZ E R w r (.panicked (mV n)) w2:=by
 rcases JL hr hn hk he with⟨v,s2,y,h1, -,h3,h4,h5,h6,h7⟩|⟨h1,⟨n,h2⟩,h3,h4⟩
 ·exact .inl ⟨v,s2,y,h1,h3,h4,h5,h6,h7⟩
 ·exact .inr ⟨n,h2,fun{R}=>by rw[h1];exact⟨⟨n,rfl⟩,h3,h4⟩⟩
variable {args : Array Value}{Q : Ending→World→Prop}{f : FuncId}
theorem mR {k:α→Pm β}{w : World}(h:Calls Tryz.prog f args w1 (fO E val w1 (x s)))(hr:Hid ((x>>=k) s=r))(hn:Hid (r≠ .out))(hk:Hid (KP w w1))(hno:∀n w2,(∀{R:World→β→Value→Prop},eZ E R w r (.panicked (mV n)) w2)→Q (.panicked (mV n)) w2)(hok:∀v s2 w2,Hid (k v s2=r)→Hid (PW E w2 s2)→KP w1 w2→Hid (KP w w2)→Q (.returned (val v)) w2):Calls Tryz.prog f args w1 Q:=by
 refine h.mono fun e w2 he=>?_
 rcases qsR hr hn hk he with⟨v,s2,h1,rfl,h3,h4,h5⟩|⟨z,rfl,h1⟩
 ·exact hok v s2 w2 h1 h3 h4 h5
 ·exact hno z w2 h1
theorem mQ {k:α→Pm β}{w : World}(h:Calls Tryz.prog f args w1 (eZ E R w1 (x s)))(hr:Hid ((x>>=k) s=r))(hn:Hid (r≠ .out))(hk:Hid (KP w w1))(hno:∀n w2,(∀{R:World→β→Value→Prop},eZ E R w r (.panicked (mV n)) w2)→Q (.panicked (mV n)) w2)(hok:∀v s2 y w2,Hid (k v s2=r)→R w2 v y→Hid (PW E w2 s2)→KP w1 w2→Hid (KP w w2)→Q (.returned y) w2):Calls Tryz.prog f args w1 Q:=by
 refine h.mono fun e w2 he=>?_
 rcases qsQ hr hn hk he with⟨v,s2,y,h1,rfl,h2,h3,h4,h5⟩|⟨z,rfl,h1⟩
 ·exact hok v s2 y w2 h1 h2 h3 h4 h5
 ·exact hno z w2 h1
theorem uT{α β:Type}{x:Pm α}{k:α→Pm β}{s s2:Ps}{v:α}{r:Rs β}(hr:(x>>=k) s=r)(hx:x s= .ok v s2):k v s2=r:=by
 change Pm.bind x k s=r at hr
 unfold Pm.bind at hr
 rw[hx]at hr
 exact hr
variable {A B : Pm β}
theorem Mj (h:(if true=true then A else B) s=r):A s=r:=h
theorem Ml (h:(if false=true then A else B) s=r):B s=r:=h
variable {c : Prop}
theorem QQ {dc:Decidable c}(h:(if c then A else B) s=r)(hc:c):A s=r:=by rwa[ω hc]at h
theorem Mm {dc:Decidable c}(h:(if c then A else B) s=r)(hc:¬c):B s=r:=by rwa[χ hc]at h
theorem zh {v:β}(h:(pure v:Pm β) s=r):r= .ok v s:=h.symm
theorem abx (h:(iD:Pm β) s=r):r= .no:=h.symm
theorem xm {R:World→Va→Value→Prop}{w : World}{r:Rs Va}{n:Int}(hr:r= .no)(hb:Below E.X E.w0 w2)(hk:KP w w2):eZ E R w r (.panicked (mV n)) w2:=by rw[hr];exact⟨⟨n,rfl⟩,hb,hk⟩
theorem Iq {R:World→Va→Value→Prop}{w : World}{r:Rs Va}{v:Va}(hr:r= .ok v s)(hR:R w2 v y)(hp:PW E w2 s)(hk:KP w w2):eZ E R w r (.returned y) w2:=by rw[hr];exact⟨y,rfl,hR,hp,hk⟩
def lC(w:World)(b:Nat)(h:Nat×Nat):Prop:=w.heap[b]? =some (.cells #[.int .i64 h.1, .int .i64 h.2] 77 (0,0))
theorem lC.kp {w : World}{b:Nat}{h:Nat×Nat}(hb:lC w b h)(hk:KP w w'):lC w' b h:=hk.2 _ _ _ _ rfl hb
theorem lC.new(w:World)(h:Nat×Nat):lC (w.alloc (.cells #[.int .i64 h.1, .int .i64 h.2] 77)) w.heap.size h:=dz _ _ _
theorem lC.cells{w:World}{b:Nat}{h:Nat×Nat}(hb:lC w b h):w.cell? ⟨b,0,none⟩=some (.int .i64 h.1)∧w.cell? ⟨b,1,none⟩=some (.int .i64 h.2):=by unfold lC at hb;simp[World.cell?,hb]
structure Wk (E:En) (n:Nat):Prop where
 SX:∀(s:Ps) (w:World),PW E w s→run E.L E.base n (.o9) s≠ .out→Calls Tryz.prog 117 #[.pointer (some ⟨E.pb,0,none⟩)] w (eZ E gq w (run E.L E.base n (.o9) s))
 K8:∀(s:Ps) (w:World),PW E w s→run E.L E.base n (.assign) s≠ .out→Calls Tryz.prog 131 #[.pointer (some ⟨E.pb,0,none⟩)] w (eZ E gq w (run E.L E.base n (.assign) s))
 K9:∀(s:Ps) (w:World),PW E w s→run E.L E.base n (.dx) s≠ .out→Calls Tryz.prog 72 #[.pointer (some ⟨E.pb,0,none⟩)] w (eZ E GY w (run E.L E.base n (.dx) s))
 Gi:∀(k:Nat) (s:Ps) (w:World),PW E w s→run E.L E.base n (.fI k) s≠ .out→Calls Tryz.prog 116 #[.pointer (some ⟨E.pb,0,none⟩), .int .i64 k] w (eZ E GY w (run E.L E.base n (.fI k) s))
 Mq:∀(s:Ps) (w:World),PW E w s→run E.L E.base n (.cast) s≠ .out→Calls Tryz.prog 155 #[.pointer (some ⟨E.pb,0,none⟩)] w (eZ E GY w (run E.L E.base n (.cast) s))
 La:∀(s:Ps) (w:World),PW E w s→run E.L E.base n (.mW) s≠ .out→Calls Tryz.prog 120 #[.pointer (some ⟨E.pb,0,none⟩)] w (eZ E gq w (run E.L E.base n (.mW) s))
 Ir:∀(h:Nat×Nat) (s:Ps) (w:World),PW E w s→run E.L E.base n (.jG h) s≠ .out→Calls Tryz.prog 181 #[.pointer (some ⟨E.pb,0,none⟩),tL h] w (eZ E gq w (run E.L E.base n (.jG h) s))
 Od:∀(s:Ps) (w:World),PW E w s→run E.L E.base n (.unary) s≠ .out→Calls Tryz.prog 180 #[.pointer (some ⟨E.pb,0,none⟩)] w (eZ E gq w (run E.L E.base n (.unary) s))
 SY:∀(v:Bool) (s:Ps) (w:World),PW E w s→run E.L E.base n (.size v) s≠ .out→Calls Tryz.prog 193 #[.pointer (some ⟨E.pb,0,none⟩), .bool v] w (eZ E gq w (run E.L E.base n (.size v) s))
 S9:∀(s:Ps) (w:World),PW E w s→run E.L E.base n (.jT) s≠ .out→Calls Tryz.prog 194 #[.pointer (some ⟨E.pb,0,none⟩)] w (eZ E gq w (run E.L E.base n (.jT) s))
 Iu:∀(h:Nat×Nat) (s:Ps) (w:World),PW E w s→run E.L E.base n (.jf h) s≠ .out→Calls Tryz.prog 195 #[.pointer (some ⟨E.pb,0,none⟩),tL h] w (eZ E gq w (run E.L E.base n (.jf h) s))
 Ta:∀(s:Ps) (w:World),PW E w s→run E.L E.base n (.call) s≠ .out→Calls Tryz.prog 200 #[.pointer (some ⟨E.pb,0,none⟩)] w (eZ E gq w (run E.L E.base n (.call) s))
 Iw:∀(s:Ps) (w:World),PW E w s→run E.L E.base n (.uI) s≠ .out→Calls Tryz.prog 199 #[.pointer (some ⟨E.pb,0,none⟩)] w (eZ E gq w (run E.L E.base n (.uI) s))
 Iy:∀(s:Ps) (w:World),PW E w s→run E.L E.base n (.zR) s≠ .out→Calls Tryz.prog 201 #[.pointer (some ⟨E.pb,0,none⟩)] w (eZ E gq w (run E.L E.base n (.zR) s))
 Oe:∀(s:Ps) (w:World),PW E w s→run E.L E.base n (.wJ) s≠ .out→Calls Tryz.prog 202 #[.pointer (some ⟨E.pb,0,none⟩)] w (eZ E gq w (run E.L E.base n (.wJ) s))
 Bz:∀(s:Ps) (w:World),PW E w s→run E.L E.base n (.jv) s≠ .out→Calls Tryz.prog 89 #[.pointer (some ⟨E.pb,0,none⟩)] w (eZ E gq w (run E.L E.base n (.jv) s))
 Lb:∀(s:Ps) (w:World),PW E w s→run E.L E.base n (.oO) s≠ .out→Calls Tryz.prog 130 #[.pointer (some ⟨E.pb,0,none⟩)] w (eZ E gq w (run E.L E.base n (.oO) s))
 Tc:∀(s:Ps) (w:World),PW E w s→run E.L E.base n (.nz) s≠ .out→Calls Tryz.prog 162 #[.pointer (some ⟨E.pb,0,none⟩)] w (eZ E gq w (run E.L E.base n (.nz) s))
 Og:∀(s:Ps) (w:World),PW E w s→run E.L E.base n (.pg) s≠ .out→Calls Tryz.prog 183 #[.pointer (some ⟨E.pb,0,none⟩)] w (eZ E GY w (run E.L E.base n (.pg) s))
 zi:∀(k:Nat) (s:Ps) (w:World),PW E w s→run E.L E.base n (.bP k) s≠ .out→Calls Tryz.prog 48 #[.pointer (some ⟨E.pb,0,none⟩), .int .i64 k] w (eZ E vaF w (run E.L E.base n (.bP k) s))
 JM:∀(s:Ps) (w:World),PW E w s→run E.L E.base n (.array) s≠ .out→Calls Tryz.prog 124 #[.pointer (some ⟨E.pb,0,none⟩)] w (eZ E gq w (run E.L E.base n (.array) s))
 Gj:∀(s:Ps) (w:World),PW E w s→run E.L E.base n (.params) s≠ .out→Calls Tryz.prog 125 #[.pointer (some ⟨E.pb,0,none⟩)] w (eZ E vaP w (run E.L E.base n (.params) s))
 E8:∀(s:Ps) (w:World),PW E w s→run E.L E.base n (.qA) s≠ .out→Calls Tryz.prog 159 #[.pointer (some ⟨E.pb,0,none⟩)] w (eZ E gq w (run E.L E.base n (.qA) s))
 Ca:∀(s:Ps) (w:World),PW E w s→run E.L E.base n (.j6) s≠ .out→Calls Tryz.prog 33 #[.pointer (some ⟨E.pb,0,none⟩)] w (eZ E gq w (run E.L E.base n (.j6) s))
 Td:∀(p:List (Bs×Bool)) (y:Value) (s:Ps) (w:World),uz w y p→PW E w s→run E.L E.base n (.body p) s≠ .out→Calls Tryz.prog 50 #[.pointer (some ⟨E.pb,0,none⟩),y] w (eZ E gq w (run E.L E.base n (.body p) s))
 BA:∀(s:Ps) (w:World),PW E w s→run E.L E.base n (.iw) s≠ .out→Calls Tryz.prog 128 #[.pointer (some ⟨E.pb,0,none⟩)] w (eZ E gq w (run E.L E.base n (.iw) s))
 Es:∀(t:Bool) (s:Ps) (w:World),PW E w s→run E.L E.base n (.jS t) s≠ .out→Calls Tryz.prog 52 #[.pointer (some ⟨E.pb,0,none⟩), .bool t] w (eZ E gq w (run E.L E.base n (.jS t) s))
 Te:∀(t:Bool) (s:Ps) (w:World),PW E w s→run E.L E.base n (.uQ t) s≠ .out→Calls Tryz.prog 90 #[.pointer (some ⟨E.pb,0,none⟩), .bool t] w (eZ E gq w (run E.L E.base n (.uQ t) s))
 CR:∀(h:Nat×Nat) (s:Ps) (w:World),PW E w s→run E.L E.base n (.iG h) s≠ .out→Calls Tryz.prog 51 #[.pointer (some ⟨E.pb,0,none⟩),tL h] w (eZ E gq w (run E.L E.base n (.iG h) s))
 Lc:∀(s:Ps) (w:World),PW E w s→run E.L E.base n (.vH) s≠ .out→Calls Tryz.prog 45 #[.pointer (some ⟨E.pb,0,none⟩)] w (eZ E gq w (run E.L E.base n (.vH) s))
 JN:∀(s:Ps) (w:World),PW E w s→run E.L E.base n (.wK) s≠ .out→Calls Tryz.prog 87 #[.pointer (some ⟨E.pb,0,none⟩)] w (eZ E gq w (run E.L E.base n (.wK) s))
 Tf:∀(s:Ps) (w:World),PW E w s→run E.L E.base n (.part) s≠ .out→Calls Tryz.prog 197 #[.pointer (some ⟨E.pb,0,none⟩)] w (eZ E gq w (run E.L E.base n (.part) s))
 Et:∀(s:Ps) (w:World),PW E w s→run E.L E.base n (.iP) s≠ .out→Calls Tryz.prog 196 #[.pointer (some ⟨E.pb,0,none⟩)] w (eZ E gq w (run E.L E.base n (.iP) s))
 Oh:∀(x:Bs) (s:Ps) (w:World),PW E w s→run E.L E.base n (.ik x) s≠ .out→Calls Tryz.prog 161 #[.pointer (some ⟨E.pb,0,none⟩), .string (au x)] w (eZ E gq w (run E.L E.base n (.ik x) s))
 Eu:∀(s:Ps) (w:World),PW E w s→run E.L E.base n (.iy) s≠ .out→Calls Tryz.prog 129 #[.pointer (some ⟨E.pb,0,none⟩)] w (eZ E gq w (run E.L E.base n (.iy) s))
 Iz:∀(x:Bs) (h:Nat×Nat) (s:Ps) (w:World),PW E w s→run E.L E.base n (.jg x h) s≠ .out→Calls Tryz.prog 160 #[.pointer (some ⟨E.pb,0,none⟩), .string (au x),tL h] w (eZ E GY w (run E.L E.base n (.jg x h) s))
 Gl:∀(x:Bs) (h:Nat×Nat) (s:Ps) (w:World),PW E w s→run E.L E.base n (.jH x h) s≠ .out→Calls Tryz.prog 182 #[.pointer (some ⟨E.pb,0,none⟩), .string (au x),tL h] w (eZ E gq w (run E.L E.base n (.jH x h) s))
 Oi:∀(a:Bool) (s:Ps) (w:World),PW E w s→run E.L E.base n (.dh a) s≠ .out→Calls Tryz.prog 46 #[.pointer (some ⟨E.pb,0,none⟩), .bool a] w (eZ E GY w (run E.L E.base n (.dh a) s))
 JO:∀(s:Ps) (w:World),PW E w s→run E.L E.base n (.wL) s≠ .out→Calls Tryz.prog 76 #[.pointer (some ⟨E.pb,0,none⟩)] w (eZ E gq w (run E.L E.base n (.wL) s))
 Gm:∀(s:Ps) (w:World),PW E w s→run E.L E.base n (.atomic) s≠ .out→Calls Tryz.prog 77 #[.pointer (some ⟨E.pb,0,none⟩)] w (eZ E gq w (run E.L E.base n (.atomic) s))
 Gn:∀(s:Ps) (w:World),PW E w s→run E.L E.base n (.qW) s≠ .out→Calls Tryz.prog 78 #[.pointer (some ⟨E.pb,0,none⟩)] w (eZ E gq w (run E.L E.base n (.qW) s))
 Ld:∀(s:Ps) (w:World),PW E w s→run E.L E.base n (.nP) s≠ .out→Calls Tryz.prog 121 #[.pointer (some ⟨E.pb,0,none⟩)] w (eZ E gq w (run E.L E.base n (.nP) s))
 Oj:∀(s:Ps) (w:World),PW E w s→run E.L E.base n (.field) s≠ .out→Calls Tryz.prog 157 #[.pointer (some ⟨E.pb,0,none⟩)] w (eZ E gq w (run E.L E.base n (.field) s))
 Mr:∀(s:Ps) (w:World),PW E w s→run E.L E.base n (.yP) s≠ .out→Calls Tryz.prog 79 #[.pointer (some ⟨E.pb,0,none⟩)] w (eZ E gq w (run E.L E.base n (.yP) s))
 CS:∀(s:Ps) (w:World),PW E w s→run E.L E.base n (.ma) s≠ .out→Calls Tryz.prog 122 #[.pointer (some ⟨E.pb,0,none⟩)] w (eZ E gq w (run E.L E.base n (.ma) s))
 Gp:∀(s:Ps) (w:World),PW E w s→run E.L E.base n (.kg) s≠ .out→Calls Tryz.prog 119 #[.pointer (some ⟨E.pb,0,none⟩)] w (eZ E gq w (run E.L E.base n (.kg) s))
set_option maxRecDepth 100000
set_option maxHeartbeats 16000000
theorem YR:(Tryz.prog.info? 3).map (fun i=>(i.zero,i.size,i.bytes))=some (some (.int .i64 0),1,8):=by kernel_rfl
variable {xs : List Value}{X e n : Nat}{v : Value}{w3 : World}
theorem pU {w : World}{sz : Nat}(ho:w.ownsRow X e sz v n xs)(hg:w.grownBy w3 v.ownBlock)(k:Nat)(cs:Array Value)(t:TypeId)(ht:¬t=e)(hk:w.heap[k]? =some (.cells cs t (0,0))):w3.heap[k]? =some (.cells cs t (0,0)):=by
 rw[hg.block k (ψ.1 hk).1 (fun q=>by
  obtain⟨_,cur,hc⟩:=jl ho q.symm;rw[hk]at hc;cases hc
  exact ht rfl)]
 exact hk
variable {M : Nat}
theorem PG {w : World}{sz : Nat}{es:Array MapEntry}{c:Nat}(ho:w.ownsRow X e sz v n xs)(hg:w.grownBy w3 v.ownBlock)(hk:w.heap[M]? =some (.map es c)):w3.heap[M]? =some (.map es c):=by
 rw[hg.block M (ψ.1 hk).1 (fun q=>by
  obtain⟨_,cur,hc⟩:=jl ho q.symm;rw[hk]at hc
  cases hc)]
 exact hk
theorem PH {w : World}{sz : Nat}(ho:w.ownsRow X e sz v n xs)(hg:w.grownBy w3 v.ownBlock)(hX:X≤w.heap.size):Below X w w3:=
 ⟨hg.os,hg.tape,hg.output,hg.size,fun k hk=>hg.block k η (fun q=>by
  obtain⟨hx,_⟩:=jl ho q.symm
  omega)⟩
theorem Tt {w : World}{sz : Nat}(ho:w.ownsRow X e sz v n xs)(hg:w.grownBy w3 v.ownBlock)(he:K5 e=true):KP w w3:=
 ⟨hg.size,fun k cs t fz ht hk=>by
  rw[hg.block k (ψ.1 hk).1 (fun q=>by
   obtain⟨_,cur,hc⟩:=jl ho q.symm;rw[hk]at hc;cases hc;rw[he]at ht
   cases ht)]
  exact hk,fun k x hk=>by
  rw[hg.block k (ψ.1 hk).1 (fun q=>by
   obtain⟨_,cur,hc⟩:=jl ho q.symm;rw[hk]at hc
   cases hc)]
  exact hk⟩
variable {mb : Nat}{vb vc vd : Value}
theorem PX.CU {w:World}(h:PX E w s vd vc vb mb)(hE:E.ok):E.X≤w.heap.size:=by have:=h.lu.size;rw[hE.X];exact this
variable {Xd : Value}
theorem PX.kH {w : World}(h:PX E w s vd vc vb mb)(hE:E.ok)(hbg:s.nm.bl.length≤2*E.L.length+1)(hg:w.grownBy w3 vb.ownBlock)(ho:w3.ownsRow E.X 3 1 Xd (s.nm.bl.length+1) (s.nm.bl.flatMap AY++AY s.nm.ch.length)):
 PX E (w3.setCell ⟨E.pb,6,none⟩ Xd) {s with nm:=s.nm.kH} vd vc Xd mb∧KP w (w3.setCell ⟨E.pb,6,none⟩ Xd):=by
 have hb3:=pU h.bl hg _ _ 75 ζ h.box
 refine⟨{lu:=(h.lu.trans (PH h.bl hg (h.CU hE))).setCell hE.pb _,box:=?_,dn:=?_,ch:=?_,bl:=?_,mp:=?_,mx:=h.mx,le:=h.le,tx:=h.tx,cb:=h.cb,bb:=?_},?_⟩
 ·have:=gJ (i:=6) (v:=Xd) hb3;simpa using this
 ·exact iJ hb3 ζ (fq h.dn fun g cur hq=>pU h.bl hg _ _ _ ζ hq)
 ·exact iJ hb3 ζ (fq h.ch fun g cur hq=>pU h.bl hg _ _ _ ζ hq)
 ·have:=iJ (x:=Xd) (i:=6) hb3 ζ ho
  simpa[Ns.kH]using this
 ·refine Nm.set hb3 ?_
  obtain⟨n,D,h1,h2⟩:=h.mp;exact⟨n,D,pI h1 fun es c hq=>PG h.bl hg hq,h2⟩
 ·simp only[Ns.kH,Δ,aaJ,List.length_nil];omega
 ·exact(Tt h.bl hg rfl).trans (KP.set hb3 rfl)
theorem Ol (hE:E.ok)(s:Ps)(w:World)(hp:PW E w s)(hne:jU E.L s≠ .out):Calls Tryz.prog 86 #[.pointer (some ⟨E.pb,3,none⟩)] w (fO E Px w (jU E.L s)):=by
 have hg:s.nm.bl.length≤2*E.L.length+1:=by
  unfold jU at hne
  split at hne
  ·assumption
  ·exact absurd rfl hne
 have hr:jU E.L s= .ok () {s with nm:=s.nm.kH}:=by unfold jU;rw[ω hg]
 rw[hr]
 clear hne hr
 have hL:=hE.len
 obtain⟨i0,hi0,hz0,hz1,hz2⟩:=rJ YR
 obtain⟨vd,vc,vb,mb,hx⟩:=hp
 obtain⟨ba,bc,rfl⟩:=fF hx.bl
 obtain⟨ca,cc,rfl⟩:=fF hx.ch
 obtain⟨n,hn⟩:∃n,s.nm.bl.length=n:=⟨_,rfl⟩
 obtain⟨a,ha⟩:∃a,s.nm.ch.length=a:=⟨_,rfl⟩
 rw[hn]at hg hx
 rw[ha]at hx
 have hbl:=hx.bl
 have hbx:=hx.box
 rw[hn]at hbl
 obtain⟨V1,hV1⟩:∃V1,V1=w.drew.alloc (.cells #[.int .i64 a] 3):=⟨_,rfl⟩
 have wu:Below w.heap.size w V1:=by rw[hV1];exact((Below.refl _ w).drew).alloc (υ _) _
 have BK:=hx.ext hE wu
 have hnr:V1.heap[w.heap.size]? =some (.cells #[.int .i64 a] 3 (0,0)):=by rw[hV1];exact dz w.drew _ _
 have YS:=BK.bl
 rw[hn]at YS
 obtain⟨v',w3,hrun,hown3,hgrow3, -⟩:=run_append_own_at (P:=Tryz.prog) (w:=V1) E.X 61 61 3 i0 (.int .i64 0) 1 8 Tryz.underlying61 hi0 hz0 hz1 hz2 rfl ζ (.slice ba n bc) n (s.nm.bl.flatMap AY) YS
  ⟨w.heap.size,0,none⟩ 1 1 [.int .i64 a] rfl (fun j u hu=>by
   match j,hu with
   |0,hu=>simp at hu;subst hu;simp[World.cell?,Addr.add,hnr]
   |j+1,hu=>simp at hu) (fun u hu=>by simp at hu;subst hu;rfl) (by unfold maxLen;omega) η (BK.CU hE)
 obtain⟨ba',bc',rfl⟩:=fF hown3
 have hV:∃V:Nat→World,V 0=w.drew∧V 1=V1∧∀j,2≤j→V j=w3:=⟨fun j=>match j with|0=>w.drew|1=>V1|_=>w3,rfl,rfl,fun j hj=>by
  match j,hj with
  |j+2,_=>rfl⟩
 obtain⟨V,uy,Bw,hV2⟩:=hV
 have hB:∀j,(V j).heap[E.pb]? =some (.cells #[.slice E.la E.L.length E.lc, .int .i64 s.af,vd,E.sp, .map (some mb), .slice ca a cc, .slice ba n bc] 75 (0,0)):=fun j=>by
  have q1:=aF wu hbx (ψ.1 hbx).1
  match j with
  |0=>rw[uy];exact hbx
  |1=>rw[Bw];exact q1
  |j+2=>rw[hV2 _ η];exact pU YS hgrow3 _ _ _ ζ q1
 have c5:∀j,(V j).cell? ⟨E.pb,5,none⟩=some (.slice ca a cc):=fun j=>by simp[World.cell?,hB j]
 have c6:∀j,(V j).cell? ⟨E.pb,6,none⟩=some (.slice ba n bc):=fun j=>by simp[World.cell?,hB j]
 have e6:w3.cell? ⟨E.pb,6,none⟩=some (.slice ba n bc):=by have:=c6 2;rwa[hV2 2 (υ _)]at this
 have f6:w3.frozen? ⟨E.pb,6,none⟩=false:=by have:=hB 2;rw[hV2 2 (υ _)]at this;exact ab7 this 6
 have hfin:=BK.kH hE (by rw[hn];exact hg) hgrow3 (by rw[hn,ha];exact hown3)
 have SK:=Hh hfin
 have Gg:=Hh hrun
 have Im:=Hh hV1
 have K0:=Hh uy
 have K1:=Hh Bw
 have K2:=Hh hV2
 have SN:=Hh wu
 clear hx BK hfin hrun hV1 uy Bw hV2 wu hnr YS hbl hbx hown3 hgrow3 hB hn ha hi0 hz0 hz1 hz2
 go_enter Tryz.func86,Tryz.ntmps86
 refine oZ V [10,11] 14 K0.out (by kernel_rfl) (by kernel_rfl) ?_
 simp only[List.take_succ_cons,List.take_zero,List.drop_succ_cons,List.drop_zero]
 refine nu 10 (by kernel_rfl) ?_
 simp only[List.take_succ_cons,List.take_zero,List.drop_succ_cons,List.drop_zero]
 repeat(go_big_quiet_step (fail))
 refine abO ?_
 refine xQ 0 (.slice (some ⟨w.heap.size,0,none⟩) 1 1) (by kernel_rfl) rfl (.inl ?_) ?_
 ·rw[K0.out,K1.out,Im.out]
  kernel_rfl
 refine xQ 1 (.slice ba' (n+1) bc') (by kernel_rfl) rfl (.inl ?_) ?_
 ·rw[K1.out,K2.out _ (υ _)]
  exact Ed rfl rfl rfl Gg.out
 refine nu 2 (by kernel_rfl) ?_
 simp only[List.take_succ_cons,List.take_zero,List.drop_succ_cons,List.drop_zero,Act.put,abu,abH,abG]
 repeat(go_big_quiet_step (fail))
 refine abO ?_
 refine Du ?_
 rw[show V ([10,11]:List Nat).length=w3 from K2.out _ (υ _)]
 go_wp2_with fail
 refine⟨rfl, .tuple #[],by simp[results,Tryz.results86,go_sem],rfl,⟨_,_,_,_,SK.out.1⟩,(KP.aT SN.out).trans SK.out.2⟩
end Go.Proofs.YtlboejdhmggjpaaGreat.Pp
